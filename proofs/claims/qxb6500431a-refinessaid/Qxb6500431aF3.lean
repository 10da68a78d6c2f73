import Derived.Test.Qxb6500431aSig
set_option maxRecDepth 100000
set_option linter.unusedVariables false
open Go.Vc
namespace Go.Proofs.Qxb6500431a
def rlogm_state_clone.B0 (s : Option Addr) (w : World)   (R : Option Addr → World → Prop) : Prop :=
  Pn s fun a =>
  LdI .i64 a w.drew fun x7 =>
  Pn s fun a_1 =>
  LdI .i64 (a_1.add 1) w.drew fun x11 =>
  Pn s fun a_2 =>
  LdI .i64 (a_2.add 2) w.drew fun x15 =>
  Pn s fun a_3 =>
  LdI .i64 (a_3.add 3) w.drew fun x19 =>
  Pn s fun a_4 =>
  LdS (a_4.add 4) w.drew fun x23 =>
  Pn s fun a_5 =>
  LdI .i64 (a_5.add 5) w.drew fun x27 =>
  New (.cells #[.int .i64 x7, .int .i64 x11, .int .i64 x15, .int .i64 x19, .string x23, .int .i64 x27, .int .i64 (0 : Int), .string (ByteArray.mk #[]), .int .i64 (0 : Int), .string (ByteArray.mk #[]), .int .i64 (0 : Int), .string (ByteArray.mk #[]), .int .i64 (0 : Int), .string (ByteArray.mk #[]), .int .i64 (0 : Int), .string (ByteArray.mk #[]), .int .i64 (0 : Int), .string (ByteArray.mk #[])] 57) w.drew fun b29 w1 =>
  Pn s fun a_6 =>
  LdI .i64 (a_6.add 6) w1 fun x34_0 =>
  LdS ((a_6.add 6).add 1) w1 fun x34_1 =>
  LdI .i64 ((a_6.add 6).add 2) w1 fun x34_2 =>
  LdS ((a_6.add 6).add 3) w1 fun x34_3 =>
  LdI .i64 ((a_6.add 6).add 4) w1 fun x34_4 =>
  LdS ((a_6.add 6).add 5) w1 fun x34_5 =>
  LdI .i64 ((a_6.add 6).add 6) w1 fun x34_6 =>
  LdS ((a_6.add 6).add 7) w1 fun x34_7 =>
  LdI .i64 ((a_6.add 6).add 8) w1 fun x34_8 =>
  LdS ((a_6.add 6).add 9) w1 fun x34_9 =>
  LdI .i64 ((a_6.add 6).add 10) w1 fun x34_10 =>
  LdS ((a_6.add 6).add 11) w1 fun x34_11 =>
  Sts [.int .i64 x34_0, .string x34_1, .int .i64 x34_2, .string x34_3, .int .i64 x34_4, .string x34_5, .int .i64 x34_6, .string x34_7, .int .i64 x34_8, .string x34_9, .int .i64 x34_10, .string x34_11] ⟨b29, 6, none⟩ 0 w1 fun w2 =>
  R (some ⟨b29, 0, none⟩) w2
theorem rlogm_state_clone.B0_eq (s : Option Addr) (w : World)   (R : Option Addr → World → Prop)  :
    (
  Pn s fun a =>
  LdI .i64 a w.drew fun x7 =>
  Pn s fun a_1 =>
  LdI .i64 (a_1.add 1) w.drew fun x11 =>
  Pn s fun a_2 =>
  LdI .i64 (a_2.add 2) w.drew fun x15 =>
  Pn s fun a_3 =>
  LdI .i64 (a_3.add 3) w.drew fun x19 =>
  Pn s fun a_4 =>
  LdS (a_4.add 4) w.drew fun x23 =>
  Pn s fun a_5 =>
  LdI .i64 (a_5.add 5) w.drew fun x27 =>
  New (.cells #[.int .i64 x7, .int .i64 x11, .int .i64 x15, .int .i64 x19, .string x23, .int .i64 x27, .int .i64 (0 : Int), .string (ByteArray.mk #[]), .int .i64 (0 : Int), .string (ByteArray.mk #[]), .int .i64 (0 : Int), .string (ByteArray.mk #[]), .int .i64 (0 : Int), .string (ByteArray.mk #[]), .int .i64 (0 : Int), .string (ByteArray.mk #[]), .int .i64 (0 : Int), .string (ByteArray.mk #[])] 57) w.drew fun b29 w1 =>
  Pn s fun a_6 =>
  LdI .i64 (a_6.add 6) w1 fun x34_0 =>
  LdS ((a_6.add 6).add 1) w1 fun x34_1 =>
  LdI .i64 ((a_6.add 6).add 2) w1 fun x34_2 =>
  LdS ((a_6.add 6).add 3) w1 fun x34_3 =>
  LdI .i64 ((a_6.add 6).add 4) w1 fun x34_4 =>
  LdS ((a_6.add 6).add 5) w1 fun x34_5 =>
  LdI .i64 ((a_6.add 6).add 6) w1 fun x34_6 =>
  LdS ((a_6.add 6).add 7) w1 fun x34_7 =>
  LdI .i64 ((a_6.add 6).add 8) w1 fun x34_8 =>
  LdS ((a_6.add 6).add 9) w1 fun x34_9 =>
  LdI .i64 ((a_6.add 6).add 10) w1 fun x34_10 =>
  LdS ((a_6.add 6).add 11) w1 fun x34_11 =>
  Sts [.int .i64 x34_0, .string x34_1, .int .i64 x34_2, .string x34_3, .int .i64 x34_4, .string x34_5, .int .i64 x34_6, .string x34_7, .int .i64 x34_8, .string x34_9, .int .i64 x34_10, .string x34_11] ⟨b29, 6, none⟩ 0 w1 fun w2 =>
  R (some ⟨b29, 0, none⟩) w2) = kstep Try.prog 38 Try.f27.results.toList (Try.f27.body.getD .skip) (rlogm_state_clone.RV R) (kvc Try.prog 38 Try.f27.results.toList (Try.f27.body.getD .skip) (rlogm_state_clone.RV R) [] 2000) [(0, [])] [(0, .pointer s)] w := by kernel_rfl
theorem rlogm_state_clone.B0_sound {R : Option Addr → World → Prop}  (s : Option Addr) (w : World) (h : rlogm_state_clone.B0 s w   R) :
    KW Try.prog 27 38 (rlogm_state_clone.RV R) ([(0, [])].map (toItem (Try.f27.body.getD .skip))) [(0, .pointer s)] w := by
  exact block_spec Try.func27 Try.mixed stops_nil (Eq.mp (rlogm_state_clone.B0_eq s w   R ) h)
theorem rlogm_state_clone.sound (s : Option Addr) (w : World) (R : Option Addr → World → Prop) (h : rlogm_state_clone.B0 s w R) : rlogm_state_clone.Call s w R := by
  have hc := calls_of_block (args := #[.pointer s]) Try.func27 (body := (Try.f27.body.getD .skip)) (by kernel_rfl) (by kernel_rfl) (args_slot _) (rlogm_state_clone.B0_sound s w h)
  exact hc.mono fun e w' he => by
    obtain ⟨v, rfl, hv⟩ := he
    exact rlogm_state_clone.RV_elim hv
def diskm_Disk_Steps.B0 (d : Option Addr) (w : World)   (R : Int → World → Prop) : Prop :=
  Pn d fun a =>
  LdL (a.add 2) w fun x6_b x6_l x6_c =>
  R ((x6_l : Nat) : Int) w
theorem diskm_Disk_Steps.B0_eq (d : Option Addr) (w : World)   (R : Int → World → Prop)  :
    (
  Pn d fun a =>
  LdL (a.add 2) w fun x6_b x6_l x6_c =>
  R ((x6_l : Nat) : Int) w) = kstep Try.prog 8 Try.f28.results.toList (Try.f28.body.getD .skip) (diskm_Disk_Steps.RV R) (kvc Try.prog 8 Try.f28.results.toList (Try.f28.body.getD .skip) (diskm_Disk_Steps.RV R) [] 2000) [(0, [])] [(0, .pointer d)] w := by kernel_rfl
theorem diskm_Disk_Steps.B0_sound {R : Int → World → Prop}  (d : Option Addr) (w : World) (h : diskm_Disk_Steps.B0 d w   R) :
    KW Try.prog 28 8 (diskm_Disk_Steps.RV R) ([(0, [])].map (toItem (Try.f28.body.getD .skip))) [(0, .pointer d)] w := by
  exact block_spec Try.func28 Try.mixed stops_nil (Eq.mp (diskm_Disk_Steps.B0_eq d w   R ) h)
theorem diskm_Disk_Steps.sound (d : Option Addr) (w : World) (R : Int → World → Prop) (h : diskm_Disk_Steps.B0 d w R) : diskm_Disk_Steps.Call d w R := by
  have hc := calls_of_block (args := #[.pointer d]) Try.func28 (body := (Try.f28.body.getD .skip)) (by kernel_rfl) (by kernel_rfl) (args_slot _) (diskm_Disk_Steps.B0_sound d w h)
  exact hc.mono fun e w' he => by
    obtain ⟨v, rfl, hv⟩ := he
    exact diskm_Disk_Steps.RV_elim hv
def diskm_Disk_Mark.B0 (d : Option Addr) (w : World)   (R : World → Prop) : Prop :=
  Pn d fun a =>
  LdL a w fun x6_b x6_l x6_c =>
  diskm_blocks.Call x6_b x6_l x6_c w fun r7_b r7_l r7_c w1 =>
  Pn d fun a_1 =>
  Sts [.slice r7_b r7_l r7_c] (a_1.add 1) 0 w1 fun w2 =>
  Pn d fun a_2 =>
  Sts [.slice none 0 0] (a_2.add 2) 0 w2 fun w3 =>
  R  w3
theorem diskm_Disk_Mark.B0_eq (d : Option Addr) (w : World)   (R : World → Prop)  :
    (
  Pn d fun a =>
  LdL a w fun x6_b x6_l x6_c =>
  diskm_blocks.Call x6_b x6_l x6_c w fun r7_b r7_l r7_c w1 =>
  Pn d fun a_1 =>
  Sts [.slice r7_b r7_l r7_c] (a_1.add 1) 0 w1 fun w2 =>
  Pn d fun a_2 =>
  Sts [.slice none 0 0] (a_2.add 2) 0 w2 fun w3 =>
  R  w3) = kstep Try.prog 13 Try.f29.results.toList (Try.f29.body.getD .skip) (diskm_Disk_Mark.RV R) (kvc Try.prog 13 Try.f29.results.toList (Try.f29.body.getD .skip) (diskm_Disk_Mark.RV R) [] 2000) [(0, [])] [(0, .pointer d)] w := by kernel_rfl
theorem diskm_Disk_Mark.B0_sound {R : World → Prop}  (d : Option Addr) (w : World) (h : diskm_Disk_Mark.B0 d w   R) :
    KW Try.prog 29 13 (diskm_Disk_Mark.RV R) ([(0, [])].map (toItem (Try.f29.body.getD .skip))) [(0, .pointer d)] w := by
  exact block_spec Try.func29 Try.mixed stops_nil (Eq.mp (diskm_Disk_Mark.B0_eq d w   R ) h)
theorem diskm_Disk_Mark.sound (d : Option Addr) (w : World) (R : World → Prop) (h : diskm_Disk_Mark.B0 d w R) : diskm_Disk_Mark.Call d w R := by
  have hc := calls_of_block (args := #[.pointer d]) Try.func29 (body := (Try.f29.body.getD .skip)) (by kernel_rfl) (by kernel_rfl) (args_slot _) (diskm_Disk_Mark.B0_sound d w h)
  exact hc.mono fun e w' he => by
    obtain ⟨v, rfl, hv⟩ := he
    exact diskm_Disk_Mark.RV_elim hv
def rloglaw_SameSetTerm.B0 (x m0 : Option Addr) (term vote : Int) (w : World)   (R : Bool → World → Prop) : Prop :=
  rlog_Log_SetTerm.Call x term vote w fun r14 w1 =>
  rlogm_Log_SetTerm.Call m0 term vote w1 fun r18 w2 =>
  R (r14 == r18) w2
theorem rloglaw_SameSetTerm.B0_eq (x m0 : Option Addr) (term vote : Int) (w : World)   (R : Bool → World → Prop)  :
    (
  rlog_Log_SetTerm.Call x term vote w fun r14 w1 =>
  rlogm_Log_SetTerm.Call m0 term vote w1 fun r18 w2 =>
  R (r14 == r18) w2) = kstep Try.prog 22 Try.f30.results.toList (Try.f30.body.getD .skip) (rloglaw_SameSetTerm.RV R) (kvc Try.prog 22 Try.f30.results.toList (Try.f30.body.getD .skip) (rloglaw_SameSetTerm.RV R) [] 2000) [(0, [])] [(0, .pointer x), (1, .pointer m0), (2, .int .i64 term), (3, .int .i64 vote)] w := by kernel_rfl
theorem rloglaw_SameSetTerm.B0_sound {R : Bool → World → Prop}  (x m0 : Option Addr) (term vote : Int) (w : World) (h : rloglaw_SameSetTerm.B0 x m0 term vote w   R) :
    KW Try.prog 30 22 (rloglaw_SameSetTerm.RV R) ([(0, [])].map (toItem (Try.f30.body.getD .skip))) [(0, .pointer x), (1, .pointer m0), (2, .int .i64 term), (3, .int .i64 vote)] w := by
  exact block_spec Try.func30 Try.mixed stops_nil (Eq.mp (rloglaw_SameSetTerm.B0_eq x m0 term vote w   R ) h)
theorem rloglaw_SameSetTerm.sound (x m0 : Option Addr) (term vote : Int) (w : World) (R : Bool → World → Prop) (h : rloglaw_SameSetTerm.B0 x m0 term vote w R) : rloglaw_SameSetTerm.Call x m0 term vote w R := by
  have hc := calls_of_block (args := #[.pointer x, .pointer m0, .int .i64 term, .int .i64 vote]) Try.func30 (body := (Try.f30.body.getD .skip)) (by kernel_rfl) (by kernel_rfl) (args_slot _) (rloglaw_SameSetTerm.B0_sound x m0 term vote w h)
  exact hc.mono fun e w' he => by
    obtain ⟨v, rfl, hv⟩ := he
    exact rloglaw_SameSetTerm.RV_elim hv
def rloglaw_SameAppend.B0 (x m0 : Option Addr) (e_0 : Int) (e_1 : ByteArray) (w : World)   (R : Bool → World → Prop) : Prop :=
  New (.cells #[.int .i64 e_0, .string e_1] 54) w fun e_ w1 =>
  LdI .i64 ⟨e_, 0, none⟩ w1 fun x10_0 =>
  LdS ⟨e_, 1, none⟩ w1 fun x10_1 =>
  rlog_Log_Append.Call x x10_0 x10_1 w1 fun r11 w2 =>
  LdI .i64 ⟨e_, 0, none⟩ w2 fun x13_0 =>
  LdS ⟨e_, 1, none⟩ w2 fun x13_1 =>
  rlogm_Log_Append.Call m0 x13_0 x13_1 w2 fun r14 w3 =>
  R (r11 == r14) w3
theorem rloglaw_SameAppend.B0_eq (x m0 : Option Addr) (e_0 : Int) (e_1 : ByteArray) (w : World)   (R : Bool → World → Prop)  :
    (
  New (.cells #[.int .i64 e_0, .string e_1] 54) w fun e_ w1 =>
  LdI .i64 ⟨e_, 0, none⟩ w1 fun x10_0 =>
  LdS ⟨e_, 1, none⟩ w1 fun x10_1 =>
  rlog_Log_Append.Call x x10_0 x10_1 w1 fun r11 w2 =>
  LdI .i64 ⟨e_, 0, none⟩ w2 fun x13_0 =>
  LdS ⟨e_, 1, none⟩ w2 fun x13_1 =>
  rlogm_Log_Append.Call m0 x13_0 x13_1 w2 fun r14 w3 =>
  R (r11 == r14) w3) = kstep Try.prog 18 Try.f31.results.toList (Try.f31.body.getD .skip) (rloglaw_SameAppend.RV R) (kvc Try.prog 18 Try.f31.results.toList (Try.f31.body.getD .skip) (rloglaw_SameAppend.RV R) [] 2000) [(0, [])] [(0, .pointer x), (1, .pointer m0), (2, .agg #[.int .i64 e_0, .string e_1])] w := by kernel_rfl
theorem rloglaw_SameAppend.B0_sound {R : Bool → World → Prop}  (x m0 : Option Addr) (e_0 : Int) (e_1 : ByteArray) (w : World) (h : rloglaw_SameAppend.B0 x m0 e_0 e_1 w   R) :
    KW Try.prog 31 18 (rloglaw_SameAppend.RV R) ([(0, [])].map (toItem (Try.f31.body.getD .skip))) [(0, .pointer x), (1, .pointer m0), (2, .agg #[.int .i64 e_0, .string e_1])] w := by
  exact block_spec Try.func31 Try.mixed stops_nil (Eq.mp (rloglaw_SameAppend.B0_eq x m0 e_0 e_1 w   R ) h)
theorem rloglaw_SameAppend.sound (x m0 : Option Addr) (e_0 : Int) (e_1 : ByteArray) (w : World) (R : Bool → World → Prop) (h : rloglaw_SameAppend.B0 x m0 e_0 e_1 w R) : rloglaw_SameAppend.Call x m0 e_0 e_1 w R := by
  have hc := calls_of_block (args := #[.pointer x, .pointer m0, .agg #[.int .i64 e_0, .string e_1]]) Try.func31 (body := (Try.f31.body.getD .skip)) (by kernel_rfl) (by kernel_rfl) (args_slot _) (rloglaw_SameAppend.B0_sound x m0 e_0 e_1 w h)
  exact hc.mono fun e w' he => by
    obtain ⟨v, rfl, hv⟩ := he
    exact rloglaw_SameAppend.RV_elim hv
def rloglaw_SameTruncate.B0 (x m0 : Option Addr) (i : Int) (w : World)   (R : Bool → World → Prop) : Prop :=
  rlog_Log_TruncateFrom.Call x i w fun r11 w1 =>
  rlogm_Log_TruncateFrom.Call m0 i w1 fun r14 w2 =>
  R (r11 == r14) w2
theorem rloglaw_SameTruncate.B0_eq (x m0 : Option Addr) (i : Int) (w : World)   (R : Bool → World → Prop)  :
    (
  rlog_Log_TruncateFrom.Call x i w fun r11 w1 =>
  rlogm_Log_TruncateFrom.Call m0 i w1 fun r14 w2 =>
  R (r11 == r14) w2) = kstep Try.prog 18 Try.f32.results.toList (Try.f32.body.getD .skip) (rloglaw_SameTruncate.RV R) (kvc Try.prog 18 Try.f32.results.toList (Try.f32.body.getD .skip) (rloglaw_SameTruncate.RV R) [] 2000) [(0, [])] [(0, .pointer x), (1, .pointer m0), (2, .int .i64 i)] w := by kernel_rfl
theorem rloglaw_SameTruncate.B0_sound {R : Bool → World → Prop}  (x m0 : Option Addr) (i : Int) (w : World) (h : rloglaw_SameTruncate.B0 x m0 i w   R) :
    KW Try.prog 32 18 (rloglaw_SameTruncate.RV R) ([(0, [])].map (toItem (Try.f32.body.getD .skip))) [(0, .pointer x), (1, .pointer m0), (2, .int .i64 i)] w := by
  exact block_spec Try.func32 Try.mixed stops_nil (Eq.mp (rloglaw_SameTruncate.B0_eq x m0 i w   R ) h)
theorem rloglaw_SameTruncate.sound (x m0 : Option Addr) (i : Int) (w : World) (R : Bool → World → Prop) (h : rloglaw_SameTruncate.B0 x m0 i w R) : rloglaw_SameTruncate.Call x m0 i w R := by
  have hc := calls_of_block (args := #[.pointer x, .pointer m0, .int .i64 i]) Try.func32 (body := (Try.f32.body.getD .skip)) (by kernel_rfl) (by kernel_rfl) (args_slot _) (rloglaw_SameTruncate.B0_sound x m0 i w h)
  exact hc.mono fun e w' he => by
    obtain ⟨v, rfl, hv⟩ := he
    exact rloglaw_SameTruncate.RV_elim hv
def rloglaw_SameCompact.B0 (x m0 : Option Addr) (upTo : Int) (snap : ByteArray) (w : World)   (R : Bool → World → Prop) : Prop :=
  rlog_Log_Compact.Call x upTo snap w fun r14 w1 =>
  rlogm_Log_Compact.Call m0 upTo snap w1 fun r18 w2 =>
  R (r14 == r18) w2
theorem rloglaw_SameCompact.B0_eq (x m0 : Option Addr) (upTo : Int) (snap : ByteArray) (w : World)   (R : Bool → World → Prop)  :
    (
  rlog_Log_Compact.Call x upTo snap w fun r14 w1 =>
  rlogm_Log_Compact.Call m0 upTo snap w1 fun r18 w2 =>
  R (r14 == r18) w2) = kstep Try.prog 22 Try.f33.results.toList (Try.f33.body.getD .skip) (rloglaw_SameCompact.RV R) (kvc Try.prog 22 Try.f33.results.toList (Try.f33.body.getD .skip) (rloglaw_SameCompact.RV R) [] 2000) [(0, [])] [(0, .pointer x), (1, .pointer m0), (2, .int .i64 upTo), (3, .string snap)] w := by kernel_rfl
theorem rloglaw_SameCompact.B0_sound {R : Bool → World → Prop}  (x m0 : Option Addr) (upTo : Int) (snap : ByteArray) (w : World) (h : rloglaw_SameCompact.B0 x m0 upTo snap w   R) :
    KW Try.prog 33 22 (rloglaw_SameCompact.RV R) ([(0, [])].map (toItem (Try.f33.body.getD .skip))) [(0, .pointer x), (1, .pointer m0), (2, .int .i64 upTo), (3, .string snap)] w := by
  exact block_spec Try.func33 Try.mixed stops_nil (Eq.mp (rloglaw_SameCompact.B0_eq x m0 upTo snap w   R ) h)
theorem rloglaw_SameCompact.sound (x m0 : Option Addr) (upTo : Int) (snap : ByteArray) (w : World) (R : Bool → World → Prop) (h : rloglaw_SameCompact.B0 x m0 upTo snap w R) : rloglaw_SameCompact.Call x m0 upTo snap w R := by
  have hc := calls_of_block (args := #[.pointer x, .pointer m0, .int .i64 upTo, .string snap]) Try.func33 (body := (Try.f33.body.getD .skip)) (by kernel_rfl) (by kernel_rfl) (args_slot _) (rloglaw_SameCompact.B0_sound x m0 upTo snap w h)
  exact hc.mono fun e w' he => by
    obtain ⟨v, rfl, hv⟩ := he
    exact rloglaw_SameCompact.RV_elim hv
def rloglaw_SameInstall.B0 (x m0 : Option Addr) (idx term : Int) (snap : ByteArray) (w : World)   (R : Bool → World → Prop) : Prop :=
  rlog_Log_Install.Call x idx term snap w fun r17 w1 =>
  rlogm_Log_Install.Call m0 idx term snap w1 fun r22 w2 =>
  R (r17 == r22) w2
theorem rloglaw_SameInstall.B0_eq (x m0 : Option Addr) (idx term : Int) (snap : ByteArray) (w : World)   (R : Bool → World → Prop)  :
    (
  rlog_Log_Install.Call x idx term snap w fun r17 w1 =>
  rlogm_Log_Install.Call m0 idx term snap w1 fun r22 w2 =>
  R (r17 == r22) w2) = kstep Try.prog 26 Try.f34.results.toList (Try.f34.body.getD .skip) (rloglaw_SameInstall.RV R) (kvc Try.prog 26 Try.f34.results.toList (Try.f34.body.getD .skip) (rloglaw_SameInstall.RV R) [] 2000) [(0, [])] [(0, .pointer x), (1, .pointer m0), (2, .int .i64 idx), (3, .int .i64 term), (4, .string snap)] w := by kernel_rfl
theorem rloglaw_SameInstall.B0_sound {R : Bool → World → Prop}  (x m0 : Option Addr) (idx term : Int) (snap : ByteArray) (w : World) (h : rloglaw_SameInstall.B0 x m0 idx term snap w   R) :
    KW Try.prog 34 26 (rloglaw_SameInstall.RV R) ([(0, [])].map (toItem (Try.f34.body.getD .skip))) [(0, .pointer x), (1, .pointer m0), (2, .int .i64 idx), (3, .int .i64 term), (4, .string snap)] w := by
  exact block_spec Try.func34 Try.mixed stops_nil (Eq.mp (rloglaw_SameInstall.B0_eq x m0 idx term snap w   R ) h)
theorem rloglaw_SameInstall.sound (x m0 : Option Addr) (idx term : Int) (snap : ByteArray) (w : World) (R : Bool → World → Prop) (h : rloglaw_SameInstall.B0 x m0 idx term snap w R) : rloglaw_SameInstall.Call x m0 idx term snap w R := by
  have hc := calls_of_block (args := #[.pointer x, .pointer m0, .int .i64 idx, .int .i64 term, .string snap]) Try.func34 (body := (Try.f34.body.getD .skip)) (by kernel_rfl) (by kernel_rfl) (args_slot _) (rloglaw_SameInstall.B0_sound x m0 idx term snap w h)
  exact hc.mono fun e w' he => by
    obtain ⟨v, rfl, hv⟩ := he
    exact rloglaw_SameInstall.RV_elim hv
def rloglaw_SameAt.B0 (x m0 : Option Addr) (i : Int) (w : World)   (R : Bool → World → Prop) : Prop :=
  rlog_Log_At.Call x i w fun r14_0_0 r14_0_1 r14_1 w1 =>
  New (.cells #[.int .i64 (0 : Int), .string (ByteArray.mk #[])] 54) w1 fun e_ w2 =>
  Sts [.int .i64 r14_0_0, .string r14_0_1] ⟨e_, 0, none⟩ 0 w2 fun w3 =>
  rlogm_Log_At.Call m0 i w3 fun r20_0_0 r20_0_1 r20_1 w4 =>
  New (.cells #[.int .i64 (0 : Int), .string (ByteArray.mk #[])] 54) w4 fun f_ w5 =>
  Sts [.int .i64 r20_0_0, .string r20_0_1] ⟨f_, 0, none⟩ 0 w5 fun w6 =>
  Bm (r14_1 == r20_1) (
    LdI .i64 ⟨e_, 0, none⟩ w6 fun x28 =>
    LdI .i64 ⟨f_, 0, none⟩ w6 fun x30 =>
    Bm (x28 == x30) (
      LdS ⟨e_, 1, none⟩ w6 fun x35 =>
      LdS ⟨f_, 1, none⟩ w6 fun x37 =>
      R (x35.toList == x37.toList) w6) (
      R false w6)) (
    R false w6)
theorem rloglaw_SameAt.B0_eq (x m0 : Option Addr) (i : Int) (w : World)   (R : Bool → World → Prop)  :
    (
  rlog_Log_At.Call x i w fun r14_0_0 r14_0_1 r14_1 w1 =>
  New (.cells #[.int .i64 (0 : Int), .string (ByteArray.mk #[])] 54) w1 fun e_ w2 =>
  Sts [.int .i64 r14_0_0, .string r14_0_1] ⟨e_, 0, none⟩ 0 w2 fun w3 =>
  rlogm_Log_At.Call m0 i w3 fun r20_0_0 r20_0_1 r20_1 w4 =>
  New (.cells #[.int .i64 (0 : Int), .string (ByteArray.mk #[])] 54) w4 fun f_ w5 =>
  Sts [.int .i64 r20_0_0, .string r20_0_1] ⟨f_, 0, none⟩ 0 w5 fun w6 =>
  Bm (r14_1 == r20_1) (
    LdI .i64 ⟨e_, 0, none⟩ w6 fun x28 =>
    LdI .i64 ⟨f_, 0, none⟩ w6 fun x30 =>
    Bm (x28 == x30) (
      LdS ⟨e_, 1, none⟩ w6 fun x35 =>
      LdS ⟨f_, 1, none⟩ w6 fun x37 =>
      R (x35.toList == x37.toList) w6) (
      R false w6)) (
    R false w6)) = kstep Try.prog 40 Try.f35.results.toList (Try.f35.body.getD .skip) (rloglaw_SameAt.RV R) (kvc Try.prog 40 Try.f35.results.toList (Try.f35.body.getD .skip) (rloglaw_SameAt.RV R) [] 2000) [(0, [])] [(0, .pointer x), (1, .pointer m0), (2, .int .i64 i)] w := by kernel_rfl
theorem rloglaw_SameAt.B0_sound {R : Bool → World → Prop}  (x m0 : Option Addr) (i : Int) (w : World) (h : rloglaw_SameAt.B0 x m0 i w   R) :
    KW Try.prog 35 40 (rloglaw_SameAt.RV R) ([(0, [])].map (toItem (Try.f35.body.getD .skip))) [(0, .pointer x), (1, .pointer m0), (2, .int .i64 i)] w := by
  exact block_spec Try.func35 Try.mixed stops_nil (Eq.mp (rloglaw_SameAt.B0_eq x m0 i w   R ) h)
theorem rloglaw_SameAt.sound (x m0 : Option Addr) (i : Int) (w : World) (R : Bool → World → Prop) (h : rloglaw_SameAt.B0 x m0 i w R) : rloglaw_SameAt.Call x m0 i w R := by
  have hc := calls_of_block (args := #[.pointer x, .pointer m0, .int .i64 i]) Try.func35 (body := (Try.f35.body.getD .skip)) (by kernel_rfl) (by kernel_rfl) (args_slot _) (rloglaw_SameAt.B0_sound x m0 i w h)
  exact hc.mono fun e w' he => by
    obtain ⟨v, rfl, hv⟩ := he
    exact rloglaw_SameAt.RV_elim hv
def rloglaw_SameTermAt.B0 (x m0 : Option Addr) (i : Int) (w : World)   (R : Bool → World → Prop) : Prop :=
  rlog_Log_TermAt.Call x i w fun r14_0 r14_1 w1 =>
  rlogm_Log_TermAt.Call m0 i w1 fun r20_0 r20_1 w2 =>
  Bm (r14_1 == r20_1) (
    R (r14_0 == r20_0) w2) (
    R false w2)
theorem rloglaw_SameTermAt.B0_eq (x m0 : Option Addr) (i : Int) (w : World)   (R : Bool → World → Prop)  :
    (
  rlog_Log_TermAt.Call x i w fun r14_0 r14_1 w1 =>
  rlogm_Log_TermAt.Call m0 i w1 fun r20_0 r20_1 w2 =>
  Bm (r14_1 == r20_1) (
    R (r14_0 == r20_0) w2) (
    R false w2)) = kstep Try.prog 31 Try.f36.results.toList (Try.f36.body.getD .skip) (rloglaw_SameTermAt.RV R) (kvc Try.prog 31 Try.f36.results.toList (Try.f36.body.getD .skip) (rloglaw_SameTermAt.RV R) [] 2000) [(0, [])] [(0, .pointer x), (1, .pointer m0), (2, .int .i64 i)] w := by kernel_rfl
theorem rloglaw_SameTermAt.B0_sound {R : Bool → World → Prop}  (x m0 : Option Addr) (i : Int) (w : World) (h : rloglaw_SameTermAt.B0 x m0 i w   R) :
    KW Try.prog 36 31 (rloglaw_SameTermAt.RV R) ([(0, [])].map (toItem (Try.f36.body.getD .skip))) [(0, .pointer x), (1, .pointer m0), (2, .int .i64 i)] w := by
  exact block_spec Try.func36 Try.mixed stops_nil (Eq.mp (rloglaw_SameTermAt.B0_eq x m0 i w   R ) h)
theorem rloglaw_SameTermAt.sound (x m0 : Option Addr) (i : Int) (w : World) (R : Bool → World → Prop) (h : rloglaw_SameTermAt.B0 x m0 i w R) : rloglaw_SameTermAt.Call x m0 i w R := by
  have hc := calls_of_block (args := #[.pointer x, .pointer m0, .int .i64 i]) Try.func36 (body := (Try.f36.body.getD .skip)) (by kernel_rfl) (by kernel_rfl) (args_slot _) (rloglaw_SameTermAt.B0_sound x m0 i w h)
  exact hc.mono fun e w' he => by
    obtain ⟨v, rfl, hv⟩ := he
    exact rloglaw_SameTermAt.RV_elim hv
def rloglaw_SameTerm.B0 (x m0 : Option Addr) (w : World)   (R : Bool → World → Prop) : Prop :=
  rlog_Log_Term.Call x w fun r8 w1 =>
  rlogm_Log_Term.Call m0 w1 fun r10 w2 =>
  R (r8 == r10) w2
theorem rloglaw_SameTerm.B0_eq (x m0 : Option Addr) (w : World)   (R : Bool → World → Prop)  :
    (
  rlog_Log_Term.Call x w fun r8 w1 =>
  rlogm_Log_Term.Call m0 w1 fun r10 w2 =>
  R (r8 == r10) w2) = kstep Try.prog 14 Try.f37.results.toList (Try.f37.body.getD .skip) (rloglaw_SameTerm.RV R) (kvc Try.prog 14 Try.f37.results.toList (Try.f37.body.getD .skip) (rloglaw_SameTerm.RV R) [] 2000) [(0, [])] [(0, .pointer x), (1, .pointer m0)] w := by kernel_rfl
theorem rloglaw_SameTerm.B0_sound {R : Bool → World → Prop}  (x m0 : Option Addr) (w : World) (h : rloglaw_SameTerm.B0 x m0 w   R) :
    KW Try.prog 37 14 (rloglaw_SameTerm.RV R) ([(0, [])].map (toItem (Try.f37.body.getD .skip))) [(0, .pointer x), (1, .pointer m0)] w := by
  exact block_spec Try.func37 Try.mixed stops_nil (Eq.mp (rloglaw_SameTerm.B0_eq x m0 w   R ) h)
theorem rloglaw_SameTerm.sound (x m0 : Option Addr) (w : World) (R : Bool → World → Prop) (h : rloglaw_SameTerm.B0 x m0 w R) : rloglaw_SameTerm.Call x m0 w R := by
  have hc := calls_of_block (args := #[.pointer x, .pointer m0]) Try.func37 (body := (Try.f37.body.getD .skip)) (by kernel_rfl) (by kernel_rfl) (args_slot _) (rloglaw_SameTerm.B0_sound x m0 w h)
  exact hc.mono fun e w' he => by
    obtain ⟨v, rfl, hv⟩ := he
    exact rloglaw_SameTerm.RV_elim hv
def rloglaw_SameVote.B0 (x m0 : Option Addr) (w : World)   (R : Bool → World → Prop) : Prop :=
  rlog_Log_Vote.Call x w fun r8 w1 =>
  rlogm_Log_Vote.Call m0 w1 fun r10 w2 =>
  R (r8 == r10) w2
theorem rloglaw_SameVote.B0_eq (x m0 : Option Addr) (w : World)   (R : Bool → World → Prop)  :
    (
  rlog_Log_Vote.Call x w fun r8 w1 =>
  rlogm_Log_Vote.Call m0 w1 fun r10 w2 =>
  R (r8 == r10) w2) = kstep Try.prog 14 Try.f38.results.toList (Try.f38.body.getD .skip) (rloglaw_SameVote.RV R) (kvc Try.prog 14 Try.f38.results.toList (Try.f38.body.getD .skip) (rloglaw_SameVote.RV R) [] 2000) [(0, [])] [(0, .pointer x), (1, .pointer m0)] w := by kernel_rfl
theorem rloglaw_SameVote.B0_sound {R : Bool → World → Prop}  (x m0 : Option Addr) (w : World) (h : rloglaw_SameVote.B0 x m0 w   R) :
    KW Try.prog 38 14 (rloglaw_SameVote.RV R) ([(0, [])].map (toItem (Try.f38.body.getD .skip))) [(0, .pointer x), (1, .pointer m0)] w := by
  exact block_spec Try.func38 Try.mixed stops_nil (Eq.mp (rloglaw_SameVote.B0_eq x m0 w   R ) h)
theorem rloglaw_SameVote.sound (x m0 : Option Addr) (w : World) (R : Bool → World → Prop) (h : rloglaw_SameVote.B0 x m0 w R) : rloglaw_SameVote.Call x m0 w R := by
  have hc := calls_of_block (args := #[.pointer x, .pointer m0]) Try.func38 (body := (Try.f38.body.getD .skip)) (by kernel_rfl) (by kernel_rfl) (args_slot _) (rloglaw_SameVote.B0_sound x m0 w h)
  exact hc.mono fun e w' he => by
    obtain ⟨v, rfl, hv⟩ := he
    exact rloglaw_SameVote.RV_elim hv
def rloglaw_SameBase.B0 (x m0 : Option Addr) (w : World)   (R : Bool → World → Prop) : Prop :=
  rlog_Log_Base.Call x w fun r8 w1 =>
  rlogm_Log_Base.Call m0 w1 fun r10 w2 =>
  R (r8 == r10) w2
theorem rloglaw_SameBase.B0_eq (x m0 : Option Addr) (w : World)   (R : Bool → World → Prop)  :
    (
  rlog_Log_Base.Call x w fun r8 w1 =>
  rlogm_Log_Base.Call m0 w1 fun r10 w2 =>
  R (r8 == r10) w2) = kstep Try.prog 14 Try.f39.results.toList (Try.f39.body.getD .skip) (rloglaw_SameBase.RV R) (kvc Try.prog 14 Try.f39.results.toList (Try.f39.body.getD .skip) (rloglaw_SameBase.RV R) [] 2000) [(0, [])] [(0, .pointer x), (1, .pointer m0)] w := by kernel_rfl
theorem rloglaw_SameBase.B0_sound {R : Bool → World → Prop}  (x m0 : Option Addr) (w : World) (h : rloglaw_SameBase.B0 x m0 w   R) :
    KW Try.prog 39 14 (rloglaw_SameBase.RV R) ([(0, [])].map (toItem (Try.f39.body.getD .skip))) [(0, .pointer x), (1, .pointer m0)] w := by
  exact block_spec Try.func39 Try.mixed stops_nil (Eq.mp (rloglaw_SameBase.B0_eq x m0 w   R ) h)
theorem rloglaw_SameBase.sound (x m0 : Option Addr) (w : World) (R : Bool → World → Prop) (h : rloglaw_SameBase.B0 x m0 w R) : rloglaw_SameBase.Call x m0 w R := by
  have hc := calls_of_block (args := #[.pointer x, .pointer m0]) Try.func39 (body := (Try.f39.body.getD .skip)) (by kernel_rfl) (by kernel_rfl) (args_slot _) (rloglaw_SameBase.B0_sound x m0 w h)
  exact hc.mono fun e w' he => by
    obtain ⟨v, rfl, hv⟩ := he
    exact rloglaw_SameBase.RV_elim hv
def rloglaw_SameBaseTerm.B0 (x m0 : Option Addr) (w : World)   (R : Bool → World → Prop) : Prop :=
  rlog_Log_BaseTerm.Call x w fun r8 w1 =>
  rlogm_Log_BaseTerm.Call m0 w1 fun r10 w2 =>
  R (r8 == r10) w2
theorem rloglaw_SameBaseTerm.B0_eq (x m0 : Option Addr) (w : World)   (R : Bool → World → Prop)  :
    (
  rlog_Log_BaseTerm.Call x w fun r8 w1 =>
  rlogm_Log_BaseTerm.Call m0 w1 fun r10 w2 =>
  R (r8 == r10) w2) = kstep Try.prog 14 Try.f40.results.toList (Try.f40.body.getD .skip) (rloglaw_SameBaseTerm.RV R) (kvc Try.prog 14 Try.f40.results.toList (Try.f40.body.getD .skip) (rloglaw_SameBaseTerm.RV R) [] 2000) [(0, [])] [(0, .pointer x), (1, .pointer m0)] w := by kernel_rfl
theorem rloglaw_SameBaseTerm.B0_sound {R : Bool → World → Prop}  (x m0 : Option Addr) (w : World) (h : rloglaw_SameBaseTerm.B0 x m0 w   R) :
    KW Try.prog 40 14 (rloglaw_SameBaseTerm.RV R) ([(0, [])].map (toItem (Try.f40.body.getD .skip))) [(0, .pointer x), (1, .pointer m0)] w := by
  exact block_spec Try.func40 Try.mixed stops_nil (Eq.mp (rloglaw_SameBaseTerm.B0_eq x m0 w   R ) h)
theorem rloglaw_SameBaseTerm.sound (x m0 : Option Addr) (w : World) (R : Bool → World → Prop) (h : rloglaw_SameBaseTerm.B0 x m0 w R) : rloglaw_SameBaseTerm.Call x m0 w R := by
  have hc := calls_of_block (args := #[.pointer x, .pointer m0]) Try.func40 (body := (Try.f40.body.getD .skip)) (by kernel_rfl) (by kernel_rfl) (args_slot _) (rloglaw_SameBaseTerm.B0_sound x m0 w h)
  exact hc.mono fun e w' he => by
    obtain ⟨v, rfl, hv⟩ := he
    exact rloglaw_SameBaseTerm.RV_elim hv
def rloglaw_SameSnap.B0 (x m0 : Option Addr) (w : World)   (R : Bool → World → Prop) : Prop :=
  rlog_Log_Snap.Call x w fun r8 w1 =>
  rlogm_Log_Snap.Call m0 w1 fun r10 w2 =>
  R (r8.toList == r10.toList) w2
theorem rloglaw_SameSnap.B0_eq (x m0 : Option Addr) (w : World)   (R : Bool → World → Prop)  :
    (
  rlog_Log_Snap.Call x w fun r8 w1 =>
  rlogm_Log_Snap.Call m0 w1 fun r10 w2 =>
  R (r8.toList == r10.toList) w2) = kstep Try.prog 14 Try.f41.results.toList (Try.f41.body.getD .skip) (rloglaw_SameSnap.RV R) (kvc Try.prog 14 Try.f41.results.toList (Try.f41.body.getD .skip) (rloglaw_SameSnap.RV R) [] 2000) [(0, [])] [(0, .pointer x), (1, .pointer m0)] w := by kernel_rfl
theorem rloglaw_SameSnap.B0_sound {R : Bool → World → Prop}  (x m0 : Option Addr) (w : World) (h : rloglaw_SameSnap.B0 x m0 w   R) :
    KW Try.prog 41 14 (rloglaw_SameSnap.RV R) ([(0, [])].map (toItem (Try.f41.body.getD .skip))) [(0, .pointer x), (1, .pointer m0)] w := by
  exact block_spec Try.func41 Try.mixed stops_nil (Eq.mp (rloglaw_SameSnap.B0_eq x m0 w   R ) h)
theorem rloglaw_SameSnap.sound (x m0 : Option Addr) (w : World) (R : Bool → World → Prop) (h : rloglaw_SameSnap.B0 x m0 w R) : rloglaw_SameSnap.Call x m0 w R := by
  have hc := calls_of_block (args := #[.pointer x, .pointer m0]) Try.func41 (body := (Try.f41.body.getD .skip)) (by kernel_rfl) (by kernel_rfl) (args_slot _) (rloglaw_SameSnap.B0_sound x m0 w h)
  exact hc.mono fun e w' he => by
    obtain ⟨v, rfl, hv⟩ := he
    exact rloglaw_SameSnap.RV_elim hv
def rloglaw_SameLast.B0 (x m0 : Option Addr) (w : World)   (R : Bool → World → Prop) : Prop :=
  rlog_Log_Last.Call x w fun r8 w1 =>
  rlogm_Log_Last.Call m0 w1 fun r10 w2 =>
  R (r8 == r10) w2
theorem rloglaw_SameLast.B0_eq (x m0 : Option Addr) (w : World)   (R : Bool → World → Prop)  :
    (
  rlog_Log_Last.Call x w fun r8 w1 =>
  rlogm_Log_Last.Call m0 w1 fun r10 w2 =>
  R (r8 == r10) w2) = kstep Try.prog 14 Try.f42.results.toList (Try.f42.body.getD .skip) (rloglaw_SameLast.RV R) (kvc Try.prog 14 Try.f42.results.toList (Try.f42.body.getD .skip) (rloglaw_SameLast.RV R) [] 2000) [(0, [])] [(0, .pointer x), (1, .pointer m0)] w := by kernel_rfl
theorem rloglaw_SameLast.B0_sound {R : Bool → World → Prop}  (x m0 : Option Addr) (w : World) (h : rloglaw_SameLast.B0 x m0 w   R) :
    KW Try.prog 42 14 (rloglaw_SameLast.RV R) ([(0, [])].map (toItem (Try.f42.body.getD .skip))) [(0, .pointer x), (1, .pointer m0)] w := by
  exact block_spec Try.func42 Try.mixed stops_nil (Eq.mp (rloglaw_SameLast.B0_eq x m0 w   R ) h)
theorem rloglaw_SameLast.sound (x m0 : Option Addr) (w : World) (R : Bool → World → Prop) (h : rloglaw_SameLast.B0 x m0 w R) : rloglaw_SameLast.Call x m0 w R := by
  have hc := calls_of_block (args := #[.pointer x, .pointer m0]) Try.func42 (body := (Try.f42.body.getD .skip)) (by kernel_rfl) (by kernel_rfl) (args_slot _) (rloglaw_SameLast.B0_sound x m0 w h)
  exact hc.mono fun e w' he => by
    obtain ⟨v, rfl, hv⟩ := he
    exact rloglaw_SameLast.RV_elim hv
def diskm_Disk_After.B2 (d : Option Addr) (k : Int) (n : Nat) (j : Int) (w : World) (N1 : Option Addr → Int → Nat → Int → World → Prop)  (R : Option Addr → World → Prop) : Prop :=
  N1 d k n (IntKind.i64.wrap (j + (1 : Int))) w
theorem diskm_Disk_After.B2_eq (d : Option Addr) (k : Int) (n : Nat) (j : Int) (w : World) (N1 : Option Addr → Int → Nat → Int → World → Prop)  (R : Option Addr → World → Prop)  :
    (
  N1 d k n (IntKind.i64.wrap (j + (1 : Int))) w) = kstep Try.prog 86 Try.f43.results.toList (Try.f43.body.getD .skip) (diskm_Disk_After.RV R) (kvc Try.prog 86 Try.f43.results.toList (Try.f43.body.getD .skip) (diskm_Disk_After.RV R) [([(0, [1, 1, 0, 1, 0, 0]), (2, [1, 1, 0, 1, 0, 0]), (1, [0]), (0, [1, 1, 1])], fun σ w => dP (slotOf σ 0) fun d_ => dI .i64 (slotOf σ 1) fun k_ => dK (slotOf σ 5) fun n_ => dI .i64 (slotOf σ 6) fun j_ => N1 d_ k_ n_ j_ w)] 2000) [(0, [1, 1, 0, 1, 0, 0, 1, 1]), (2, [1, 1, 0, 1, 0, 0]), (1, [0]), (0, [1, 1, 1])] [(0, .pointer d), (1, .int .i64 k), (5, .pointer (some ⟨n, 0, none⟩)), (6, .int .i64 j)] w := by kernel_rfl
theorem diskm_Disk_After.B2_sound {R : Option Addr → World → Prop} {N1 : Option Addr → Int → Nat → Int → World → Prop} (hN1 : ∀ d k n j w, N1 d k n j w → KW Try.prog 43 86 (diskm_Disk_After.RV R) ([(0, [1, 1, 0, 1, 0, 0]), (2, [1, 1, 0, 1, 0, 0]), (1, [0]), (0, [1, 1, 1])].map (toItem (Try.f43.body.getD .skip))) [(0, .pointer d), (1, .int .i64 k), (5, .pointer (some ⟨n, 0, none⟩)), (6, .int .i64 j)] w) (d : Option Addr) (k : Int) (n : Nat) (j : Int) (w : World) (h : diskm_Disk_After.B2 d k n j w N1  R) :
    KW Try.prog 43 86 (diskm_Disk_After.RV R) ([(0, [1, 1, 0, 1, 0, 0, 1, 1]), (2, [1, 1, 0, 1, 0, 0]), (1, [0]), (0, [1, 1, 1])].map (toItem (Try.f43.body.getD .skip))) [(0, .pointer d), (1, .int .i64 k), (5, .pointer (some ⟨n, 0, none⟩)), (6, .int .i64 j)] w := by
  exact block_spec Try.func43 Try.mixed (stops_cons (fun σ w h => by
      obtain ⟨d_, e0, h⟩ := dP_elim h
      obtain ⟨k_, e1, h⟩ := dI_elim h
      obtain ⟨n_, e2, h⟩ := dK_elim h
      obtain ⟨j_, e3, h⟩ := dI_elim h
      exact (hN1 d_ k_ n_ j_ w h).weaken (Sub.cons (Sub.cons (Sub.cons (Sub.cons (Sub.nil _) e3) e2) e1) e0)) stops_nil) (Eq.mp (diskm_Disk_After.B2_eq d k n j w N1  R ) h)
def diskm_Disk_After.B1 (d : Option Addr) (k : Int) (n : Nat) (j : Int) (t26 : Bool) (w : World) (N1 : Option Addr → Int → Nat → Int → World → Prop)  (R : Option Addr → World → Prop) : Prop :=
  Bm t26 (
    Pn d fun a =>
    LdL (a.add 2) w fun x32_b x32_l x32_c =>
    Pn x32_b fun a_1 =>
    (0 ≤ j ∧ j < ((x32_l : Nat) : Int)) ∧
    LdI .i64 (Addr.add a_1 (j.toNat * 3)) w fun x35_0 =>
    LdI .i64 ((Addr.add a_1 (j.toNat * 3)).add 1) w fun x35_1 =>
    LdS ((Addr.add a_1 (j.toNat * 3)).add 2) w fun x35_2 =>
    New (.cells #[.int .i64 (0 : Int), .int .i64 (0 : Int), .string (ByteArray.mk #[])] 114) w fun r_ w1 =>
    Sts [.int .i64 x35_0, .int .i64 x35_1, .string x35_2] ⟨r_, 0, none⟩ 0 w1 fun w2 =>
    LdI .i64 ⟨r_, 1, none⟩ w2 fun x37 =>
    Bm (x37 == (0 : Int)) (
      LdL ⟨n, 0, none⟩ w2.drew fun x42_b x42_l x42_c =>
      LdI .i64 ⟨r_, 0, none⟩ w2.drew fun x44 =>
      LdS ⟨r_, 2, none⟩ w2.drew fun x46 =>
      LdL ⟨n, 0, none⟩ w2.drew fun x50_b x50_l x50_c =>
      LdI .i64 ⟨r_, 0, none⟩ w2.drew fun x52 =>
      Pn x50_b fun a_2 =>
      (0 ≤ x52 ∧ x52 < ((x50_l : Nat) : Int)) ∧
      LdS (Addr.add a_2 (x52.toNat * 1)) w2.drew fun x54 =>
      (0 ≤ (32 : Int) ∧ (32 : Int) ≤ ((x54.size : Nat) : Int)) ∧
      ((x46.size + (x54.extract (32 : Int).toNat ((x54.size : Nat) : Int).toNat).size : Nat) : Int) ≤ 9223372036854775807 ∧
      Pn x42_b fun a_3 =>
      (0 ≤ x44 ∧ x44 < ((x42_l : Nat) : Int)) ∧
      Sts [.string (x46 ++ (x54.extract (32 : Int).toNat ((x54.size : Nat) : Int).toNat))] (Addr.add a_3 (x44.toNat * 1)) 0 w2.drew fun w3 =>
      diskm_Disk_After.B2 d k n j w3 N1 R) (
      LdL ⟨n, 0, none⟩ w2.drew fun x61_b x61_l x61_c =>
      LdI .i64 ⟨r_, 0, none⟩ w2.drew fun x63 =>
      LdL ⟨n, 0, none⟩ w2.drew fun x67_b x67_l x67_c =>
      LdI .i64 ⟨r_, 0, none⟩ w2.drew fun x69 =>
      Pn x67_b fun a_4 =>
      (0 ≤ x69 ∧ x69 < ((x67_l : Nat) : Int)) ∧
      LdS (Addr.add a_4 (x69.toNat * 1)) w2.drew fun x71 =>
      (0 ≤ (32 : Int) ∧ (32 : Int) ≤ ((x71.size : Nat) : Int)) ∧
      LdS ⟨r_, 2, none⟩ w2.drew fun x74 =>
      (((x71.extract ((0 : Nat) : Int).toNat (32 : Int).toNat).size + x74.size : Nat) : Int) ≤ 9223372036854775807 ∧
      Pn x61_b fun a_5 =>
      (0 ≤ x63 ∧ x63 < ((x61_l : Nat) : Int)) ∧
      Sts [.string ((x71.extract ((0 : Nat) : Int).toNat (32 : Int).toNat) ++ x74)] (Addr.add a_5 (x63.toNat * 1)) 0 w2.drew fun w4 =>
      diskm_Disk_After.B2 d k n j w4 N1 R)) (
    LdL ⟨n, 0, none⟩ w fun x81_b x81_l x81_c =>
    diskm_blocks.Call x81_b x81_l x81_c w fun r82_b r82_l r82_c w5 =>
    Sts [.slice r82_b r82_l r82_c] ⟨n, 1, none⟩ 0 w5 fun w6 =>
    R (some ⟨n, 0, none⟩) w6)
theorem diskm_Disk_After.B1_eq (d : Option Addr) (k : Int) (n : Nat) (j : Int) (t26 : Bool) (w : World) (N1 : Option Addr → Int → Nat → Int → World → Prop)  (R : Option Addr → World → Prop) (sB2 : Option Addr → Int → Nat → Int → World → Prop) :
    (
  Bm t26 (
    Pn d fun a =>
    LdL (a.add 2) w fun x32_b x32_l x32_c =>
    Pn x32_b fun a_1 =>
    (0 ≤ j ∧ j < ((x32_l : Nat) : Int)) ∧
    LdI .i64 (Addr.add a_1 (j.toNat * 3)) w fun x35_0 =>
    LdI .i64 ((Addr.add a_1 (j.toNat * 3)).add 1) w fun x35_1 =>
    LdS ((Addr.add a_1 (j.toNat * 3)).add 2) w fun x35_2 =>
    New (.cells #[.int .i64 (0 : Int), .int .i64 (0 : Int), .string (ByteArray.mk #[])] 114) w fun r_ w1 =>
    Sts [.int .i64 x35_0, .int .i64 x35_1, .string x35_2] ⟨r_, 0, none⟩ 0 w1 fun w2 =>
    LdI .i64 ⟨r_, 1, none⟩ w2 fun x37 =>
    Bm (x37 == (0 : Int)) (
      LdL ⟨n, 0, none⟩ w2.drew fun x42_b x42_l x42_c =>
      LdI .i64 ⟨r_, 0, none⟩ w2.drew fun x44 =>
      LdS ⟨r_, 2, none⟩ w2.drew fun x46 =>
      LdL ⟨n, 0, none⟩ w2.drew fun x50_b x50_l x50_c =>
      LdI .i64 ⟨r_, 0, none⟩ w2.drew fun x52 =>
      Pn x50_b fun a_2 =>
      (0 ≤ x52 ∧ x52 < ((x50_l : Nat) : Int)) ∧
      LdS (Addr.add a_2 (x52.toNat * 1)) w2.drew fun x54 =>
      (0 ≤ (32 : Int) ∧ (32 : Int) ≤ ((x54.size : Nat) : Int)) ∧
      ((x46.size + (x54.extract (32 : Int).toNat ((x54.size : Nat) : Int).toNat).size : Nat) : Int) ≤ 9223372036854775807 ∧
      Pn x42_b fun a_3 =>
      (0 ≤ x44 ∧ x44 < ((x42_l : Nat) : Int)) ∧
      Sts [.string (x46 ++ (x54.extract (32 : Int).toNat ((x54.size : Nat) : Int).toNat))] (Addr.add a_3 (x44.toNat * 1)) 0 w2.drew fun w3 =>
      sB2 d k n j w3) (
      LdL ⟨n, 0, none⟩ w2.drew fun x61_b x61_l x61_c =>
      LdI .i64 ⟨r_, 0, none⟩ w2.drew fun x63 =>
      LdL ⟨n, 0, none⟩ w2.drew fun x67_b x67_l x67_c =>
      LdI .i64 ⟨r_, 0, none⟩ w2.drew fun x69 =>
      Pn x67_b fun a_4 =>
      (0 ≤ x69 ∧ x69 < ((x67_l : Nat) : Int)) ∧
      LdS (Addr.add a_4 (x69.toNat * 1)) w2.drew fun x71 =>
      (0 ≤ (32 : Int) ∧ (32 : Int) ≤ ((x71.size : Nat) : Int)) ∧
      LdS ⟨r_, 2, none⟩ w2.drew fun x74 =>
      (((x71.extract ((0 : Nat) : Int).toNat (32 : Int).toNat).size + x74.size : Nat) : Int) ≤ 9223372036854775807 ∧
      Pn x61_b fun a_5 =>
      (0 ≤ x63 ∧ x63 < ((x61_l : Nat) : Int)) ∧
      Sts [.string ((x71.extract ((0 : Nat) : Int).toNat (32 : Int).toNat) ++ x74)] (Addr.add a_5 (x63.toNat * 1)) 0 w2.drew fun w4 =>
      sB2 d k n j w4)) (
    LdL ⟨n, 0, none⟩ w fun x81_b x81_l x81_c =>
    diskm_blocks.Call x81_b x81_l x81_c w fun r82_b r82_l r82_c w5 =>
    Sts [.slice r82_b r82_l r82_c] ⟨n, 1, none⟩ 0 w5 fun w6 =>
    R (some ⟨n, 0, none⟩) w6)) = kstep Try.prog 86 Try.f43.results.toList (Try.f43.body.getD .skip) (diskm_Disk_After.RV R) (kvc Try.prog 86 Try.f43.results.toList (Try.f43.body.getD .skip) (diskm_Disk_After.RV R) [([(0, [1, 1, 0, 1, 0, 0, 1, 1]), (2, [1, 1, 0, 1, 0, 0]), (1, [0]), (0, [1, 1, 1])], fun σ w => dP (slotOf σ 0) fun d_ => dI .i64 (slotOf σ 1) fun k_ => dK (slotOf σ 5) fun n_ => dI .i64 (slotOf σ 6) fun j_ => sB2 d_ k_ n_ j_ w)] 2000) [(0, [1, 1, 0, 1, 0, 0, 0, 1]), (0, [1, 1, 0, 1, 0, 0, 1]), (2, [1, 1, 0, 1, 0, 0]), (1, [0]), (0, [1, 1, 1])] [(0, .pointer d), (1, .int .i64 k), (5, .pointer (some ⟨n, 0, none⟩)), (6, .int .i64 j), (26, .bool t26)] w := by kernel_rfl
theorem diskm_Disk_After.B1_sound {R : Option Addr → World → Prop} {N1 : Option Addr → Int → Nat → Int → World → Prop} (hN1 : ∀ d k n j w, N1 d k n j w → KW Try.prog 43 86 (diskm_Disk_After.RV R) ([(0, [1, 1, 0, 1, 0, 0]), (2, [1, 1, 0, 1, 0, 0]), (1, [0]), (0, [1, 1, 1])].map (toItem (Try.f43.body.getD .skip))) [(0, .pointer d), (1, .int .i64 k), (5, .pointer (some ⟨n, 0, none⟩)), (6, .int .i64 j)] w) (d : Option Addr) (k : Int) (n : Nat) (j : Int) (t26 : Bool) (w : World) (h : diskm_Disk_After.B1 d k n j t26 w N1  R) :
    KW Try.prog 43 86 (diskm_Disk_After.RV R) ([(0, [1, 1, 0, 1, 0, 0, 0, 1]), (0, [1, 1, 0, 1, 0, 0, 1]), (2, [1, 1, 0, 1, 0, 0]), (1, [0]), (0, [1, 1, 1])].map (toItem (Try.f43.body.getD .skip))) [(0, .pointer d), (1, .int .i64 k), (5, .pointer (some ⟨n, 0, none⟩)), (6, .int .i64 j), (26, .bool t26)] w := by
  exact block_spec Try.func43 Try.mixed (stops_cons (fun σ w h => by
      obtain ⟨d_, e0, h⟩ := dP_elim h
      obtain ⟨k_, e1, h⟩ := dI_elim h
      obtain ⟨n_, e2, h⟩ := dK_elim h
      obtain ⟨j_, e3, h⟩ := dI_elim h
      exact (diskm_Disk_After.B2_sound hN1 d_ k_ n_ j_ w h).weaken (Sub.cons (Sub.cons (Sub.cons (Sub.cons (Sub.nil _) e3) e2) e1) e0)) stops_nil) (Eq.mp (diskm_Disk_After.B1_eq d k n j t26 w N1  R (fun d_ k_ n_ j_ w => diskm_Disk_After.B2 d_ k_ n_ j_ w N1 R)) h)
def diskm_Disk_After.L1b (d : Option Addr) (k : Int) (n : Nat) (j : Int) (w : World)  (N1 : Option Addr → Int → Nat → Int → World → Prop) (R : Option Addr → World → Prop) : Prop :=
  Pn d fun a =>
  LdL (a.add 2) w fun x19_b x19_l x19_c =>
  Bm (decide (j < ((x19_l : Nat) : Int))) (
    diskm_Disk_After.B1 d k n j (decide (j < k)) w N1 R) (
    diskm_Disk_After.B1 d k n j false w N1 R)
theorem diskm_Disk_After.L1b_eq (d : Option Addr) (k : Int) (n : Nat) (j : Int) (w : World)  (N1 : Option Addr → Int → Nat → Int → World → Prop) (R : Option Addr → World → Prop) (sB1 : Option Addr → Int → Nat → Int → Bool → World → Prop) :
    (
  Pn d fun a =>
  LdL (a.add 2) w fun x19_b x19_l x19_c =>
  Bm (decide (j < ((x19_l : Nat) : Int))) (
    sB1 d k n j (decide (j < k)) w) (
    sB1 d k n j false w)) = kstep Try.prog 86 Try.f43.results.toList (Try.f43.body.getD .skip) (diskm_Disk_After.RV R) (kvc Try.prog 86 Try.f43.results.toList (Try.f43.body.getD .skip) (diskm_Disk_After.RV R) [([(0, [1, 1, 0, 1, 0, 0, 0, 1]), (0, [1, 1, 0, 1, 0, 0, 1]), (2, [1, 1, 0, 1, 0, 0]), (1, [0]), (0, [1, 1, 1])], fun σ w => dP (slotOf σ 0) fun d_ => dI .i64 (slotOf σ 1) fun k_ => dK (slotOf σ 5) fun n_ => dI .i64 (slotOf σ 6) fun j_ => dB (slotOf σ 26) fun t26_ => sB1 d_ k_ n_ j_ t26_ w)] 2000) [(0, [1, 1, 0, 1, 0, 0]), (2, [1, 1, 0, 1, 0, 0]), (1, [0]), (0, [1, 1, 1])] [(0, .pointer d), (1, .int .i64 k), (5, .pointer (some ⟨n, 0, none⟩)), (6, .int .i64 j)] w := by kernel_rfl
theorem diskm_Disk_After.L1b_sound {R : Option Addr → World → Prop} {N1 : Option Addr → Int → Nat → Int → World → Prop} (hN1 : ∀ d k n j w, N1 d k n j w → KW Try.prog 43 86 (diskm_Disk_After.RV R) ([(0, [1, 1, 0, 1, 0, 0]), (2, [1, 1, 0, 1, 0, 0]), (1, [0]), (0, [1, 1, 1])].map (toItem (Try.f43.body.getD .skip))) [(0, .pointer d), (1, .int .i64 k), (5, .pointer (some ⟨n, 0, none⟩)), (6, .int .i64 j)] w) (d : Option Addr) (k : Int) (n : Nat) (j : Int) (w : World) (h : diskm_Disk_After.L1b d k n j w  N1 R) :
    KW Try.prog 43 86 (diskm_Disk_After.RV R) ([(0, [1, 1, 0, 1, 0, 0]), (2, [1, 1, 0, 1, 0, 0]), (1, [0]), (0, [1, 1, 1])].map (toItem (Try.f43.body.getD .skip))) [(0, .pointer d), (1, .int .i64 k), (5, .pointer (some ⟨n, 0, none⟩)), (6, .int .i64 j)] w := by
  exact block_spec Try.func43 Try.mixed (stops_cons (fun σ w h => by
      obtain ⟨d_, e0, h⟩ := dP_elim h
      obtain ⟨k_, e1, h⟩ := dI_elim h
      obtain ⟨n_, e2, h⟩ := dK_elim h
      obtain ⟨j_, e3, h⟩ := dI_elim h
      obtain ⟨t26_, e4, h⟩ := dB_elim h
      exact (diskm_Disk_After.B1_sound hN1 d_ k_ n_ j_ t26_ w h).weaken (Sub.cons (Sub.cons (Sub.cons (Sub.cons (Sub.cons (Sub.nil _) e4) e3) e2) e1) e0)) stops_nil) (Eq.mp (diskm_Disk_After.L1b_eq d k n j w  N1 R (fun d_ k_ n_ j_ t26_ w => diskm_Disk_After.B1 d_ k_ n_ j_ t26_ w N1 R)) h)
def diskm_Disk_After.L1 (d : Option Addr) (k : Int) (n : Nat) (j : Int) (w : World)  (R : Option Addr → World → Prop) : Prop :=
  ∃ (I : Nat → Option Addr → Int → Nat → Int → World → Prop) (m : Nat), I m d k n j w ∧ ∀ m d k n j w, I m d k n j w → diskm_Disk_After.L1b d k n j w  (fun d' k' n' j' w' => ∃ m', m' < m ∧ I m' d' k' n' j' w') R
theorem diskm_Disk_After.L1_sound {R : Option Addr → World → Prop}  (d : Option Addr) (k : Int) (n : Nat) (j : Int) (w : World) (h : diskm_Disk_After.L1 d k n j w  R) :
    KW Try.prog 43 86 (diskm_Disk_After.RV R) ([(0, [1, 1, 0, 1, 0, 0]), (2, [1, 1, 0, 1, 0, 0]), (1, [0]), (0, [1, 1, 1])].map (toItem (Try.f43.body.getD .skip))) [(0, .pointer d), (1, .int .i64 k), (5, .pointer (some ⟨n, 0, none⟩)), (6, .int .i64 j)] w := by
  obtain ⟨I, m, hBase, hr⟩ := h
  refine KW.loop (fun m σ w => ∃ (d : Option Addr) (k : Int) (n : Nat) (j : Int), σ = [(0, .pointer d), (1, .int .i64 k), (5, .pointer (some ⟨n, 0, none⟩)), (6, .int .i64 j)] ∧ I m d k n j w) ?_ m _ w ⟨d, k, n, j, rfl, hBase⟩
  rintro m ih σ w ⟨d, k, n, j, rfl, hI⟩
  exact diskm_Disk_After.L1b_sound  (N1 := fun d' k' n' j' w' => ∃ m', m' < m ∧ I m' d' k' n' j' w') (fun d' k' n' j' w' hx => by obtain ⟨m', hlt, hI'⟩ := hx; exact ih m' hlt _ w' ⟨d', k', n', j', rfl, hI'⟩) d k n j w (hr m d k n j w hI)
def diskm_Disk_After.B0 (d : Option Addr) (k : Int) (w : World)   (R : Option Addr → World → Prop) : Prop :=
  Pn d fun a =>
  LdL (a.add 1) w fun x11_b x11_l x11_c =>
  diskm_blocks.Call x11_b x11_l x11_c w fun r12_b r12_l r12_c w1 =>
  New (.cells #[.slice r12_b r12_l r12_c, .slice none 0 0, .slice none 0 0] 87) w1 fun b14 w2 =>
  diskm_Disk_After.L1 d k b14 (0 : Int) w2  R
theorem diskm_Disk_After.B0_eq (d : Option Addr) (k : Int) (w : World)   (R : Option Addr → World → Prop) (sL1 : Option Addr → Int → Nat → Int → World → Prop) :
    (
  Pn d fun a =>
  LdL (a.add 1) w fun x11_b x11_l x11_c =>
  diskm_blocks.Call x11_b x11_l x11_c w fun r12_b r12_l r12_c w1 =>
  New (.cells #[.slice r12_b r12_l r12_c, .slice none 0 0, .slice none 0 0] 87) w1 fun b14 w2 =>
  sL1 d k b14 (0 : Int) w2) = kstep Try.prog 86 Try.f43.results.toList (Try.f43.body.getD .skip) (diskm_Disk_After.RV R) (kvc Try.prog 86 Try.f43.results.toList (Try.f43.body.getD .skip) (diskm_Disk_After.RV R) [([(0, [1, 1, 0, 1, 0, 0]), (2, [1, 1, 0, 1, 0, 0]), (1, [0]), (0, [1, 1, 1])], fun σ w => dP (slotOf σ 0) fun d_ => dI .i64 (slotOf σ 1) fun k_ => dK (slotOf σ 5) fun n_ => dI .i64 (slotOf σ 6) fun j_ => sL1 d_ k_ n_ j_ w)] 2000) [(0, [])] [(0, .pointer d), (1, .int .i64 k)] w := by kernel_rfl
theorem diskm_Disk_After.B0_sound {R : Option Addr → World → Prop}  (d : Option Addr) (k : Int) (w : World) (h : diskm_Disk_After.B0 d k w   R) :
    KW Try.prog 43 86 (diskm_Disk_After.RV R) ([(0, [])].map (toItem (Try.f43.body.getD .skip))) [(0, .pointer d), (1, .int .i64 k)] w := by
  exact block_spec Try.func43 Try.mixed (stops_cons (fun σ w h => by
      obtain ⟨d_, e0, h⟩ := dP_elim h
      obtain ⟨k_, e1, h⟩ := dI_elim h
      obtain ⟨n_, e2, h⟩ := dK_elim h
      obtain ⟨j_, e3, h⟩ := dI_elim h
      exact (diskm_Disk_After.L1_sound  d_ k_ n_ j_ w h).weaken (Sub.cons (Sub.cons (Sub.cons (Sub.cons (Sub.nil _) e3) e2) e1) e0)) stops_nil) (Eq.mp (diskm_Disk_After.B0_eq d k w   R (fun d_ k_ n_ j_ w => diskm_Disk_After.L1 d_ k_ n_ j_ w  R)) h)
theorem diskm_Disk_After.sound (d : Option Addr) (k : Int) (w : World) (R : Option Addr → World → Prop) (h : diskm_Disk_After.B0 d k w R) : diskm_Disk_After.Call d k w R := by
  have hc := calls_of_block (args := #[.pointer d, .int .i64 k]) Try.func43 (body := (Try.f43.body.getD .skip)) (by kernel_rfl) (by kernel_rfl) (args_slot _) (diskm_Disk_After.B0_sound d k w h)
  exact hc.mono fun e w' he => by
    obtain ⟨v, rfl, hv⟩ := he
    exact diskm_Disk_After.RV_elim hv
def store_Store_Snap.B0 (t : Option Addr) (w : World)   (R : Int → Int → ByteArray → World → Prop) : Prop :=
  Pn t fun a =>
  LdI .i64 ((a.add 20).add 2) w.drew fun x9 =>
  Pn t fun a_1 =>
  LdI .i64 ((a_1.add 20).add 3) w.drew fun x14 =>
  Pn t fun a_2 =>
  LdS (a_2.add 27) w.drew fun x18 =>
  R x9 x14 x18 w.drew
theorem store_Store_Snap.B0_eq (t : Option Addr) (w : World)   (R : Int → Int → ByteArray → World → Prop)  :
    (
  Pn t fun a =>
  LdI .i64 ((a.add 20).add 2) w.drew fun x9 =>
  Pn t fun a_1 =>
  LdI .i64 ((a_1.add 20).add 3) w.drew fun x14 =>
  Pn t fun a_2 =>
  LdS (a_2.add 27) w.drew fun x18 =>
  R x9 x14 x18 w.drew) = kstep Try.prog 19 Try.f44.results.toList (Try.f44.body.getD .skip) (store_Store_Snap.RV R) (kvc Try.prog 19 Try.f44.results.toList (Try.f44.body.getD .skip) (store_Store_Snap.RV R) [] 2000) [(0, [])] [(0, .pointer t)] w := by kernel_rfl
theorem store_Store_Snap.B0_sound {R : Int → Int → ByteArray → World → Prop}  (t : Option Addr) (w : World) (h : store_Store_Snap.B0 t w   R) :
    KW Try.prog 44 19 (store_Store_Snap.RV R) ([(0, [])].map (toItem (Try.f44.body.getD .skip))) [(0, .pointer t)] w := by
  exact block_spec Try.func44 Try.mixed stops_nil (Eq.mp (store_Store_Snap.B0_eq t w   R ) h)
theorem store_Store_Snap.sound (t : Option Addr) (w : World) (R : Int → Int → ByteArray → World → Prop) (h : store_Store_Snap.B0 t w R) : store_Store_Snap.Call t w R := by
  have hc := calls_of_block (args := #[.pointer t]) Try.func44 (body := (Try.f44.body.getD .skip)) (by kernel_rfl) (by kernel_rfl) (args_slot _) (store_Store_Snap.B0_sound t w h)
  exact hc.mono fun e w' he => by
    obtain ⟨v, rfl, hv⟩ := he
    exact store_Store_Snap.RV_elim hv
def rlog_holds.B0 (st : Option Addr) (i : Int) (w : World)   (R : Bool → World → Prop) : Prop :=
  rlog_slotOf.Call i w fun r9 w1 =>
  store_Store_Rec.Call st r9 w1 fun r13_0_0 r13_0_1 r13_0_2 r13_1 w2 =>
  New (.cells #[.int .i64 (0 : Int), .int .i64 (0 : Int), .string (ByteArray.mk #[])] 72) w2 fun r_ w3 =>
  Sts [.int .i64 r13_0_0, .int .i64 r13_0_1, .string r13_0_2] ⟨r_, 0, none⟩ 0 w3 fun w4 =>
  Bm (r13_1 == (0 : Int)) (
    LdI .i64 ⟨r_, 0, none⟩ w4 fun x20 =>
    R (x20 == i) w4) (
    R false w4)
theorem rlog_holds.B0_eq (st : Option Addr) (i : Int) (w : World)   (R : Bool → World → Prop)  :
    (
  rlog_slotOf.Call i w fun r9 w1 =>
  store_Store_Rec.Call st r9 w1 fun r13_0_0 r13_0_1 r13_0_2 r13_1 w2 =>
  New (.cells #[.int .i64 (0 : Int), .int .i64 (0 : Int), .string (ByteArray.mk #[])] 72) w2 fun r_ w3 =>
  Sts [.int .i64 r13_0_0, .int .i64 r13_0_1, .string r13_0_2] ⟨r_, 0, none⟩ 0 w3 fun w4 =>
  Bm (r13_1 == (0 : Int)) (
    LdI .i64 ⟨r_, 0, none⟩ w4 fun x20 =>
    R (x20 == i) w4) (
    R false w4)) = kstep Try.prog 24 Try.f45.results.toList (Try.f45.body.getD .skip) (rlog_holds.RV R) (kvc Try.prog 24 Try.f45.results.toList (Try.f45.body.getD .skip) (rlog_holds.RV R) [] 2000) [(0, [])] [(0, .pointer st), (1, .int .i64 i)] w := by kernel_rfl
theorem rlog_holds.B0_sound {R : Bool → World → Prop}  (st : Option Addr) (i : Int) (w : World) (h : rlog_holds.B0 st i w   R) :
    KW Try.prog 45 24 (rlog_holds.RV R) ([(0, [])].map (toItem (Try.f45.body.getD .skip))) [(0, .pointer st), (1, .int .i64 i)] w := by
  exact block_spec Try.func45 Try.mixed stops_nil (Eq.mp (rlog_holds.B0_eq st i w   R ) h)
theorem rlog_holds.sound (st : Option Addr) (i : Int) (w : World) (R : Bool → World → Prop) (h : rlog_holds.B0 st i w R) : rlog_holds.Call st i w R := by
  have hc := calls_of_block (args := #[.pointer st, .int .i64 i]) Try.func45 (body := (Try.f45.body.getD .skip)) (by kernel_rfl) (by kernel_rfl) (args_slot _) (rlog_holds.B0_sound st i w h)
  exact hc.mono fun e w' he => by
    obtain ⟨v, rfl, hv⟩ := he
    exact rlog_holds.RV_elim hv
def store_Store_Rec.B1 (t : Option Addr) (slot : Int) (t4 : Nat) (t11 : Bool) (w : World)   (R : Int → Int → ByteArray → Int → World → Prop) : Prop :=
  Bm t11 (
    Sts [.int .i64 (0 : Int), .int .i64 (0 : Int), .string (ByteArray.mk #[])] ⟨t4, 0, none⟩ 0 w fun w1 =>
    LdI .i64 ⟨t4, 0, none⟩ w1 fun r_0 =>
    LdI .i64 ⟨t4, 1, none⟩ w1 fun r_1 =>
    LdS ⟨t4, 2, none⟩ w1 fun r_2 =>
    R r_0 r_1 r_2 (1 : Int) w1) (
    Pn t fun a =>
    (0 ≤ slot ∧ slot < ((6 : Nat) : Int)) ∧
    LdB (Addr.add (a.add 28) (slot.toNat * 1)) w fun x18 =>
    Bm (!x18) (
      Sts [.int .i64 (0 : Int), .int .i64 (0 : Int), .string (ByteArray.mk #[])] ⟨t4, 0, none⟩ 0 w fun w2 =>
      LdI .i64 ⟨t4, 0, none⟩ w2 fun r_0_1 =>
      LdI .i64 ⟨t4, 1, none⟩ w2 fun r_1_1 =>
      LdS ⟨t4, 2, none⟩ w2 fun r_2_1 =>
      R r_0_1 r_1_1 r_2_1 (2 : Int) w2) (
      Pn t fun a_1 =>
      (0 ≤ slot ∧ slot < ((6 : Nat) : Int)) ∧
      LdI .i64 (Addr.add (a_1.add 34) (slot.toNat * 3)) w fun x26_0 =>
      LdI .i64 ((Addr.add (a_1.add 34) (slot.toNat * 3)).add 1) w fun x26_1 =>
      LdS ((Addr.add (a_1.add 34) (slot.toNat * 3)).add 2) w fun x26_2 =>
      Sts [.int .i64 x26_0, .int .i64 x26_1, .string x26_2] ⟨t4, 0, none⟩ 0 w fun w3 =>
      LdI .i64 ⟨t4, 0, none⟩ w3 fun r_0_2 =>
      LdI .i64 ⟨t4, 1, none⟩ w3 fun r_1_2 =>
      LdS ⟨t4, 2, none⟩ w3 fun r_2_2 =>
      R r_0_2 r_1_2 r_2_2 (0 : Int) w3))
theorem store_Store_Rec.B1_eq (t : Option Addr) (slot : Int) (t4 : Nat) (t11 : Bool) (w : World)   (R : Int → Int → ByteArray → Int → World → Prop)  :
    (
  Bm t11 (
    Sts [.int .i64 (0 : Int), .int .i64 (0 : Int), .string (ByteArray.mk #[])] ⟨t4, 0, none⟩ 0 w fun w1 =>
    LdI .i64 ⟨t4, 0, none⟩ w1 fun r_0 =>
    LdI .i64 ⟨t4, 1, none⟩ w1 fun r_1 =>
    LdS ⟨t4, 2, none⟩ w1 fun r_2 =>
    R r_0 r_1 r_2 (1 : Int) w1) (
    Pn t fun a =>
    (0 ≤ slot ∧ slot < ((6 : Nat) : Int)) ∧
    LdB (Addr.add (a.add 28) (slot.toNat * 1)) w fun x18 =>
    Bm (!x18) (
      Sts [.int .i64 (0 : Int), .int .i64 (0 : Int), .string (ByteArray.mk #[])] ⟨t4, 0, none⟩ 0 w fun w2 =>
      LdI .i64 ⟨t4, 0, none⟩ w2 fun r_0_1 =>
      LdI .i64 ⟨t4, 1, none⟩ w2 fun r_1_1 =>
      LdS ⟨t4, 2, none⟩ w2 fun r_2_1 =>
      R r_0_1 r_1_1 r_2_1 (2 : Int) w2) (
      Pn t fun a_1 =>
      (0 ≤ slot ∧ slot < ((6 : Nat) : Int)) ∧
      LdI .i64 (Addr.add (a_1.add 34) (slot.toNat * 3)) w fun x26_0 =>
      LdI .i64 ((Addr.add (a_1.add 34) (slot.toNat * 3)).add 1) w fun x26_1 =>
      LdS ((Addr.add (a_1.add 34) (slot.toNat * 3)).add 2) w fun x26_2 =>
      Sts [.int .i64 x26_0, .int .i64 x26_1, .string x26_2] ⟨t4, 0, none⟩ 0 w fun w3 =>
      LdI .i64 ⟨t4, 0, none⟩ w3 fun r_0_2 =>
      LdI .i64 ⟨t4, 1, none⟩ w3 fun r_1_2 =>
      LdS ⟨t4, 2, none⟩ w3 fun r_2_2 =>
      R r_0_2 r_1_2 r_2_2 (0 : Int) w3))) = kstep Try.prog 27 Try.f46.results.toList (Try.f46.body.getD .skip) (store_Store_Rec.RV R) (kvc Try.prog 27 Try.f46.results.toList (Try.f46.body.getD .skip) (store_Store_Rec.RV R) [] 2000) [(0, [1, 0, 1]), (0, [1, 1])] [(0, .pointer t), (1, .int .i64 slot), (4, .pointer (some ⟨t4, 0, none⟩)), (11, .bool t11)] w := by kernel_rfl
theorem store_Store_Rec.B1_sound {R : Int → Int → ByteArray → Int → World → Prop}  (t : Option Addr) (slot : Int) (t4 : Nat) (t11 : Bool) (w : World) (h : store_Store_Rec.B1 t slot t4 t11 w   R) :
    KW Try.prog 46 27 (store_Store_Rec.RV R) ([(0, [1, 0, 1]), (0, [1, 1])].map (toItem (Try.f46.body.getD .skip))) [(0, .pointer t), (1, .int .i64 slot), (4, .pointer (some ⟨t4, 0, none⟩)), (11, .bool t11)] w := by
  exact block_spec Try.func46 Try.mixed stops_nil (Eq.mp (store_Store_Rec.B1_eq t slot t4 t11 w   R ) h)
def store_Store_Rec.B0 (t : Option Addr) (slot : Int) (w : World)   (R : Int → Int → ByteArray → Int → World → Prop) : Prop :=
  New (.cells #[.int .i64 (0 : Int), .int .i64 (0 : Int), .string (ByteArray.mk #[])] 72) w fun b4 w1 =>
  Bm (decide (slot < (0 : Int))) (
    store_Store_Rec.B1 t slot b4 true w1  R) (
    store_Store_Rec.B1 t slot b4 (decide (slot ≥ (6 : Int))) w1  R)
theorem store_Store_Rec.B0_eq (t : Option Addr) (slot : Int) (w : World)   (R : Int → Int → ByteArray → Int → World → Prop) (sB1 : Option Addr → Int → Nat → Bool → World → Prop) :
    (
  New (.cells #[.int .i64 (0 : Int), .int .i64 (0 : Int), .string (ByteArray.mk #[])] 72) w fun b4 w1 =>
  Bm (decide (slot < (0 : Int))) (
    sB1 t slot b4 true w1) (
    sB1 t slot b4 (decide (slot ≥ (6 : Int))) w1)) = kstep Try.prog 27 Try.f46.results.toList (Try.f46.body.getD .skip) (store_Store_Rec.RV R) (kvc Try.prog 27 Try.f46.results.toList (Try.f46.body.getD .skip) (store_Store_Rec.RV R) [([(0, [1, 0, 1]), (0, [1, 1])], fun σ w => dP (slotOf σ 0) fun t_ => dI .i64 (slotOf σ 1) fun slot_ => dK (slotOf σ 4) fun t4_ => dB (slotOf σ 11) fun t11_ => sB1 t_ slot_ t4_ t11_ w)] 2000) [(0, [])] [(0, .pointer t), (1, .int .i64 slot)] w := by kernel_rfl
theorem store_Store_Rec.B0_sound {R : Int → Int → ByteArray → Int → World → Prop}  (t : Option Addr) (slot : Int) (w : World) (h : store_Store_Rec.B0 t slot w   R) :
    KW Try.prog 46 27 (store_Store_Rec.RV R) ([(0, [])].map (toItem (Try.f46.body.getD .skip))) [(0, .pointer t), (1, .int .i64 slot)] w := by
  exact block_spec Try.func46 Try.mixed (stops_cons (fun σ w h => by
      obtain ⟨t_, e0, h⟩ := dP_elim h
      obtain ⟨slot_, e1, h⟩ := dI_elim h
      obtain ⟨t4_, e2, h⟩ := dK_elim h
      obtain ⟨t11_, e3, h⟩ := dB_elim h
      exact (store_Store_Rec.B1_sound  t_ slot_ t4_ t11_ w h).weaken (Sub.cons (Sub.cons (Sub.cons (Sub.cons (Sub.nil _) e3) e2) e1) e0)) stops_nil) (Eq.mp (store_Store_Rec.B0_eq t slot w   R (fun t_ slot_ t4_ t11_ w => store_Store_Rec.B1 t_ slot_ t4_ t11_ w  R)) h)
theorem store_Store_Rec.sound (t : Option Addr) (slot : Int) (w : World) (R : Int → Int → ByteArray → Int → World → Prop) (h : store_Store_Rec.B0 t slot w R) : store_Store_Rec.Call t slot w R := by
  have hc := calls_of_block (args := #[.pointer t, .int .i64 slot]) Try.func46 (body := (Try.f46.body.getD .skip)) (by kernel_rfl) (by kernel_rfl) (args_slot _) (store_Store_Rec.B0_sound t slot w h)
  exact hc.mono fun e w' he => by
    obtain ⟨v, rfl, hv⟩ := he
    exact store_Store_Rec.RV_elim hv
def rlog_slotOf.B0 (i : Int) (w : World)   (R : Int → World → Prop) : Prop :=
  (6 : Int) ≠ 0 ∧
  R (i.tmod (6 : Int)) w
theorem rlog_slotOf.B0_eq (i : Int) (w : World)   (R : Int → World → Prop)  :
    (
  (6 : Int) ≠ 0 ∧
  R (i.tmod (6 : Int)) w) = kstep Try.prog 5 Try.f47.results.toList (Try.f47.body.getD .skip) (rlog_slotOf.RV R) (kvc Try.prog 5 Try.f47.results.toList (Try.f47.body.getD .skip) (rlog_slotOf.RV R) [] 2000) [(0, [])] [(0, .int .i64 i)] w := by kernel_rfl
theorem rlog_slotOf.B0_sound {R : Int → World → Prop}  (i : Int) (w : World) (h : rlog_slotOf.B0 i w   R) :
    KW Try.prog 47 5 (rlog_slotOf.RV R) ([(0, [])].map (toItem (Try.f47.body.getD .skip))) [(0, .int .i64 i)] w := by
  exact block_spec Try.func47 Try.mixed stops_nil (Eq.mp (rlog_slotOf.B0_eq i w   R ) h)
theorem rlog_slotOf.sound (i : Int) (w : World) (R : Int → World → Prop) (h : rlog_slotOf.B0 i w R) : rlog_slotOf.Call i w R := by
  have hc := calls_of_block (args := #[.int .i64 i]) Try.func47 (body := (Try.f47.body.getD .skip)) (by kernel_rfl) (by kernel_rfl) (args_slot _) (rlog_slotOf.B0_sound i w h)
  exact hc.mono fun e w' he => by
    obtain ⟨v, rfl, hv⟩ := he
    exact rlog_slotOf.RV_elim hv
def store_Store_Meta.B0 (t : Option Addr) (w : World)   (R : Int → Int → World → Prop) : Prop :=
  Pn t fun a =>
  LdI .i64 ((a.add 15).add 2) w.drew fun x8 =>
  Pn t fun a_1 =>
  LdI .i64 ((a_1.add 15).add 3) w.drew fun x13 =>
  R x8 x13 w.drew
theorem store_Store_Meta.B0_eq (t : Option Addr) (w : World)   (R : Int → Int → World → Prop)  :
    (
  Pn t fun a =>
  LdI .i64 ((a.add 15).add 2) w.drew fun x8 =>
  Pn t fun a_1 =>
  LdI .i64 ((a_1.add 15).add 3) w.drew fun x13 =>
  R x8 x13 w.drew) = kstep Try.prog 14 Try.f48.results.toList (Try.f48.body.getD .skip) (store_Store_Meta.RV R) (kvc Try.prog 14 Try.f48.results.toList (Try.f48.body.getD .skip) (store_Store_Meta.RV R) [] 2000) [(0, [])] [(0, .pointer t)] w := by kernel_rfl
theorem store_Store_Meta.B0_sound {R : Int → Int → World → Prop}  (t : Option Addr) (w : World) (h : store_Store_Meta.B0 t w   R) :
    KW Try.prog 48 14 (store_Store_Meta.RV R) ([(0, [])].map (toItem (Try.f48.body.getD .skip))) [(0, .pointer t)] w := by
  exact block_spec Try.func48 Try.mixed stops_nil (Eq.mp (store_Store_Meta.B0_eq t w   R ) h)
theorem store_Store_Meta.sound (t : Option Addr) (w : World) (R : Int → Int → World → Prop) (h : store_Store_Meta.B0 t w R) : store_Store_Meta.Call t w R := by
  have hc := calls_of_block (args := #[.pointer t]) Try.func48 (body := (Try.f48.body.getD .skip)) (by kernel_rfl) (by kernel_rfl) (args_slot _) (store_Store_Meta.B0_sound t w h)
  exact hc.mono fun e w' he => by
    obtain ⟨v, rfl, hv⟩ := he
    exact store_Store_Meta.RV_elim hv
def rlog_Log_load.B1 (l : Option Addr) (i : Int) (r : Nat) (t26 : Bool) (w : World)   (R : Bool → World → Prop) : Prop :=
  Bm t26 (
    R false w) (
    LdI .i64 ⟨r, 1, none⟩ w.drew fun x31 =>
    Pn l fun a =>
    rlog_slotOf.Call i w.drew fun r29 w1 =>
    w1.cell? ⟨r, 1, none⟩ = some (.int .i64 x31) ∧
    (0 ≤ r29 ∧ r29 < ((6 : Nat) : Int)) ∧
    Sts [.int .i64 x31] (Addr.add (a.add 7) (r29.toNat * 1)) 0 w1 fun w2 =>
    LdS ⟨r, 2, none⟩ w2.drew fun x39 =>
    Pn l fun a_1 =>
    rlog_slotOf.Call i w2.drew fun r37 w3 =>
    w3.cell? ⟨r, 2, none⟩ = some (.string x39) ∧
    (0 ≤ r37 ∧ r37 < ((6 : Nat) : Int)) ∧
    Sts [.string x39] (Addr.add (a_1.add 13) (r37.toNat * 1)) 0 w3 fun w4 =>
    R true w4)
theorem rlog_Log_load.B1_eq (l : Option Addr) (i : Int) (r : Nat) (t26 : Bool) (w : World)   (R : Bool → World → Prop)  :
    (
  Bm t26 (
    R false w) (
    LdI .i64 ⟨r, 1, none⟩ w.drew fun x31 =>
    Pn l fun a =>
    rlog_slotOf.Call i w.drew fun r29 w1 =>
    w1.cell? ⟨r, 1, none⟩ = some (.int .i64 x31) ∧
    (0 ≤ r29 ∧ r29 < ((6 : Nat) : Int)) ∧
    Sts [.int .i64 x31] (Addr.add (a.add 7) (r29.toNat * 1)) 0 w1 fun w2 =>
    LdS ⟨r, 2, none⟩ w2.drew fun x39 =>
    Pn l fun a_1 =>
    rlog_slotOf.Call i w2.drew fun r37 w3 =>
    w3.cell? ⟨r, 2, none⟩ = some (.string x39) ∧
    (0 ≤ r37 ∧ r37 < ((6 : Nat) : Int)) ∧
    Sts [.string x39] (Addr.add (a_1.add 13) (r37.toNat * 1)) 0 w3 fun w4 =>
    R true w4)) = kstep Try.prog 43 Try.f49.results.toList (Try.f49.body.getD .skip) (rlog_Log_load.RV R) (kvc Try.prog 43 Try.f49.results.toList (Try.f49.body.getD .skip) (rlog_Log_load.RV R) [] 2000) [(0, [1, 1, 1, 0, 1]), (0, [1, 1, 1, 1])] [(0, .pointer l), (1, .int .i64 i), (6, .pointer (some ⟨r, 0, none⟩)), (26, .bool t26)] w := by kernel_rfl
theorem rlog_Log_load.B1_sound {R : Bool → World → Prop}  (l : Option Addr) (i : Int) (r : Nat) (t26 : Bool) (w : World) (h : rlog_Log_load.B1 l i r t26 w   R) :
    KW Try.prog 49 43 (rlog_Log_load.RV R) ([(0, [1, 1, 1, 0, 1]), (0, [1, 1, 1, 1])].map (toItem (Try.f49.body.getD .skip))) [(0, .pointer l), (1, .int .i64 i), (6, .pointer (some ⟨r, 0, none⟩)), (26, .bool t26)] w := by
  exact block_spec Try.func49 Try.mixed stops_nil (Eq.mp (rlog_Log_load.B1_eq l i r t26 w   R ) h)
def rlog_Log_load.B0 (l : Option Addr) (i : Int) (w : World)   (R : Bool → World → Prop) : Prop :=
  rlog_slotOf.Call i w fun r9 w1 =>
  Pn l fun a =>
  LdP a w1 fun x14 =>
  store_Store_Rec.Call x14 r9 w1 fun r16_0_0 r16_0_1 r16_0_2 r16_1 w2 =>
  New (.cells #[.int .i64 (0 : Int), .int .i64 (0 : Int), .string (ByteArray.mk #[])] 72) w2 fun r_ w3 =>
  Sts [.int .i64 r16_0_0, .int .i64 r16_0_1, .string r16_0_2] ⟨r_, 0, none⟩ 0 w3 fun w4 =>
  Bm (r16_1 != (0 : Int)) (
    rlog_Log_load.B1 l i r_ true w4  R) (
    LdI .i64 ⟨r_, 0, none⟩ w4 fun x23 =>
    rlog_Log_load.B1 l i r_ (x23 != i) w4  R)
theorem rlog_Log_load.B0_eq (l : Option Addr) (i : Int) (w : World)   (R : Bool → World → Prop) (sB1 : Option Addr → Int → Nat → Bool → World → Prop) :
    (
  rlog_slotOf.Call i w fun r9 w1 =>
  Pn l fun a =>
  LdP a w1 fun x14 =>
  store_Store_Rec.Call x14 r9 w1 fun r16_0_0 r16_0_1 r16_0_2 r16_1 w2 =>
  New (.cells #[.int .i64 (0 : Int), .int .i64 (0 : Int), .string (ByteArray.mk #[])] 72) w2 fun r_ w3 =>
  Sts [.int .i64 r16_0_0, .int .i64 r16_0_1, .string r16_0_2] ⟨r_, 0, none⟩ 0 w3 fun w4 =>
  Bm (r16_1 != (0 : Int)) (
    sB1 l i r_ true w4) (
    LdI .i64 ⟨r_, 0, none⟩ w4 fun x23 =>
    sB1 l i r_ (x23 != i) w4)) = kstep Try.prog 43 Try.f49.results.toList (Try.f49.body.getD .skip) (rlog_Log_load.RV R) (kvc Try.prog 43 Try.f49.results.toList (Try.f49.body.getD .skip) (rlog_Log_load.RV R) [([(0, [1, 1, 1, 0, 1]), (0, [1, 1, 1, 1])], fun σ w => dP (slotOf σ 0) fun l_ => dI .i64 (slotOf σ 1) fun i_ => dK (slotOf σ 6) fun r_ => dB (slotOf σ 26) fun t26_ => sB1 l_ i_ r_ t26_ w)] 2000) [(0, [])] [(0, .pointer l), (1, .int .i64 i)] w := by kernel_rfl
theorem rlog_Log_load.B0_sound {R : Bool → World → Prop}  (l : Option Addr) (i : Int) (w : World) (h : rlog_Log_load.B0 l i w   R) :
    KW Try.prog 49 43 (rlog_Log_load.RV R) ([(0, [])].map (toItem (Try.f49.body.getD .skip))) [(0, .pointer l), (1, .int .i64 i)] w := by
  exact block_spec Try.func49 Try.mixed (stops_cons (fun σ w h => by
      obtain ⟨l_, e0, h⟩ := dP_elim h
      obtain ⟨i_, e1, h⟩ := dI_elim h
      obtain ⟨r_, e2, h⟩ := dK_elim h
      obtain ⟨t26_, e3, h⟩ := dB_elim h
      exact (rlog_Log_load.B1_sound  l_ i_ r_ t26_ w h).weaken (Sub.cons (Sub.cons (Sub.cons (Sub.cons (Sub.nil _) e3) e2) e1) e0)) stops_nil) (Eq.mp (rlog_Log_load.B0_eq l i w   R (fun l_ i_ r_ t26_ w => rlog_Log_load.B1 l_ i_ r_ t26_ w  R)) h)
theorem rlog_Log_load.sound (l : Option Addr) (i : Int) (w : World) (R : Bool → World → Prop) (h : rlog_Log_load.B0 l i w R) : rlog_Log_load.Call l i w R := by
  have hc := calls_of_block (args := #[.pointer l, .int .i64 i]) Try.func49 (body := (Try.f49.body.getD .skip)) (by kernel_rfl) (by kernel_rfl) (args_slot _) (rlog_Log_load.B0_sound l i w h)
  exact hc.mono fun e w' he => by
    obtain ⟨v, rfl, hv⟩ := he
    exact rlog_Log_load.RV_elim hv
end Go.Proofs.Qxb6500431a
