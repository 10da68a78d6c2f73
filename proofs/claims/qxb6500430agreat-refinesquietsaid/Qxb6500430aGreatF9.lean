import Derived.Test.Qxb6500430aGreatSig
set_option maxRecDepth 100000
set_option linter.unusedVariables false
open Go.Vc
namespace Go.Proofs.Qxb6500430aGreat
def syncm_Sync_Propose.B0 (s : Option Addr) (data : ByteArray) (w : World)   (R : Int → Int → World → Prop) : Prop :=
  Pn s fun a =>
  LdP (a.add 1) w fun x13 =>
  electm_Elect_Role.Call x13 w fun r14 w1 =>
  Bm (r14 != (2 : Int)) (
    R (0 : Int) (8 : Int) w1) (
    Bm (decide (((data.size : Nat) : Int) > (24 : Int))) (
      R (0 : Int) (5 : Int) w1) (
      Pn s fun a_1 =>
      LdP (a_1.add 1) w1 fun x23 =>
      electm_Elect_Term.Call x23 w1 fun r24 w2 =>
      Pn s fun a_2 =>
      LdP a_2 w2 fun x28 =>
      rlogm_Log_Append.Call x28 r24 data w2 fun r32 w3 =>
      Bm (r32 != (0 : Int)) (
        R (0 : Int) (6 : Int) w3) (
        Pn s fun a_3 =>
        LdP a_3 w3 fun x38 =>
        rlogm_Log_Last.Call x38 w3 fun r39 w4 =>
        R r39 (0 : Int) w4)))
theorem syncm_Sync_Propose.B0_eq (s : Option Addr) (data : ByteArray) (w : World)   (R : Int → Int → World → Prop)  :
    (
  Pn s fun a =>
  LdP (a.add 1) w fun x13 =>
  electm_Elect_Role.Call x13 w fun r14 w1 =>
  Bm (r14 != (2 : Int)) (
    R (0 : Int) (8 : Int) w1) (
    Bm (decide (((data.size : Nat) : Int) > (24 : Int))) (
      R (0 : Int) (5 : Int) w1) (
      Pn s fun a_1 =>
      LdP (a_1.add 1) w1 fun x23 =>
      electm_Elect_Term.Call x23 w1 fun r24 w2 =>
      Pn s fun a_2 =>
      LdP a_2 w2 fun x28 =>
      rlogm_Log_Append.Call x28 r24 data w2 fun r32 w3 =>
      Bm (r32 != (0 : Int)) (
        R (0 : Int) (6 : Int) w3) (
        Pn s fun a_3 =>
        LdP a_3 w3 fun x38 =>
        rlogm_Log_Last.Call x38 w3 fun r39 w4 =>
        R r39 (0 : Int) w4)))) = kstep Tryz.prog 41 Tryz.f86.results.toList (Tryz.f86.body.getD .skip) (syncm_Sync_Propose.RV R) (kvc Tryz.prog 41 Tryz.f86.results.toList (Tryz.f86.body.getD .skip) (syncm_Sync_Propose.RV R) [] 2000) [(0, [])] [(0, .pointer s), (1, .string data)] w := by kernel_rfl
theorem syncm_Sync_Propose.B0_sound {R : Int → Int → World → Prop}  (s : Option Addr) (data : ByteArray) (w : World) (h : syncm_Sync_Propose.B0 s data w   R) :
    KW Tryz.prog 86 41 (syncm_Sync_Propose.RV R) ([(0, [])].map (toItem (Tryz.f86.body.getD .skip))) [(0, .pointer s), (1, .string data)] w := by
  exact block_spec Tryz.func86 Tryz.mixed stops_nil (Eq.mp (syncm_Sync_Propose.B0_eq s data w   R ) h)
theorem syncm_Sync_Propose.sound (s : Option Addr) (data : ByteArray) (w : World) (R : Int → Int → World → Prop) (h : syncm_Sync_Propose.B0 s data w R) : syncm_Sync_Propose.Call s data w R := by
  have hc := calls_of_block (args := #[.pointer s, .string data]) Tryz.func86 (body := (Tryz.f86.body.getD .skip)) (by kernel_rfl) (by kernel_rfl) (args_slot _) (syncm_Sync_Propose.B0_sound s data w h)
  exact hc.mono fun e w' he => by
    obtain ⟨v, rfl, hv⟩ := he
    exact syncm_Sync_Propose.RV_elim hv
def node_Node_At.B0 (n : Option Addr) (i : Int) (w : World)   (R : Int → ByteArray → Int → World → Prop) : Prop :=
  New (.cells #[.int .i64 (0 : Int), .string (ByteArray.mk #[])] 155) w fun b4 w1 =>
  Pn n fun a =>
  LdP a w1 fun x9 =>
  sync_Sync_At.Call x9 i w1 fun r11_0_0 r11_0_1 r11_1 w2 =>
  Sts [.int .i64 r11_0_0, .string r11_0_1] ⟨b4, 0, none⟩ 0 w2 fun w3 =>
  LdI .i64 ⟨b4, 0, none⟩ w3 fun r_0 =>
  LdS ⟨b4, 1, none⟩ w3 fun r_1 =>
  R r_0 r_1 r11_1 w3
theorem node_Node_At.B0_eq (n : Option Addr) (i : Int) (w : World)   (R : Int → ByteArray → Int → World → Prop)  :
    (
  New (.cells #[.int .i64 (0 : Int), .string (ByteArray.mk #[])] 155) w fun b4 w1 =>
  Pn n fun a =>
  LdP a w1 fun x9 =>
  sync_Sync_At.Call x9 i w1 fun r11_0_0 r11_0_1 r11_1 w2 =>
  Sts [.int .i64 r11_0_0, .string r11_0_1] ⟨b4, 0, none⟩ 0 w2 fun w3 =>
  LdI .i64 ⟨b4, 0, none⟩ w3 fun r_0 =>
  LdS ⟨b4, 1, none⟩ w3 fun r_1 =>
  R r_0 r_1 r11_1 w3) = kstep Tryz.prog 14 Tryz.f87.results.toList (Tryz.f87.body.getD .skip) (node_Node_At.RV R) (kvc Tryz.prog 14 Tryz.f87.results.toList (Tryz.f87.body.getD .skip) (node_Node_At.RV R) [] 2000) [(0, [])] [(0, .pointer n), (1, .int .i64 i)] w := by kernel_rfl
theorem node_Node_At.B0_sound {R : Int → ByteArray → Int → World → Prop}  (n : Option Addr) (i : Int) (w : World) (h : node_Node_At.B0 n i w   R) :
    KW Tryz.prog 87 14 (node_Node_At.RV R) ([(0, [])].map (toItem (Tryz.f87.body.getD .skip))) [(0, .pointer n), (1, .int .i64 i)] w := by
  exact block_spec Tryz.func87 Tryz.mixed stops_nil (Eq.mp (node_Node_At.B0_eq n i w   R ) h)
theorem node_Node_At.sound (n : Option Addr) (i : Int) (w : World) (R : Int → ByteArray → Int → World → Prop) (h : node_Node_At.B0 n i w R) : node_Node_At.Call n i w R := by
  have hc := calls_of_block (args := #[.pointer n, .int .i64 i]) Tryz.func87 (body := (Tryz.f87.body.getD .skip)) (by kernel_rfl) (by kernel_rfl) (args_slot _) (node_Node_At.B0_sound n i w h)
  exact hc.mono fun e w' he => by
    obtain ⟨v, rfl, hv⟩ := he
    exact node_Node_At.RV_elim hv
def nodem_Node_At.B0 (n : Option Addr) (i : Int) (w : World)   (R : Int → ByteArray → Int → World → Prop) : Prop :=
  New (.cells #[.int .i64 (0 : Int), .string (ByteArray.mk #[])] 155) w fun b4 w1 =>
  Pn n fun a =>
  LdP a w1 fun x9 =>
  syncm_Sync_At.Call x9 i w1 fun r11_0_0 r11_0_1 r11_1 w2 =>
  Sts [.int .i64 r11_0_0, .string r11_0_1] ⟨b4, 0, none⟩ 0 w2 fun w3 =>
  LdI .i64 ⟨b4, 0, none⟩ w3 fun r_0 =>
  LdS ⟨b4, 1, none⟩ w3 fun r_1 =>
  R r_0 r_1 r11_1 w3
theorem nodem_Node_At.B0_eq (n : Option Addr) (i : Int) (w : World)   (R : Int → ByteArray → Int → World → Prop)  :
    (
  New (.cells #[.int .i64 (0 : Int), .string (ByteArray.mk #[])] 155) w fun b4 w1 =>
  Pn n fun a =>
  LdP a w1 fun x9 =>
  syncm_Sync_At.Call x9 i w1 fun r11_0_0 r11_0_1 r11_1 w2 =>
  Sts [.int .i64 r11_0_0, .string r11_0_1] ⟨b4, 0, none⟩ 0 w2 fun w3 =>
  LdI .i64 ⟨b4, 0, none⟩ w3 fun r_0 =>
  LdS ⟨b4, 1, none⟩ w3 fun r_1 =>
  R r_0 r_1 r11_1 w3) = kstep Tryz.prog 14 Tryz.f88.results.toList (Tryz.f88.body.getD .skip) (nodem_Node_At.RV R) (kvc Tryz.prog 14 Tryz.f88.results.toList (Tryz.f88.body.getD .skip) (nodem_Node_At.RV R) [] 2000) [(0, [])] [(0, .pointer n), (1, .int .i64 i)] w := by kernel_rfl
theorem nodem_Node_At.B0_sound {R : Int → ByteArray → Int → World → Prop}  (n : Option Addr) (i : Int) (w : World) (h : nodem_Node_At.B0 n i w   R) :
    KW Tryz.prog 88 14 (nodem_Node_At.RV R) ([(0, [])].map (toItem (Tryz.f88.body.getD .skip))) [(0, .pointer n), (1, .int .i64 i)] w := by
  exact block_spec Tryz.func88 Tryz.mixed stops_nil (Eq.mp (nodem_Node_At.B0_eq n i w   R ) h)
theorem nodem_Node_At.sound (n : Option Addr) (i : Int) (w : World) (R : Int → ByteArray → Int → World → Prop) (h : nodem_Node_At.B0 n i w R) : nodem_Node_At.Call n i w R := by
  have hc := calls_of_block (args := #[.pointer n, .int .i64 i]) Tryz.func88 (body := (Tryz.f88.body.getD .skip)) (by kernel_rfl) (by kernel_rfl) (args_slot _) (nodem_Node_At.B0_sound n i w h)
  exact hc.mono fun e w' he => by
    obtain ⟨v, rfl, hv⟩ := he
    exact nodem_Node_At.RV_elim hv
def node_Node_TermAt.B0 (n : Option Addr) (i : Int) (w : World)   (R : Int → Int → World → Prop) : Prop :=
  Pn n fun a =>
  LdP a w fun x9 =>
  sync_Sync_TermAt.Call x9 i w fun r11_0 r11_1 w1 =>
  R r11_0 r11_1 w1
theorem node_Node_TermAt.B0_eq (n : Option Addr) (i : Int) (w : World)   (R : Int → Int → World → Prop)  :
    (
  Pn n fun a =>
  LdP a w fun x9 =>
  sync_Sync_TermAt.Call x9 i w fun r11_0 r11_1 w1 =>
  R r11_0 r11_1 w1) = kstep Tryz.prog 14 Tryz.f89.results.toList (Tryz.f89.body.getD .skip) (node_Node_TermAt.RV R) (kvc Tryz.prog 14 Tryz.f89.results.toList (Tryz.f89.body.getD .skip) (node_Node_TermAt.RV R) [] 2000) [(0, [])] [(0, .pointer n), (1, .int .i64 i)] w := by kernel_rfl
theorem node_Node_TermAt.B0_sound {R : Int → Int → World → Prop}  (n : Option Addr) (i : Int) (w : World) (h : node_Node_TermAt.B0 n i w   R) :
    KW Tryz.prog 89 14 (node_Node_TermAt.RV R) ([(0, [])].map (toItem (Tryz.f89.body.getD .skip))) [(0, .pointer n), (1, .int .i64 i)] w := by
  exact block_spec Tryz.func89 Tryz.mixed stops_nil (Eq.mp (node_Node_TermAt.B0_eq n i w   R ) h)
theorem node_Node_TermAt.sound (n : Option Addr) (i : Int) (w : World) (R : Int → Int → World → Prop) (h : node_Node_TermAt.B0 n i w R) : node_Node_TermAt.Call n i w R := by
  have hc := calls_of_block (args := #[.pointer n, .int .i64 i]) Tryz.func89 (body := (Tryz.f89.body.getD .skip)) (by kernel_rfl) (by kernel_rfl) (args_slot _) (node_Node_TermAt.B0_sound n i w h)
  exact hc.mono fun e w' he => by
    obtain ⟨v, rfl, hv⟩ := he
    exact node_Node_TermAt.RV_elim hv
def nodem_Node_TermAt.B0 (n : Option Addr) (i : Int) (w : World)   (R : Int → Int → World → Prop) : Prop :=
  Pn n fun a =>
  LdP a w fun x9 =>
  syncm_Sync_TermAt.Call x9 i w fun r11_0 r11_1 w1 =>
  R r11_0 r11_1 w1
theorem nodem_Node_TermAt.B0_eq (n : Option Addr) (i : Int) (w : World)   (R : Int → Int → World → Prop)  :
    (
  Pn n fun a =>
  LdP a w fun x9 =>
  syncm_Sync_TermAt.Call x9 i w fun r11_0 r11_1 w1 =>
  R r11_0 r11_1 w1) = kstep Tryz.prog 14 Tryz.f90.results.toList (Tryz.f90.body.getD .skip) (nodem_Node_TermAt.RV R) (kvc Tryz.prog 14 Tryz.f90.results.toList (Tryz.f90.body.getD .skip) (nodem_Node_TermAt.RV R) [] 2000) [(0, [])] [(0, .pointer n), (1, .int .i64 i)] w := by kernel_rfl
theorem nodem_Node_TermAt.B0_sound {R : Int → Int → World → Prop}  (n : Option Addr) (i : Int) (w : World) (h : nodem_Node_TermAt.B0 n i w   R) :
    KW Tryz.prog 90 14 (nodem_Node_TermAt.RV R) ([(0, [])].map (toItem (Tryz.f90.body.getD .skip))) [(0, .pointer n), (1, .int .i64 i)] w := by
  exact block_spec Tryz.func90 Tryz.mixed stops_nil (Eq.mp (nodem_Node_TermAt.B0_eq n i w   R ) h)
theorem nodem_Node_TermAt.sound (n : Option Addr) (i : Int) (w : World) (R : Int → Int → World → Prop) (h : nodem_Node_TermAt.B0 n i w R) : nodem_Node_TermAt.Call n i w R := by
  have hc := calls_of_block (args := #[.pointer n, .int .i64 i]) Tryz.func90 (body := (Tryz.f90.body.getD .skip)) (by kernel_rfl) (by kernel_rfl) (args_slot _) (nodem_Node_TermAt.B0_sound n i w h)
  exact hc.mono fun e w' he => by
    obtain ⟨v, rfl, hv⟩ := he
    exact nodem_Node_TermAt.RV_elim hv
def node_Node_Val.B0 (n : Option Addr) (key : ByteArray) (w : World)   (R : ByteArray → Bool → World → Prop) : Prop :=
  Pn n fun a =>
  LdP (a.add 1) w fun x9 =>
  kv_KV_Val.Call x9 key w fun r11_0 r11_1 w1 =>
  R r11_0 r11_1 w1
theorem node_Node_Val.B0_eq (n : Option Addr) (key : ByteArray) (w : World)   (R : ByteArray → Bool → World → Prop)  :
    (
  Pn n fun a =>
  LdP (a.add 1) w fun x9 =>
  kv_KV_Val.Call x9 key w fun r11_0 r11_1 w1 =>
  R r11_0 r11_1 w1) = kstep Tryz.prog 14 Tryz.f91.results.toList (Tryz.f91.body.getD .skip) (node_Node_Val.RV R) (kvc Tryz.prog 14 Tryz.f91.results.toList (Tryz.f91.body.getD .skip) (node_Node_Val.RV R) [] 2000) [(0, [])] [(0, .pointer n), (1, .string key)] w := by kernel_rfl
theorem node_Node_Val.B0_sound {R : ByteArray → Bool → World → Prop}  (n : Option Addr) (key : ByteArray) (w : World) (h : node_Node_Val.B0 n key w   R) :
    KW Tryz.prog 91 14 (node_Node_Val.RV R) ([(0, [])].map (toItem (Tryz.f91.body.getD .skip))) [(0, .pointer n), (1, .string key)] w := by
  exact block_spec Tryz.func91 Tryz.mixed stops_nil (Eq.mp (node_Node_Val.B0_eq n key w   R ) h)
theorem node_Node_Val.sound (n : Option Addr) (key : ByteArray) (w : World) (R : ByteArray → Bool → World → Prop) (h : node_Node_Val.B0 n key w R) : node_Node_Val.Call n key w R := by
  have hc := calls_of_block (args := #[.pointer n, .string key]) Tryz.func91 (body := (Tryz.f91.body.getD .skip)) (by kernel_rfl) (by kernel_rfl) (args_slot _) (node_Node_Val.B0_sound n key w h)
  exact hc.mono fun e w' he => by
    obtain ⟨v, rfl, hv⟩ := he
    exact node_Node_Val.RV_elim hv
def nodem_Node_Val.B0 (n : Option Addr) (key : ByteArray) (w : World)   (R : ByteArray → Bool → World → Prop) : Prop :=
  Pn n fun a =>
  LdP (a.add 1) w fun x9 =>
  kvm_KV_Val.Call x9 key w fun r11_0 r11_1 w1 =>
  R r11_0 r11_1 w1
theorem nodem_Node_Val.B0_eq (n : Option Addr) (key : ByteArray) (w : World)   (R : ByteArray → Bool → World → Prop)  :
    (
  Pn n fun a =>
  LdP (a.add 1) w fun x9 =>
  kvm_KV_Val.Call x9 key w fun r11_0 r11_1 w1 =>
  R r11_0 r11_1 w1) = kstep Tryz.prog 14 Tryz.f92.results.toList (Tryz.f92.body.getD .skip) (nodem_Node_Val.RV R) (kvc Tryz.prog 14 Tryz.f92.results.toList (Tryz.f92.body.getD .skip) (nodem_Node_Val.RV R) [] 2000) [(0, [])] [(0, .pointer n), (1, .string key)] w := by kernel_rfl
theorem nodem_Node_Val.B0_sound {R : ByteArray → Bool → World → Prop}  (n : Option Addr) (key : ByteArray) (w : World) (h : nodem_Node_Val.B0 n key w   R) :
    KW Tryz.prog 92 14 (nodem_Node_Val.RV R) ([(0, [])].map (toItem (Tryz.f92.body.getD .skip))) [(0, .pointer n), (1, .string key)] w := by
  exact block_spec Tryz.func92 Tryz.mixed stops_nil (Eq.mp (nodem_Node_Val.B0_eq n key w   R ) h)
theorem nodem_Node_Val.sound (n : Option Addr) (key : ByteArray) (w : World) (R : ByteArray → Bool → World → Prop) (h : nodem_Node_Val.B0 n key w R) : nodem_Node_Val.Call n key w R := by
  have hc := calls_of_block (args := #[.pointer n, .string key]) Tryz.func92 (body := (Tryz.f92.body.getD .skip)) (by kernel_rfl) (by kernel_rfl) (args_slot _) (nodem_Node_Val.B0_sound n key w h)
  exact hc.mono fun e w' he => by
    obtain ⟨v, rfl, hv⟩ := he
    exact nodem_Node_Val.RV_elim hv
def node_Node_View.B0 (n : Option Addr) (w : World)   (R : Option Addr → World → Prop) : Prop :=
  Pn n fun a =>
  LdP a w fun x7 =>
  sync_Sync_View.Call x7 w fun r8 w1 =>
  Pn n fun a_1 =>
  LdI .i64 (a_1.add 3) w1.drew fun x13 =>
  Pn n fun a_2 =>
  LdB (a_2.add 4) w1.drew fun x17_0 =>
  LdB ((a_2.add 4).add 1) w1.drew fun x17_1 =>
  LdB ((a_2.add 4).add 2) w1.drew fun x17_2 =>
  Pn n fun a_3 =>
  LdI .i64 (a_3.add 7) w1.drew fun x21_0 =>
  LdI .i64 ((a_3.add 7).add 1) w1.drew fun x21_1 =>
  LdI .i64 ((a_3.add 7).add 2) w1.drew fun x21_2 =>
  Pn n fun a_4 =>
  LdI .i64 (a_4.add 10) w1.drew fun x25_0 =>
  LdI .i64 ((a_4.add 10).add 1) w1.drew fun x25_1 =>
  LdI .i64 ((a_4.add 10).add 2) w1.drew fun x25_2 =>
  New (.cells #[.pointer r8, .int .i64 x13, .bool x17_0, .bool x17_1, .bool x17_2, .int .i64 x21_0, .int .i64 x21_1, .int .i64 x21_2, .int .i64 x25_0, .int .i64 x25_1, .int .i64 x25_2] 165) w1.drew fun b27 w2 =>
  R (some ⟨b27, 0, none⟩) w2
theorem node_Node_View.B0_eq (n : Option Addr) (w : World)   (R : Option Addr → World → Prop)  :
    (
  Pn n fun a =>
  LdP a w fun x7 =>
  sync_Sync_View.Call x7 w fun r8 w1 =>
  Pn n fun a_1 =>
  LdI .i64 (a_1.add 3) w1.drew fun x13 =>
  Pn n fun a_2 =>
  LdB (a_2.add 4) w1.drew fun x17_0 =>
  LdB ((a_2.add 4).add 1) w1.drew fun x17_1 =>
  LdB ((a_2.add 4).add 2) w1.drew fun x17_2 =>
  Pn n fun a_3 =>
  LdI .i64 (a_3.add 7) w1.drew fun x21_0 =>
  LdI .i64 ((a_3.add 7).add 1) w1.drew fun x21_1 =>
  LdI .i64 ((a_3.add 7).add 2) w1.drew fun x21_2 =>
  Pn n fun a_4 =>
  LdI .i64 (a_4.add 10) w1.drew fun x25_0 =>
  LdI .i64 ((a_4.add 10).add 1) w1.drew fun x25_1 =>
  LdI .i64 ((a_4.add 10).add 2) w1.drew fun x25_2 =>
  New (.cells #[.pointer r8, .int .i64 x13, .bool x17_0, .bool x17_1, .bool x17_2, .int .i64 x21_0, .int .i64 x21_1, .int .i64 x21_2, .int .i64 x25_0, .int .i64 x25_1, .int .i64 x25_2] 165) w1.drew fun b27 w2 =>
  R (some ⟨b27, 0, none⟩) w2) = kstep Tryz.prog 28 Tryz.f93.results.toList (Tryz.f93.body.getD .skip) (node_Node_View.RV R) (kvc Tryz.prog 28 Tryz.f93.results.toList (Tryz.f93.body.getD .skip) (node_Node_View.RV R) [] 2000) [(0, [])] [(0, .pointer n)] w := by kernel_rfl
theorem node_Node_View.B0_sound {R : Option Addr → World → Prop}  (n : Option Addr) (w : World) (h : node_Node_View.B0 n w   R) :
    KW Tryz.prog 93 28 (node_Node_View.RV R) ([(0, [])].map (toItem (Tryz.f93.body.getD .skip))) [(0, .pointer n)] w := by
  exact block_spec Tryz.func93 Tryz.mixed stops_nil (Eq.mp (node_Node_View.B0_eq n w   R ) h)
theorem node_Node_View.sound (n : Option Addr) (w : World) (R : Option Addr → World → Prop) (h : node_Node_View.B0 n w R) : node_Node_View.Call n w R := by
  have hc := calls_of_block (args := #[.pointer n]) Tryz.func93 (body := (Tryz.f93.body.getD .skip)) (by kernel_rfl) (by kernel_rfl) (args_slot _) (node_Node_View.B0_sound n w h)
  exact hc.mono fun e w' he => by
    obtain ⟨v, rfl, hv⟩ := he
    exact node_Node_View.RV_elim hv
def nodem_Node_View.B0 (n : Option Addr) (w : World)   (R : Option Addr → World → Prop) : Prop :=
  Pn n fun a =>
  LdP a w fun x7 =>
  syncm_Sync_View.Call x7 w fun r8 w1 =>
  Pn n fun a_1 =>
  LdI .i64 (a_1.add 2) w1.drew fun x13 =>
  Pn n fun a_2 =>
  LdB (a_2.add 3) w1.drew fun x17_0 =>
  LdB ((a_2.add 3).add 1) w1.drew fun x17_1 =>
  LdB ((a_2.add 3).add 2) w1.drew fun x17_2 =>
  Pn n fun a_3 =>
  LdI .i64 (a_3.add 6) w1.drew fun x21_0 =>
  LdI .i64 ((a_3.add 6).add 1) w1.drew fun x21_1 =>
  LdI .i64 ((a_3.add 6).add 2) w1.drew fun x21_2 =>
  Pn n fun a_4 =>
  LdI .i64 (a_4.add 9) w1.drew fun x25_0 =>
  LdI .i64 ((a_4.add 9).add 1) w1.drew fun x25_1 =>
  LdI .i64 ((a_4.add 9).add 2) w1.drew fun x25_2 =>
  New (.cells #[.pointer r8, .int .i64 x13, .bool x17_0, .bool x17_1, .bool x17_2, .int .i64 x21_0, .int .i64 x21_1, .int .i64 x21_2, .int .i64 x25_0, .int .i64 x25_1, .int .i64 x25_2] 165) w1.drew fun b27 w2 =>
  R (some ⟨b27, 0, none⟩) w2
theorem nodem_Node_View.B0_eq (n : Option Addr) (w : World)   (R : Option Addr → World → Prop)  :
    (
  Pn n fun a =>
  LdP a w fun x7 =>
  syncm_Sync_View.Call x7 w fun r8 w1 =>
  Pn n fun a_1 =>
  LdI .i64 (a_1.add 2) w1.drew fun x13 =>
  Pn n fun a_2 =>
  LdB (a_2.add 3) w1.drew fun x17_0 =>
  LdB ((a_2.add 3).add 1) w1.drew fun x17_1 =>
  LdB ((a_2.add 3).add 2) w1.drew fun x17_2 =>
  Pn n fun a_3 =>
  LdI .i64 (a_3.add 6) w1.drew fun x21_0 =>
  LdI .i64 ((a_3.add 6).add 1) w1.drew fun x21_1 =>
  LdI .i64 ((a_3.add 6).add 2) w1.drew fun x21_2 =>
  Pn n fun a_4 =>
  LdI .i64 (a_4.add 9) w1.drew fun x25_0 =>
  LdI .i64 ((a_4.add 9).add 1) w1.drew fun x25_1 =>
  LdI .i64 ((a_4.add 9).add 2) w1.drew fun x25_2 =>
  New (.cells #[.pointer r8, .int .i64 x13, .bool x17_0, .bool x17_1, .bool x17_2, .int .i64 x21_0, .int .i64 x21_1, .int .i64 x21_2, .int .i64 x25_0, .int .i64 x25_1, .int .i64 x25_2] 165) w1.drew fun b27 w2 =>
  R (some ⟨b27, 0, none⟩) w2) = kstep Tryz.prog 28 Tryz.f94.results.toList (Tryz.f94.body.getD .skip) (nodem_Node_View.RV R) (kvc Tryz.prog 28 Tryz.f94.results.toList (Tryz.f94.body.getD .skip) (nodem_Node_View.RV R) [] 2000) [(0, [])] [(0, .pointer n)] w := by kernel_rfl
theorem nodem_Node_View.B0_sound {R : Option Addr → World → Prop}  (n : Option Addr) (w : World) (h : nodem_Node_View.B0 n w   R) :
    KW Tryz.prog 94 28 (nodem_Node_View.RV R) ([(0, [])].map (toItem (Tryz.f94.body.getD .skip))) [(0, .pointer n)] w := by
  exact block_spec Tryz.func94 Tryz.mixed stops_nil (Eq.mp (nodem_Node_View.B0_eq n w   R ) h)
theorem nodem_Node_View.sound (n : Option Addr) (w : World) (R : Option Addr → World → Prop) (h : nodem_Node_View.B0 n w R) : nodem_Node_View.Call n w R := by
  have hc := calls_of_block (args := #[.pointer n]) Tryz.func94 (body := (Tryz.f94.body.getD .skip)) (by kernel_rfl) (by kernel_rfl) (args_slot _) (nodem_Node_View.B0_sound n w h)
  exact hc.mono fun e w' he => by
    obtain ⟨v, rfl, hv⟩ := he
    exact nodem_Node_View.RV_elim hv
def nodelaw_SameSync.B3 (a b : Option Addr) (p : Int) (t169 : Bool) (w : World) (N1 : Option Addr → Option Addr → Int → World → Prop)  (R : Bool → World → Prop) : Prop :=
  Bm t169 (
    R false w) (
    N1 a b (IntKind.i64.wrap (p + (1 : Int))) w)
theorem nodelaw_SameSync.B3_eq (a b : Option Addr) (p : Int) (t169 : Bool) (w : World) (N1 : Option Addr → Option Addr → Int → World → Prop)  (R : Bool → World → Prop)  :
    (
  Bm t169 (
    R false w) (
    N1 a b (IntKind.i64.wrap (p + (1 : Int))) w)) = kstep Tryz.prog 170 Tryz.f95.results.toList (Tryz.f95.body.getD .skip) (nodelaw_SameSync.RV R) (kvc Tryz.prog 170 Tryz.f95.results.toList (Tryz.f95.body.getD .skip) (nodelaw_SameSync.RV R) [([(0, [1, 1, 1, 0, 1, 0, 0]), (2, [1, 1, 1, 0, 1, 0, 0]), (1, [0]), (0, [1, 1, 1, 1])], fun σ w => dP (slotOf σ 0) fun a_ => dP (slotOf σ 1) fun b_ => dI .i64 (slotOf σ 5) fun p_ => N1 a_ b_ p_ w)] 2000) [(0, [1, 1, 1, 0, 1, 0, 0, 1, 0, 0, 1]), (1, [1]), (0, [1, 1, 1, 0, 1, 0, 0, 1, 1]), (2, [1, 1, 1, 0, 1, 0, 0]), (1, [0]), (0, [1, 1, 1, 1])] [(0, .pointer a), (1, .pointer b), (5, .int .i64 p), (169, .bool t169)] w := by kernel_rfl
theorem nodelaw_SameSync.B3_sound {R : Bool → World → Prop} {N1 : Option Addr → Option Addr → Int → World → Prop} (hN1 : ∀ a b p w, N1 a b p w → KW Tryz.prog 95 170 (nodelaw_SameSync.RV R) ([(0, [1, 1, 1, 0, 1, 0, 0]), (2, [1, 1, 1, 0, 1, 0, 0]), (1, [0]), (0, [1, 1, 1, 1])].map (toItem (Tryz.f95.body.getD .skip))) [(0, .pointer a), (1, .pointer b), (5, .int .i64 p)] w) (a b : Option Addr) (p : Int) (t169 : Bool) (w : World) (h : nodelaw_SameSync.B3 a b p t169 w N1  R) :
    KW Tryz.prog 95 170 (nodelaw_SameSync.RV R) ([(0, [1, 1, 1, 0, 1, 0, 0, 1, 0, 0, 1]), (1, [1]), (0, [1, 1, 1, 0, 1, 0, 0, 1, 1]), (2, [1, 1, 1, 0, 1, 0, 0]), (1, [0]), (0, [1, 1, 1, 1])].map (toItem (Tryz.f95.body.getD .skip))) [(0, .pointer a), (1, .pointer b), (5, .int .i64 p), (169, .bool t169)] w := by
  exact block_spec Tryz.func95 Tryz.mixed (stops_cons (fun σ w h => by
      obtain ⟨a_, e0, h⟩ := dP_elim h
      obtain ⟨b_, e1, h⟩ := dP_elim h
      obtain ⟨p_, e2, h⟩ := dI_elim h
      exact (hN1 a_ b_ p_ w h).weaken (Sub.cons (Sub.cons (Sub.cons (Sub.nil _) e2) e1) e0)) stops_nil) (Eq.mp (nodelaw_SameSync.B3_eq a b p t169 w N1  R ) h)
def nodelaw_SameSync.L1b (a b : Option Addr) (p : Int) (w : World)  (N1 : Option Addr → Option Addr → Int → World → Prop) (R : Bool → World → Prop) : Prop :=
  Bm (decide (p < (3 : Int))) (
    Pn a fun a_1 =>
    (0 ≤ p ∧ p < ((3 : Nat) : Int)) ∧
    LdB (Addr.add (a_1.add 6) (p.toNat * 1)) w.drew fun x132 =>
    Pn b fun a_2 =>
    (0 ≤ p ∧ p < ((3 : Nat) : Int)) ∧
    LdB (Addr.add (a_2.add 6) (p.toNat * 1)) w.drew fun x138 =>
    Bm (!(x132 == x138)) (
      nodelaw_SameSync.B3 a b p true w.drew N1 R) (
      Pn a fun a_3 =>
      (0 ≤ p ∧ p < ((3 : Nat) : Int)) ∧
      LdI .i64 (Addr.add (a_3.add 14) (p.toNat * 1)) w.drew fun x146 =>
      Pn b fun a_4 =>
      (0 ≤ p ∧ p < ((3 : Nat) : Int)) ∧
      LdI .i64 (Addr.add (a_4.add 14) (p.toNat * 1)) w.drew fun x152 =>
      Bm (x146 != x152) (
        nodelaw_SameSync.B3 a b p true w.drew N1 R) (
        Pn a fun a_5 =>
        (0 ≤ p ∧ p < ((3 : Nat) : Int)) ∧
        LdI .i64 (Addr.add (a_5.add 17) (p.toNat * 1)) w.drew fun x161 =>
        Pn b fun a_6 =>
        (0 ≤ p ∧ p < ((3 : Nat) : Int)) ∧
        LdI .i64 (Addr.add (a_6.add 17) (p.toNat * 1)) w.drew fun x167 =>
        nodelaw_SameSync.B3 a b p (x161 != x167) w.drew N1 R))) (
    R true w)
theorem nodelaw_SameSync.L1b_eq (a b : Option Addr) (p : Int) (w : World)  (N1 : Option Addr → Option Addr → Int → World → Prop) (R : Bool → World → Prop) (sB3 : Option Addr → Option Addr → Int → Bool → World → Prop) :
    (
  Bm (decide (p < (3 : Int))) (
    Pn a fun a_1 =>
    (0 ≤ p ∧ p < ((3 : Nat) : Int)) ∧
    LdB (Addr.add (a_1.add 6) (p.toNat * 1)) w.drew fun x132 =>
    Pn b fun a_2 =>
    (0 ≤ p ∧ p < ((3 : Nat) : Int)) ∧
    LdB (Addr.add (a_2.add 6) (p.toNat * 1)) w.drew fun x138 =>
    Bm (!(x132 == x138)) (
      sB3 a b p true w.drew) (
      Pn a fun a_3 =>
      (0 ≤ p ∧ p < ((3 : Nat) : Int)) ∧
      LdI .i64 (Addr.add (a_3.add 14) (p.toNat * 1)) w.drew fun x146 =>
      Pn b fun a_4 =>
      (0 ≤ p ∧ p < ((3 : Nat) : Int)) ∧
      LdI .i64 (Addr.add (a_4.add 14) (p.toNat * 1)) w.drew fun x152 =>
      Bm (x146 != x152) (
        sB3 a b p true w.drew) (
        Pn a fun a_5 =>
        (0 ≤ p ∧ p < ((3 : Nat) : Int)) ∧
        LdI .i64 (Addr.add (a_5.add 17) (p.toNat * 1)) w.drew fun x161 =>
        Pn b fun a_6 =>
        (0 ≤ p ∧ p < ((3 : Nat) : Int)) ∧
        LdI .i64 (Addr.add (a_6.add 17) (p.toNat * 1)) w.drew fun x167 =>
        sB3 a b p (x161 != x167) w.drew))) (
    R true w)) = kstep Tryz.prog 170 Tryz.f95.results.toList (Tryz.f95.body.getD .skip) (nodelaw_SameSync.RV R) (kvc Tryz.prog 170 Tryz.f95.results.toList (Tryz.f95.body.getD .skip) (nodelaw_SameSync.RV R) [([(0, [1, 1, 1, 0, 1, 0, 0, 1, 0, 0, 1]), (1, [1]), (0, [1, 1, 1, 0, 1, 0, 0, 1, 1]), (2, [1, 1, 1, 0, 1, 0, 0]), (1, [0]), (0, [1, 1, 1, 1])], fun σ w => dP (slotOf σ 0) fun a_ => dP (slotOf σ 1) fun b_ => dI .i64 (slotOf σ 5) fun p_ => dB (slotOf σ 169) fun t169_ => sB3 a_ b_ p_ t169_ w)] 2000) [(0, [1, 1, 1, 0, 1, 0, 0]), (2, [1, 1, 1, 0, 1, 0, 0]), (1, [0]), (0, [1, 1, 1, 1])] [(0, .pointer a), (1, .pointer b), (5, .int .i64 p)] w := by kernel_rfl
theorem nodelaw_SameSync.L1b_sound {R : Bool → World → Prop} {N1 : Option Addr → Option Addr → Int → World → Prop} (hN1 : ∀ a b p w, N1 a b p w → KW Tryz.prog 95 170 (nodelaw_SameSync.RV R) ([(0, [1, 1, 1, 0, 1, 0, 0]), (2, [1, 1, 1, 0, 1, 0, 0]), (1, [0]), (0, [1, 1, 1, 1])].map (toItem (Tryz.f95.body.getD .skip))) [(0, .pointer a), (1, .pointer b), (5, .int .i64 p)] w) (a b : Option Addr) (p : Int) (w : World) (h : nodelaw_SameSync.L1b a b p w  N1 R) :
    KW Tryz.prog 95 170 (nodelaw_SameSync.RV R) ([(0, [1, 1, 1, 0, 1, 0, 0]), (2, [1, 1, 1, 0, 1, 0, 0]), (1, [0]), (0, [1, 1, 1, 1])].map (toItem (Tryz.f95.body.getD .skip))) [(0, .pointer a), (1, .pointer b), (5, .int .i64 p)] w := by
  exact block_spec Tryz.func95 Tryz.mixed (stops_cons (fun σ w h => by
      obtain ⟨a_, e0, h⟩ := dP_elim h
      obtain ⟨b_, e1, h⟩ := dP_elim h
      obtain ⟨p_, e2, h⟩ := dI_elim h
      obtain ⟨t169_, e3, h⟩ := dB_elim h
      exact (nodelaw_SameSync.B3_sound hN1 a_ b_ p_ t169_ w h).weaken (Sub.cons (Sub.cons (Sub.cons (Sub.cons (Sub.nil _) e3) e2) e1) e0)) stops_nil) (Eq.mp (nodelaw_SameSync.L1b_eq a b p w  N1 R (fun a_ b_ p_ t169_ w => nodelaw_SameSync.B3 a_ b_ p_ t169_ w N1 R)) h)
def nodelaw_SameSync.L1 (a b : Option Addr) (p : Int) (w : World)  (R : Bool → World → Prop) : Prop :=
  ∃ (I : Nat → Option Addr → Option Addr → Int → World → Prop) (m : Nat), I m a b p w ∧ ∀ m a b p w, I m a b p w → nodelaw_SameSync.L1b a b p w  (fun a' b' p' w' => ∃ m', m' < m ∧ I m' a' b' p' w') R
theorem nodelaw_SameSync.L1_sound {R : Bool → World → Prop}  (a b : Option Addr) (p : Int) (w : World) (h : nodelaw_SameSync.L1 a b p w  R) :
    KW Tryz.prog 95 170 (nodelaw_SameSync.RV R) ([(0, [1, 1, 1, 0, 1, 0, 0]), (2, [1, 1, 1, 0, 1, 0, 0]), (1, [0]), (0, [1, 1, 1, 1])].map (toItem (Tryz.f95.body.getD .skip))) [(0, .pointer a), (1, .pointer b), (5, .int .i64 p)] w := by
  obtain ⟨I, m, hBase, hr⟩ := h
  refine KW.loop (fun m σ w => ∃ (a b : Option Addr) (p : Int), σ = [(0, .pointer a), (1, .pointer b), (5, .int .i64 p)] ∧ I m a b p w) ?_ m _ w ⟨a, b, p, rfl, hBase⟩
  rintro m ih σ w ⟨a, b, p, rfl, hI⟩
  exact nodelaw_SameSync.L1b_sound  (N1 := fun a' b' p' w' => ∃ m', m' < m ∧ I m' a' b' p' w') (fun a' b' p' w' hx => by obtain ⟨m', hlt, hI'⟩ := hx; exact ih m' hlt _ w' ⟨a', b', p', rfl, hI'⟩) a b p w (hr m a b p w hI)
def nodelaw_SameSync.B2 (a b : Option Addr) (t122 : Bool) (w : World)   (R : Bool → World → Prop) : Prop :=
  Bm t122 (
    R false w) (
    nodelaw_SameSync.L1 a b (0 : Int) w  R)
theorem nodelaw_SameSync.B2_eq (a b : Option Addr) (t122 : Bool) (w : World)   (R : Bool → World → Prop) (sL1 : Option Addr → Option Addr → Int → World → Prop) :
    (
  Bm t122 (
    R false w) (
    sL1 a b (0 : Int) w)) = kstep Tryz.prog 170 Tryz.f95.results.toList (Tryz.f95.body.getD .skip) (nodelaw_SameSync.RV R) (kvc Tryz.prog 170 Tryz.f95.results.toList (Tryz.f95.body.getD .skip) (nodelaw_SameSync.RV R) [([(0, [1, 1, 1, 0, 1, 0, 0]), (2, [1, 1, 1, 0, 1, 0, 0]), (1, [0]), (0, [1, 1, 1, 1])], fun σ w => dP (slotOf σ 0) fun a_ => dP (slotOf σ 1) fun b_ => dI .i64 (slotOf σ 5) fun p_ => sL1 a_ b_ p_ w)] 2000) [(0, [1, 1, 0, 1]), (0, [1, 1, 1])] [(0, .pointer a), (1, .pointer b), (122, .bool t122)] w := by kernel_rfl
theorem nodelaw_SameSync.B2_sound {R : Bool → World → Prop}  (a b : Option Addr) (t122 : Bool) (w : World) (h : nodelaw_SameSync.B2 a b t122 w   R) :
    KW Tryz.prog 95 170 (nodelaw_SameSync.RV R) ([(0, [1, 1, 0, 1]), (0, [1, 1, 1])].map (toItem (Tryz.f95.body.getD .skip))) [(0, .pointer a), (1, .pointer b), (122, .bool t122)] w := by
  exact block_spec Tryz.func95 Tryz.mixed (stops_cons (fun σ w h => by
      obtain ⟨a_, e0, h⟩ := dP_elim h
      obtain ⟨b_, e1, h⟩ := dP_elim h
      obtain ⟨p_, e2, h⟩ := dI_elim h
      exact (nodelaw_SameSync.L1_sound  a_ b_ p_ w h).weaken (Sub.cons (Sub.cons (Sub.cons (Sub.nil _) e2) e1) e0)) stops_nil) (Eq.mp (nodelaw_SameSync.B2_eq a b t122 w   R (fun a_ b_ p_ w => nodelaw_SameSync.L1 a_ b_ p_ w  R)) h)
def nodelaw_SameSync.B1 (a b : Option Addr) (t69 : Bool) (w : World)   (R : Bool → World → Prop) : Prop :=
  Bm t69 (
    R false w) (
    Pn a fun a_1 =>
    LdI .i64 (a_1.add 9) w.drew fun x73 =>
    Pn b fun a_2 =>
    LdI .i64 (a_2.add 9) w.drew fun x77 =>
    Bm (x73 != x77) (
      nodelaw_SameSync.B2 a b true w.drew  R) (
      Pn a fun a_3 =>
      LdI .i64 (a_3.add 10) w.drew fun x83 =>
      Pn b fun a_4 =>
      LdI .i64 (a_4.add 10) w.drew fun x87 =>
      Bm (x83 != x87) (
        nodelaw_SameSync.B2 a b true w.drew  R) (
        Pn a fun a_5 =>
        LdI .i64 (a_5.add 11) w.drew fun x94 =>
        Pn b fun a_6 =>
        LdI .i64 (a_6.add 11) w.drew fun x98 =>
        Bm (x94 != x98) (
          nodelaw_SameSync.B2 a b true w.drew  R) (
          Pn a fun a_7 =>
          LdI .i64 (a_7.add 12) w.drew fun x105 =>
          Pn b fun a_8 =>
          LdI .i64 (a_8.add 12) w.drew fun x109 =>
          Bm (x105 != x109) (
            nodelaw_SameSync.B2 a b true w.drew  R) (
            Pn a fun a_9 =>
            LdS (a_9.add 13) w.drew fun x116 =>
            Pn b fun a_10 =>
            LdS (a_10.add 13) w.drew fun x120 =>
            nodelaw_SameSync.B2 a b (!(x116.toList == x120.toList)) w.drew  R)))))
theorem nodelaw_SameSync.B1_eq (a b : Option Addr) (t69 : Bool) (w : World)   (R : Bool → World → Prop) (sB2 : Option Addr → Option Addr → Bool → World → Prop) :
    (
  Bm t69 (
    R false w) (
    Pn a fun a_1 =>
    LdI .i64 (a_1.add 9) w.drew fun x73 =>
    Pn b fun a_2 =>
    LdI .i64 (a_2.add 9) w.drew fun x77 =>
    Bm (x73 != x77) (
      sB2 a b true w.drew) (
      Pn a fun a_3 =>
      LdI .i64 (a_3.add 10) w.drew fun x83 =>
      Pn b fun a_4 =>
      LdI .i64 (a_4.add 10) w.drew fun x87 =>
      Bm (x83 != x87) (
        sB2 a b true w.drew) (
        Pn a fun a_5 =>
        LdI .i64 (a_5.add 11) w.drew fun x94 =>
        Pn b fun a_6 =>
        LdI .i64 (a_6.add 11) w.drew fun x98 =>
        Bm (x94 != x98) (
          sB2 a b true w.drew) (
          Pn a fun a_7 =>
          LdI .i64 (a_7.add 12) w.drew fun x105 =>
          Pn b fun a_8 =>
          LdI .i64 (a_8.add 12) w.drew fun x109 =>
          Bm (x105 != x109) (
            sB2 a b true w.drew) (
            Pn a fun a_9 =>
            LdS (a_9.add 13) w.drew fun x116 =>
            Pn b fun a_10 =>
            LdS (a_10.add 13) w.drew fun x120 =>
            sB2 a b (!(x116.toList == x120.toList)) w.drew)))))) = kstep Tryz.prog 170 Tryz.f95.results.toList (Tryz.f95.body.getD .skip) (nodelaw_SameSync.RV R) (kvc Tryz.prog 170 Tryz.f95.results.toList (Tryz.f95.body.getD .skip) (nodelaw_SameSync.RV R) [([(0, [1, 1, 0, 1]), (0, [1, 1, 1])], fun σ w => dP (slotOf σ 0) fun a_ => dP (slotOf σ 1) fun b_ => dB (slotOf σ 122) fun t122_ => sB2 a_ b_ t122_ w)] 2000) [(0, [1, 0, 1]), (0, [1, 1])] [(0, .pointer a), (1, .pointer b), (69, .bool t69)] w := by kernel_rfl
theorem nodelaw_SameSync.B1_sound {R : Bool → World → Prop}  (a b : Option Addr) (t69 : Bool) (w : World) (h : nodelaw_SameSync.B1 a b t69 w   R) :
    KW Tryz.prog 95 170 (nodelaw_SameSync.RV R) ([(0, [1, 0, 1]), (0, [1, 1])].map (toItem (Tryz.f95.body.getD .skip))) [(0, .pointer a), (1, .pointer b), (69, .bool t69)] w := by
  exact block_spec Tryz.func95 Tryz.mixed (stops_cons (fun σ w h => by
      obtain ⟨a_, e0, h⟩ := dP_elim h
      obtain ⟨b_, e1, h⟩ := dP_elim h
      obtain ⟨t122_, e2, h⟩ := dB_elim h
      exact (nodelaw_SameSync.B2_sound  a_ b_ t122_ w h).weaken (Sub.cons (Sub.cons (Sub.cons (Sub.nil _) e2) e1) e0)) stops_nil) (Eq.mp (nodelaw_SameSync.B1_eq a b t69 w   R (fun a_ b_ t122_ w => nodelaw_SameSync.B2 a_ b_ t122_ w  R)) h)
def nodelaw_SameSync.B0 (a b : Option Addr) (w : World)   (R : Bool → World → Prop) : Prop :=
  Pn a fun a_1 =>
  LdI .i64 a_1 w.drew fun x9 =>
  Pn b fun a_2 =>
  LdI .i64 a_2 w.drew fun x13 =>
  Bm (x9 != x13) (
    nodelaw_SameSync.B1 a b true w.drew  R) (
    Pn a fun a_3 =>
    LdI .i64 (a_3.add 1) w.drew fun x19 =>
    Pn b fun a_4 =>
    LdI .i64 (a_4.add 1) w.drew fun x23 =>
    Bm (x19 != x23) (
      nodelaw_SameSync.B1 a b true w.drew  R) (
      Pn a fun a_5 =>
      LdI .i64 (a_5.add 2) w.drew fun x30 =>
      Pn b fun a_6 =>
      LdI .i64 (a_6.add 2) w.drew fun x34 =>
      Bm (x30 != x34) (
        nodelaw_SameSync.B1 a b true w.drew  R) (
        Pn a fun a_7 =>
        LdI .i64 (a_7.add 3) w.drew fun x41 =>
        Pn b fun a_8 =>
        LdI .i64 (a_8.add 3) w.drew fun x45 =>
        Bm (x41 != x45) (
          nodelaw_SameSync.B1 a b true w.drew  R) (
          Pn a fun a_9 =>
          LdI .i64 (a_9.add 4) w.drew fun x52 =>
          Pn b fun a_10 =>
          LdI .i64 (a_10.add 4) w.drew fun x56 =>
          Bm (x52 != x56) (
            nodelaw_SameSync.B1 a b true w.drew  R) (
            Pn a fun a_11 =>
            LdI .i64 (a_11.add 5) w.drew fun x63 =>
            Pn b fun a_12 =>
            LdI .i64 (a_12.add 5) w.drew fun x67 =>
            nodelaw_SameSync.B1 a b (x63 != x67) w.drew  R)))))
theorem nodelaw_SameSync.B0_eq (a b : Option Addr) (w : World)   (R : Bool → World → Prop) (sB1 : Option Addr → Option Addr → Bool → World → Prop) :
    (
  Pn a fun a_1 =>
  LdI .i64 a_1 w.drew fun x9 =>
  Pn b fun a_2 =>
  LdI .i64 a_2 w.drew fun x13 =>
  Bm (x9 != x13) (
    sB1 a b true w.drew) (
    Pn a fun a_3 =>
    LdI .i64 (a_3.add 1) w.drew fun x19 =>
    Pn b fun a_4 =>
    LdI .i64 (a_4.add 1) w.drew fun x23 =>
    Bm (x19 != x23) (
      sB1 a b true w.drew) (
      Pn a fun a_5 =>
      LdI .i64 (a_5.add 2) w.drew fun x30 =>
      Pn b fun a_6 =>
      LdI .i64 (a_6.add 2) w.drew fun x34 =>
      Bm (x30 != x34) (
        sB1 a b true w.drew) (
        Pn a fun a_7 =>
        LdI .i64 (a_7.add 3) w.drew fun x41 =>
        Pn b fun a_8 =>
        LdI .i64 (a_8.add 3) w.drew fun x45 =>
        Bm (x41 != x45) (
          sB1 a b true w.drew) (
          Pn a fun a_9 =>
          LdI .i64 (a_9.add 4) w.drew fun x52 =>
          Pn b fun a_10 =>
          LdI .i64 (a_10.add 4) w.drew fun x56 =>
          Bm (x52 != x56) (
            sB1 a b true w.drew) (
            Pn a fun a_11 =>
            LdI .i64 (a_11.add 5) w.drew fun x63 =>
            Pn b fun a_12 =>
            LdI .i64 (a_12.add 5) w.drew fun x67 =>
            sB1 a b (x63 != x67) w.drew)))))) = kstep Tryz.prog 170 Tryz.f95.results.toList (Tryz.f95.body.getD .skip) (nodelaw_SameSync.RV R) (kvc Tryz.prog 170 Tryz.f95.results.toList (Tryz.f95.body.getD .skip) (nodelaw_SameSync.RV R) [([(0, [1, 0, 1]), (0, [1, 1])], fun σ w => dP (slotOf σ 0) fun a_ => dP (slotOf σ 1) fun b_ => dB (slotOf σ 69) fun t69_ => sB1 a_ b_ t69_ w)] 2000) [(0, [])] [(0, .pointer a), (1, .pointer b)] w := by kernel_rfl
theorem nodelaw_SameSync.B0_sound {R : Bool → World → Prop}  (a b : Option Addr) (w : World) (h : nodelaw_SameSync.B0 a b w   R) :
    KW Tryz.prog 95 170 (nodelaw_SameSync.RV R) ([(0, [])].map (toItem (Tryz.f95.body.getD .skip))) [(0, .pointer a), (1, .pointer b)] w := by
  exact block_spec Tryz.func95 Tryz.mixed (stops_cons (fun σ w h => by
      obtain ⟨a_, e0, h⟩ := dP_elim h
      obtain ⟨b_, e1, h⟩ := dP_elim h
      obtain ⟨t69_, e2, h⟩ := dB_elim h
      exact (nodelaw_SameSync.B1_sound  a_ b_ t69_ w h).weaken (Sub.cons (Sub.cons (Sub.cons (Sub.nil _) e2) e1) e0)) stops_nil) (Eq.mp (nodelaw_SameSync.B0_eq a b w   R (fun a_ b_ t69_ w => nodelaw_SameSync.B1 a_ b_ t69_ w  R)) h)
theorem nodelaw_SameSync.sound (a b : Option Addr) (w : World) (R : Bool → World → Prop) (h : nodelaw_SameSync.B0 a b w R) : nodelaw_SameSync.Call a b w R := by
  have hc := calls_of_block (args := #[.pointer a, .pointer b]) Tryz.func95 (body := (Tryz.f95.body.getD .skip)) (by kernel_rfl) (by kernel_rfl) (args_slot _) (nodelaw_SameSync.B0_sound a b w h)
  exact hc.mono fun e w' he => by
    obtain ⟨v, rfl, hv⟩ := he
    exact nodelaw_SameSync.RV_elim hv
def node_Node_Len.B0 (n : Option Addr) (w : World)   (R : Int → World → Prop) : Prop :=
  Pn n fun a =>
  LdP (a.add 1) w fun x6 =>
  kv_KV_Len.Call x6 w fun r7 w1 =>
  R r7 w1
theorem node_Node_Len.B0_eq (n : Option Addr) (w : World)   (R : Int → World → Prop)  :
    (
  Pn n fun a =>
  LdP (a.add 1) w fun x6 =>
  kv_KV_Len.Call x6 w fun r7 w1 =>
  R r7 w1) = kstep Tryz.prog 8 Tryz.f96.results.toList (Tryz.f96.body.getD .skip) (node_Node_Len.RV R) (kvc Tryz.prog 8 Tryz.f96.results.toList (Tryz.f96.body.getD .skip) (node_Node_Len.RV R) [] 2000) [(0, [])] [(0, .pointer n)] w := by kernel_rfl
theorem node_Node_Len.B0_sound {R : Int → World → Prop}  (n : Option Addr) (w : World) (h : node_Node_Len.B0 n w   R) :
    KW Tryz.prog 96 8 (node_Node_Len.RV R) ([(0, [])].map (toItem (Tryz.f96.body.getD .skip))) [(0, .pointer n)] w := by
  exact block_spec Tryz.func96 Tryz.mixed stops_nil (Eq.mp (node_Node_Len.B0_eq n w   R ) h)
theorem node_Node_Len.sound (n : Option Addr) (w : World) (R : Int → World → Prop) (h : node_Node_Len.B0 n w R) : node_Node_Len.Call n w R := by
  have hc := calls_of_block (args := #[.pointer n]) Tryz.func96 (body := (Tryz.f96.body.getD .skip)) (by kernel_rfl) (by kernel_rfl) (args_slot _) (node_Node_Len.B0_sound n w h)
  exact hc.mono fun e w' he => by
    obtain ⟨v, rfl, hv⟩ := he
    exact node_Node_Len.RV_elim hv
def nodem_Node_Len.B0 (n : Option Addr) (w : World)   (R : Int → World → Prop) : Prop :=
  Pn n fun a =>
  LdP (a.add 1) w fun x6 =>
  kvm_KV_Len.Call x6 w fun r7 w1 =>
  R r7 w1
theorem nodem_Node_Len.B0_eq (n : Option Addr) (w : World)   (R : Int → World → Prop)  :
    (
  Pn n fun a =>
  LdP (a.add 1) w fun x6 =>
  kvm_KV_Len.Call x6 w fun r7 w1 =>
  R r7 w1) = kstep Tryz.prog 8 Tryz.f97.results.toList (Tryz.f97.body.getD .skip) (nodem_Node_Len.RV R) (kvc Tryz.prog 8 Tryz.f97.results.toList (Tryz.f97.body.getD .skip) (nodem_Node_Len.RV R) [] 2000) [(0, [])] [(0, .pointer n)] w := by kernel_rfl
theorem nodem_Node_Len.B0_sound {R : Int → World → Prop}  (n : Option Addr) (w : World) (h : nodem_Node_Len.B0 n w   R) :
    KW Tryz.prog 97 8 (nodem_Node_Len.RV R) ([(0, [])].map (toItem (Tryz.f97.body.getD .skip))) [(0, .pointer n)] w := by
  exact block_spec Tryz.func97 Tryz.mixed stops_nil (Eq.mp (nodem_Node_Len.B0_eq n w   R ) h)
theorem nodem_Node_Len.sound (n : Option Addr) (w : World) (R : Int → World → Prop) (h : nodem_Node_Len.B0 n w R) : nodem_Node_Len.Call n w R := by
  have hc := calls_of_block (args := #[.pointer n]) Tryz.func97 (body := (Tryz.f97.body.getD .skip)) (by kernel_rfl) (by kernel_rfl) (args_slot _) (nodem_Node_Len.B0_sound n w h)
  exact hc.mono fun e w' he => by
    obtain ⟨v, rfl, hv⟩ := he
    exact nodem_Node_Len.RV_elim hv
def node_Node_KeyAt.B0 (n : Option Addr) (i : Int) (w : World)   (R : ByteArray → World → Prop) : Prop :=
  Pn n fun a =>
  LdP (a.add 1) w fun x8 =>
  kv_KV_KeyAt.Call x8 i w fun r10 w1 =>
  R r10 w1
theorem node_Node_KeyAt.B0_eq (n : Option Addr) (i : Int) (w : World)   (R : ByteArray → World → Prop)  :
    (
  Pn n fun a =>
  LdP (a.add 1) w fun x8 =>
  kv_KV_KeyAt.Call x8 i w fun r10 w1 =>
  R r10 w1) = kstep Tryz.prog 11 Tryz.f98.results.toList (Tryz.f98.body.getD .skip) (node_Node_KeyAt.RV R) (kvc Tryz.prog 11 Tryz.f98.results.toList (Tryz.f98.body.getD .skip) (node_Node_KeyAt.RV R) [] 2000) [(0, [])] [(0, .pointer n), (1, .int .i64 i)] w := by kernel_rfl
theorem node_Node_KeyAt.B0_sound {R : ByteArray → World → Prop}  (n : Option Addr) (i : Int) (w : World) (h : node_Node_KeyAt.B0 n i w   R) :
    KW Tryz.prog 98 11 (node_Node_KeyAt.RV R) ([(0, [])].map (toItem (Tryz.f98.body.getD .skip))) [(0, .pointer n), (1, .int .i64 i)] w := by
  exact block_spec Tryz.func98 Tryz.mixed stops_nil (Eq.mp (node_Node_KeyAt.B0_eq n i w   R ) h)
theorem node_Node_KeyAt.sound (n : Option Addr) (i : Int) (w : World) (R : ByteArray → World → Prop) (h : node_Node_KeyAt.B0 n i w R) : node_Node_KeyAt.Call n i w R := by
  have hc := calls_of_block (args := #[.pointer n, .int .i64 i]) Tryz.func98 (body := (Tryz.f98.body.getD .skip)) (by kernel_rfl) (by kernel_rfl) (args_slot _) (node_Node_KeyAt.B0_sound n i w h)
  exact hc.mono fun e w' he => by
    obtain ⟨v, rfl, hv⟩ := he
    exact node_Node_KeyAt.RV_elim hv
def nodem_Node_KeyAt.B0 (n : Option Addr) (i : Int) (w : World)   (R : ByteArray → World → Prop) : Prop :=
  Pn n fun a =>
  LdP (a.add 1) w fun x8 =>
  kvm_KV_KeyAt.Call x8 i w fun r10 w1 =>
  R r10 w1
theorem nodem_Node_KeyAt.B0_eq (n : Option Addr) (i : Int) (w : World)   (R : ByteArray → World → Prop)  :
    (
  Pn n fun a =>
  LdP (a.add 1) w fun x8 =>
  kvm_KV_KeyAt.Call x8 i w fun r10 w1 =>
  R r10 w1) = kstep Tryz.prog 11 Tryz.f99.results.toList (Tryz.f99.body.getD .skip) (nodem_Node_KeyAt.RV R) (kvc Tryz.prog 11 Tryz.f99.results.toList (Tryz.f99.body.getD .skip) (nodem_Node_KeyAt.RV R) [] 2000) [(0, [])] [(0, .pointer n), (1, .int .i64 i)] w := by kernel_rfl
theorem nodem_Node_KeyAt.B0_sound {R : ByteArray → World → Prop}  (n : Option Addr) (i : Int) (w : World) (h : nodem_Node_KeyAt.B0 n i w   R) :
    KW Tryz.prog 99 11 (nodem_Node_KeyAt.RV R) ([(0, [])].map (toItem (Tryz.f99.body.getD .skip))) [(0, .pointer n), (1, .int .i64 i)] w := by
  exact block_spec Tryz.func99 Tryz.mixed stops_nil (Eq.mp (nodem_Node_KeyAt.B0_eq n i w   R ) h)
theorem nodem_Node_KeyAt.sound (n : Option Addr) (i : Int) (w : World) (R : ByteArray → World → Prop) (h : nodem_Node_KeyAt.B0 n i w R) : nodem_Node_KeyAt.Call n i w R := by
  have hc := calls_of_block (args := #[.pointer n, .int .i64 i]) Tryz.func99 (body := (Tryz.f99.body.getD .skip)) (by kernel_rfl) (by kernel_rfl) (args_slot _) (nodem_Node_KeyAt.B0_sound n i w h)
  exact hc.mono fun e w' he => by
    obtain ⟨v, rfl, hv⟩ := he
    exact nodem_Node_KeyAt.RV_elim hv
def node_Node_Sess.B0 (n : Option Addr) (client : Int) (w : World)   (R : Int → Int → ByteArray → World → Prop) : Prop :=
  New (.cells #[.int .i64 (0 : Int), .string (ByteArray.mk #[])] 93) w fun b5 w1 =>
  Pn n fun a =>
  LdP (a.add 1) w1 fun x9 =>
  kv_KV_Sess.Call x9 client w1 fun r11_0 r11_1_0 r11_1_1 w2 =>
  Sts [.int .i64 r11_1_0, .string r11_1_1] ⟨b5, 0, none⟩ 0 w2 fun w3 =>
  LdI .i64 ⟨b5, 0, none⟩ w3 fun r_0 =>
  LdS ⟨b5, 1, none⟩ w3 fun r_1 =>
  R r11_0 r_0 r_1 w3
theorem node_Node_Sess.B0_eq (n : Option Addr) (client : Int) (w : World)   (R : Int → Int → ByteArray → World → Prop)  :
    (
  New (.cells #[.int .i64 (0 : Int), .string (ByteArray.mk #[])] 93) w fun b5 w1 =>
  Pn n fun a =>
  LdP (a.add 1) w1 fun x9 =>
  kv_KV_Sess.Call x9 client w1 fun r11_0 r11_1_0 r11_1_1 w2 =>
  Sts [.int .i64 r11_1_0, .string r11_1_1] ⟨b5, 0, none⟩ 0 w2 fun w3 =>
  LdI .i64 ⟨b5, 0, none⟩ w3 fun r_0 =>
  LdS ⟨b5, 1, none⟩ w3 fun r_1 =>
  R r11_0 r_0 r_1 w3) = kstep Tryz.prog 14 Tryz.f100.results.toList (Tryz.f100.body.getD .skip) (node_Node_Sess.RV R) (kvc Tryz.prog 14 Tryz.f100.results.toList (Tryz.f100.body.getD .skip) (node_Node_Sess.RV R) [] 2000) [(0, [])] [(0, .pointer n), (1, .int .i64 client)] w := by kernel_rfl
theorem node_Node_Sess.B0_sound {R : Int → Int → ByteArray → World → Prop}  (n : Option Addr) (client : Int) (w : World) (h : node_Node_Sess.B0 n client w   R) :
    KW Tryz.prog 100 14 (node_Node_Sess.RV R) ([(0, [])].map (toItem (Tryz.f100.body.getD .skip))) [(0, .pointer n), (1, .int .i64 client)] w := by
  exact block_spec Tryz.func100 Tryz.mixed stops_nil (Eq.mp (node_Node_Sess.B0_eq n client w   R ) h)
theorem node_Node_Sess.sound (n : Option Addr) (client : Int) (w : World) (R : Int → Int → ByteArray → World → Prop) (h : node_Node_Sess.B0 n client w R) : node_Node_Sess.Call n client w R := by
  have hc := calls_of_block (args := #[.pointer n, .int .i64 client]) Tryz.func100 (body := (Tryz.f100.body.getD .skip)) (by kernel_rfl) (by kernel_rfl) (args_slot _) (node_Node_Sess.B0_sound n client w h)
  exact hc.mono fun e w' he => by
    obtain ⟨v, rfl, hv⟩ := he
    exact node_Node_Sess.RV_elim hv
def nodem_Node_Sess.B0 (n : Option Addr) (c : Int) (w : World)   (R : Int → Int → ByteArray → World → Prop) : Prop :=
  New (.cells #[.int .i64 (0 : Int), .string (ByteArray.mk #[])] 93) w fun b5 w1 =>
  Pn n fun a =>
  LdP (a.add 1) w1 fun x9 =>
  kvm_KV_Sess.Call x9 c w1 fun r11_0 r11_1_0 r11_1_1 w2 =>
  Sts [.int .i64 r11_1_0, .string r11_1_1] ⟨b5, 0, none⟩ 0 w2 fun w3 =>
  LdI .i64 ⟨b5, 0, none⟩ w3 fun r_0 =>
  LdS ⟨b5, 1, none⟩ w3 fun r_1 =>
  R r11_0 r_0 r_1 w3
theorem nodem_Node_Sess.B0_eq (n : Option Addr) (c : Int) (w : World)   (R : Int → Int → ByteArray → World → Prop)  :
    (
  New (.cells #[.int .i64 (0 : Int), .string (ByteArray.mk #[])] 93) w fun b5 w1 =>
  Pn n fun a =>
  LdP (a.add 1) w1 fun x9 =>
  kvm_KV_Sess.Call x9 c w1 fun r11_0 r11_1_0 r11_1_1 w2 =>
  Sts [.int .i64 r11_1_0, .string r11_1_1] ⟨b5, 0, none⟩ 0 w2 fun w3 =>
  LdI .i64 ⟨b5, 0, none⟩ w3 fun r_0 =>
  LdS ⟨b5, 1, none⟩ w3 fun r_1 =>
  R r11_0 r_0 r_1 w3) = kstep Tryz.prog 14 Tryz.f101.results.toList (Tryz.f101.body.getD .skip) (nodem_Node_Sess.RV R) (kvc Tryz.prog 14 Tryz.f101.results.toList (Tryz.f101.body.getD .skip) (nodem_Node_Sess.RV R) [] 2000) [(0, [])] [(0, .pointer n), (1, .int .i64 c)] w := by kernel_rfl
theorem nodem_Node_Sess.B0_sound {R : Int → Int → ByteArray → World → Prop}  (n : Option Addr) (c : Int) (w : World) (h : nodem_Node_Sess.B0 n c w   R) :
    KW Tryz.prog 101 14 (nodem_Node_Sess.RV R) ([(0, [])].map (toItem (Tryz.f101.body.getD .skip))) [(0, .pointer n), (1, .int .i64 c)] w := by
  exact block_spec Tryz.func101 Tryz.mixed stops_nil (Eq.mp (nodem_Node_Sess.B0_eq n c w   R ) h)
theorem nodem_Node_Sess.sound (n : Option Addr) (c : Int) (w : World) (R : Int → Int → ByteArray → World → Prop) (h : nodem_Node_Sess.B0 n c w R) : nodem_Node_Sess.Call n c w R := by
  have hc := calls_of_block (args := #[.pointer n, .int .i64 c]) Tryz.func101 (body := (Tryz.f101.body.getD .skip)) (by kernel_rfl) (by kernel_rfl) (args_slot _) (nodem_Node_Sess.B0_sound n c w h)
  exact hc.mono fun e w' he => by
    obtain ⟨v, rfl, hv⟩ := he
    exact nodem_Node_Sess.RV_elim hv
def node_Encode.B0 (m0_0 m0_1 m0_2 m0_3 m0_4 m0_5 m0_6 : Int) (m0_7 : Bool) (m0_8_b : Option Addr) (m0_8_l m0_8_c : Nat) (m0_9 : ByteArray) (w : World)   (R : ByteArray → World → Prop) : Prop :=
  New (.cells #[.int .i64 m0_0, .int .i64 m0_1, .int .i64 m0_2, .int .i64 m0_3, .int .i64 m0_4, .int .i64 m0_5, .int .i64 m0_6, .bool m0_7, .slice m0_8_b m0_8_l m0_8_c, .string m0_9] 101) w fun m0_ w1 =>
  New (.cells #[.int .u8 (0 : Int), .int .u8 (0 : Int), .int .u8 (0 : Int), .int .u8 (0 : Int), .int .u8 (0 : Int), .int .u8 (0 : Int), .int .u8 (0 : Int), .int .u8 (0 : Int), .int .u8 (0 : Int), .int .u8 (0 : Int), .int .u8 (0 : Int), .int .u8 (0 : Int), .int .u8 (0 : Int), .int .u8 (0 : Int), .int .u8 (0 : Int), .int .u8 (0 : Int), .int .u8 (0 : Int), .int .u8 (0 : Int), .int .u8 (0 : Int), .int .u8 (0 : Int), .int .u8 (0 : Int), .int .u8 (0 : Int), .int .u8 (0 : Int), .int .u8 (0 : Int), .int .u8 (0 : Int), .int .u8 (0 : Int), .int .u8 (0 : Int), .int .u8 (0 : Int), .int .u8 (0 : Int), .int .u8 (0 : Int), .int .u8 (0 : Int), .int .u8 (0 : Int), .int .u8 (0 : Int), .int .u8 (0 : Int), .int .u8 (0 : Int), .int .u8 (0 : Int), .int .u8 (0 : Int), .int .u8 (0 : Int), .int .u8 (0 : Int), .int .u8 (0 : Int), .int .u8 (0 : Int), .int .u8 (0 : Int), .int .u8 (0 : Int), .int .u8 (0 : Int), .int .u8 (0 : Int), .int .u8 (0 : Int), .int .u8 (0 : Int), .int .u8 (0 : Int), .int .u8 (0 : Int), .int .u8 (0 : Int), .int .u8 (0 : Int), .int .u8 (0 : Int), .int .u8 (0 : Int), .int .u8 (0 : Int), .int .u8 (0 : Int), .int .u8 (0 : Int), .int .u8 (0 : Int), .int .u8 (0 : Int), .int .u8 (0 : Int), .int .u8 (0 : Int), .int .u8 (0 : Int), .int .u8 (0 : Int), .int .u8 (0 : Int), .int .u8 (0 : Int), .int .u8 (0 : Int), .int .u8 (0 : Int), .int .u8 (0 : Int), .int .u8 (0 : Int), .int .u8 (0 : Int), .int .u8 (0 : Int), .int .u8 (0 : Int), .int .u8 (0 : Int), .int .u8 (0 : Int), .int .u8 (0 : Int), .int .u8 (0 : Int), .int .u8 (0 : Int), .int .u8 (0 : Int), .int .u8 (0 : Int), .int .u8 (0 : Int), .int .u8 (0 : Int), .int .u8 (0 : Int), .int .u8 (0 : Int), .int .u8 (0 : Int), .int .u8 (0 : Int), .int .u8 (0 : Int), .int .u8 (0 : Int), .int .u8 (0 : Int), .int .u8 (0 : Int), .int .u8 (0 : Int), .int .u8 (0 : Int), .int .u8 (0 : Int), .int .u8 (0 : Int), .int .u8 (0 : Int), .int .u8 (0 : Int), .int .u8 (0 : Int), .int .u8 (0 : Int), .int .u8 (0 : Int), .int .u8 (0 : Int), .int .u8 (0 : Int), .int .u8 (0 : Int), .int .u8 (0 : Int), .int .u8 (0 : Int), .int .u8 (0 : Int), .int .u8 (0 : Int), .int .u8 (0 : Int), .int .u8 (0 : Int), .int .u8 (0 : Int), .int .u8 (0 : Int), .int .u8 (0 : Int), .int .u8 (0 : Int), .int .u8 (0 : Int), .int .u8 (0 : Int), .int .u8 (0 : Int), .int .u8 (0 : Int), .int .u8 (0 : Int), .int .u8 (0 : Int), .int .u8 (0 : Int), .int .u8 (0 : Int), .int .u8 (0 : Int), .int .u8 (0 : Int), .int .u8 (0 : Int), .int .u8 (0 : Int), .int .u8 (0 : Int), .int .u8 (0 : Int), .int .u8 (0 : Int), .int .u8 (0 : Int), .int .u8 (0 : Int), .int .u8 (0 : Int), .int .u8 (0 : Int), .int .u8 (0 : Int), .int .u8 (0 : Int), .int .u8 (0 : Int), .int .u8 (0 : Int), .int .u8 (0 : Int), .int .u8 (0 : Int), .int .u8 (0 : Int), .int .u8 (0 : Int), .int .u8 (0 : Int), .int .u8 (0 : Int), .int .u8 (0 : Int), .int .u8 (0 : Int), .int .u8 (0 : Int), .int .u8 (0 : Int), .int .u8 (0 : Int), .int .u8 (0 : Int), .int .u8 (0 : Int), .int .u8 (0 : Int), .int .u8 (0 : Int), .int .u8 (0 : Int), .int .u8 (0 : Int), .int .u8 (0 : Int), .int .u8 (0 : Int), .int .u8 (0 : Int), .int .u8 (0 : Int), .int .u8 (0 : Int), .int .u8 (0 : Int), .int .u8 (0 : Int), .int .u8 (0 : Int), .int .u8 (0 : Int), .int .u8 (0 : Int), .int .u8 (0 : Int), .int .u8 (0 : Int), .int .u8 (0 : Int), .int .u8 (0 : Int), .int .u8 (0 : Int), .int .u8 (0 : Int), .int .u8 (0 : Int), .int .u8 (0 : Int), .int .u8 (0 : Int), .int .u8 (0 : Int), .int .u8 (0 : Int), .int .u8 (0 : Int), .int .u8 (0 : Int), .int .u8 (0 : Int), .int .u8 (0 : Int), .int .u8 (0 : Int), .int .u8 (0 : Int), .int .u8 (0 : Int), .int .u8 (0 : Int), .int .u8 (0 : Int), .int .u8 (0 : Int), .int .u8 (0 : Int), .int .u8 (0 : Int), .int .u8 (0 : Int), .int .u8 (0 : Int), .int .u8 (0 : Int), .int .u8 (0 : Int), .int .u8 (0 : Int), .int .u8 (0 : Int), .int .u8 (0 : Int), .int .u8 (0 : Int), .int .u8 (0 : Int), .int .u8 (0 : Int), .int .u8 (0 : Int), .int .u8 (0 : Int), .int .u8 (0 : Int), .int .u8 (0 : Int), .int .u8 (0 : Int), .int .u8 (0 : Int), .int .u8 (0 : Int), .int .u8 (0 : Int), .int .u8 (0 : Int), .int .u8 (0 : Int), .int .u8 (0 : Int), .int .u8 (0 : Int), .int .u8 (0 : Int), .int .u8 (0 : Int), .int .u8 (0 : Int), .int .u8 (0 : Int), .int .u8 (0 : Int), .int .u8 (0 : Int), .int .u8 (0 : Int), .int .u8 (0 : Int), .int .u8 (0 : Int), .int .u8 (0 : Int), .int .u8 (0 : Int), .int .u8 (0 : Int), .int .u8 (0 : Int), .int .u8 (0 : Int), .int .u8 (0 : Int), .int .u8 (0 : Int), .int .u8 (0 : Int), .int .u8 (0 : Int), .int .u8 (0 : Int), .int .u8 (0 : Int), .int .u8 (0 : Int), .int .u8 (0 : Int), .int .u8 (0 : Int), .int .u8 (0 : Int), .int .u8 (0 : Int), .int .u8 (0 : Int), .int .u8 (0 : Int), .int .u8 (0 : Int), .int .u8 (0 : Int), .int .i64 (0 : Int), .int .i64 (0 : Int)] 112) w1 fun b5 w2 =>
  LdI .i64 ⟨m0_, 0, none⟩ w2 fun x7_0 =>
  LdI .i64 ⟨m0_, 1, none⟩ w2 fun x7_1 =>
  LdI .i64 ⟨m0_, 2, none⟩ w2 fun x7_2 =>
  LdI .i64 ⟨m0_, 3, none⟩ w2 fun x7_3 =>
  LdI .i64 ⟨m0_, 4, none⟩ w2 fun x7_4 =>
  LdI .i64 ⟨m0_, 5, none⟩ w2 fun x7_5 =>
  LdI .i64 ⟨m0_, 6, none⟩ w2 fun x7_6 =>
  LdB ⟨m0_, 7, none⟩ w2 fun x7_7 =>
  LdL ⟨m0_, 8, none⟩ w2 fun x7_8_b x7_8_l x7_8_c =>
  LdS ⟨m0_, 9, none⟩ w2 fun x7_9 =>
  node_enc_encode.Call (some ⟨b5, 0, none⟩) x7_0 x7_1 x7_2 x7_3 x7_4 x7_5 x7_6 x7_7 x7_8_b x7_8_l x7_8_c x7_9 w2 fun r8 w3 =>
  R r8 w3
theorem node_Encode.B0_eq (m0_0 m0_1 m0_2 m0_3 m0_4 m0_5 m0_6 : Int) (m0_7 : Bool) (m0_8_b : Option Addr) (m0_8_l m0_8_c : Nat) (m0_9 : ByteArray) (w : World)   (R : ByteArray → World → Prop)  :
    (
  New (.cells #[.int .i64 m0_0, .int .i64 m0_1, .int .i64 m0_2, .int .i64 m0_3, .int .i64 m0_4, .int .i64 m0_5, .int .i64 m0_6, .bool m0_7, .slice m0_8_b m0_8_l m0_8_c, .string m0_9] 101) w fun m0_ w1 =>
  New (.cells #[.int .u8 (0 : Int), .int .u8 (0 : Int), .int .u8 (0 : Int), .int .u8 (0 : Int), .int .u8 (0 : Int), .int .u8 (0 : Int), .int .u8 (0 : Int), .int .u8 (0 : Int), .int .u8 (0 : Int), .int .u8 (0 : Int), .int .u8 (0 : Int), .int .u8 (0 : Int), .int .u8 (0 : Int), .int .u8 (0 : Int), .int .u8 (0 : Int), .int .u8 (0 : Int), .int .u8 (0 : Int), .int .u8 (0 : Int), .int .u8 (0 : Int), .int .u8 (0 : Int), .int .u8 (0 : Int), .int .u8 (0 : Int), .int .u8 (0 : Int), .int .u8 (0 : Int), .int .u8 (0 : Int), .int .u8 (0 : Int), .int .u8 (0 : Int), .int .u8 (0 : Int), .int .u8 (0 : Int), .int .u8 (0 : Int), .int .u8 (0 : Int), .int .u8 (0 : Int), .int .u8 (0 : Int), .int .u8 (0 : Int), .int .u8 (0 : Int), .int .u8 (0 : Int), .int .u8 (0 : Int), .int .u8 (0 : Int), .int .u8 (0 : Int), .int .u8 (0 : Int), .int .u8 (0 : Int), .int .u8 (0 : Int), .int .u8 (0 : Int), .int .u8 (0 : Int), .int .u8 (0 : Int), .int .u8 (0 : Int), .int .u8 (0 : Int), .int .u8 (0 : Int), .int .u8 (0 : Int), .int .u8 (0 : Int), .int .u8 (0 : Int), .int .u8 (0 : Int), .int .u8 (0 : Int), .int .u8 (0 : Int), .int .u8 (0 : Int), .int .u8 (0 : Int), .int .u8 (0 : Int), .int .u8 (0 : Int), .int .u8 (0 : Int), .int .u8 (0 : Int), .int .u8 (0 : Int), .int .u8 (0 : Int), .int .u8 (0 : Int), .int .u8 (0 : Int), .int .u8 (0 : Int), .int .u8 (0 : Int), .int .u8 (0 : Int), .int .u8 (0 : Int), .int .u8 (0 : Int), .int .u8 (0 : Int), .int .u8 (0 : Int), .int .u8 (0 : Int), .int .u8 (0 : Int), .int .u8 (0 : Int), .int .u8 (0 : Int), .int .u8 (0 : Int), .int .u8 (0 : Int), .int .u8 (0 : Int), .int .u8 (0 : Int), .int .u8 (0 : Int), .int .u8 (0 : Int), .int .u8 (0 : Int), .int .u8 (0 : Int), .int .u8 (0 : Int), .int .u8 (0 : Int), .int .u8 (0 : Int), .int .u8 (0 : Int), .int .u8 (0 : Int), .int .u8 (0 : Int), .int .u8 (0 : Int), .int .u8 (0 : Int), .int .u8 (0 : Int), .int .u8 (0 : Int), .int .u8 (0 : Int), .int .u8 (0 : Int), .int .u8 (0 : Int), .int .u8 (0 : Int), .int .u8 (0 : Int), .int .u8 (0 : Int), .int .u8 (0 : Int), .int .u8 (0 : Int), .int .u8 (0 : Int), .int .u8 (0 : Int), .int .u8 (0 : Int), .int .u8 (0 : Int), .int .u8 (0 : Int), .int .u8 (0 : Int), .int .u8 (0 : Int), .int .u8 (0 : Int), .int .u8 (0 : Int), .int .u8 (0 : Int), .int .u8 (0 : Int), .int .u8 (0 : Int), .int .u8 (0 : Int), .int .u8 (0 : Int), .int .u8 (0 : Int), .int .u8 (0 : Int), .int .u8 (0 : Int), .int .u8 (0 : Int), .int .u8 (0 : Int), .int .u8 (0 : Int), .int .u8 (0 : Int), .int .u8 (0 : Int), .int .u8 (0 : Int), .int .u8 (0 : Int), .int .u8 (0 : Int), .int .u8 (0 : Int), .int .u8 (0 : Int), .int .u8 (0 : Int), .int .u8 (0 : Int), .int .u8 (0 : Int), .int .u8 (0 : Int), .int .u8 (0 : Int), .int .u8 (0 : Int), .int .u8 (0 : Int), .int .u8 (0 : Int), .int .u8 (0 : Int), .int .u8 (0 : Int), .int .u8 (0 : Int), .int .u8 (0 : Int), .int .u8 (0 : Int), .int .u8 (0 : Int), .int .u8 (0 : Int), .int .u8 (0 : Int), .int .u8 (0 : Int), .int .u8 (0 : Int), .int .u8 (0 : Int), .int .u8 (0 : Int), .int .u8 (0 : Int), .int .u8 (0 : Int), .int .u8 (0 : Int), .int .u8 (0 : Int), .int .u8 (0 : Int), .int .u8 (0 : Int), .int .u8 (0 : Int), .int .u8 (0 : Int), .int .u8 (0 : Int), .int .u8 (0 : Int), .int .u8 (0 : Int), .int .u8 (0 : Int), .int .u8 (0 : Int), .int .u8 (0 : Int), .int .u8 (0 : Int), .int .u8 (0 : Int), .int .u8 (0 : Int), .int .u8 (0 : Int), .int .u8 (0 : Int), .int .u8 (0 : Int), .int .u8 (0 : Int), .int .u8 (0 : Int), .int .u8 (0 : Int), .int .u8 (0 : Int), .int .u8 (0 : Int), .int .u8 (0 : Int), .int .u8 (0 : Int), .int .u8 (0 : Int), .int .u8 (0 : Int), .int .u8 (0 : Int), .int .u8 (0 : Int), .int .u8 (0 : Int), .int .u8 (0 : Int), .int .u8 (0 : Int), .int .u8 (0 : Int), .int .u8 (0 : Int), .int .u8 (0 : Int), .int .u8 (0 : Int), .int .u8 (0 : Int), .int .u8 (0 : Int), .int .u8 (0 : Int), .int .u8 (0 : Int), .int .u8 (0 : Int), .int .u8 (0 : Int), .int .u8 (0 : Int), .int .u8 (0 : Int), .int .u8 (0 : Int), .int .u8 (0 : Int), .int .u8 (0 : Int), .int .u8 (0 : Int), .int .u8 (0 : Int), .int .u8 (0 : Int), .int .u8 (0 : Int), .int .u8 (0 : Int), .int .u8 (0 : Int), .int .u8 (0 : Int), .int .u8 (0 : Int), .int .u8 (0 : Int), .int .u8 (0 : Int), .int .u8 (0 : Int), .int .u8 (0 : Int), .int .u8 (0 : Int), .int .u8 (0 : Int), .int .u8 (0 : Int), .int .u8 (0 : Int), .int .u8 (0 : Int), .int .u8 (0 : Int), .int .u8 (0 : Int), .int .u8 (0 : Int), .int .u8 (0 : Int), .int .u8 (0 : Int), .int .u8 (0 : Int), .int .u8 (0 : Int), .int .u8 (0 : Int), .int .u8 (0 : Int), .int .u8 (0 : Int), .int .u8 (0 : Int), .int .u8 (0 : Int), .int .u8 (0 : Int), .int .u8 (0 : Int), .int .u8 (0 : Int), .int .u8 (0 : Int), .int .u8 (0 : Int), .int .u8 (0 : Int), .int .u8 (0 : Int), .int .u8 (0 : Int), .int .i64 (0 : Int), .int .i64 (0 : Int)] 112) w1 fun b5 w2 =>
  LdI .i64 ⟨m0_, 0, none⟩ w2 fun x7_0 =>
  LdI .i64 ⟨m0_, 1, none⟩ w2 fun x7_1 =>
  LdI .i64 ⟨m0_, 2, none⟩ w2 fun x7_2 =>
  LdI .i64 ⟨m0_, 3, none⟩ w2 fun x7_3 =>
  LdI .i64 ⟨m0_, 4, none⟩ w2 fun x7_4 =>
  LdI .i64 ⟨m0_, 5, none⟩ w2 fun x7_5 =>
  LdI .i64 ⟨m0_, 6, none⟩ w2 fun x7_6 =>
  LdB ⟨m0_, 7, none⟩ w2 fun x7_7 =>
  LdL ⟨m0_, 8, none⟩ w2 fun x7_8_b x7_8_l x7_8_c =>
  LdS ⟨m0_, 9, none⟩ w2 fun x7_9 =>
  node_enc_encode.Call (some ⟨b5, 0, none⟩) x7_0 x7_1 x7_2 x7_3 x7_4 x7_5 x7_6 x7_7 x7_8_b x7_8_l x7_8_c x7_9 w2 fun r8 w3 =>
  R r8 w3) = kstep Tryz.prog 9 Tryz.f102.results.toList (Tryz.f102.body.getD .skip) (node_Encode.RV R) (kvc Tryz.prog 9 Tryz.f102.results.toList (Tryz.f102.body.getD .skip) (node_Encode.RV R) [] 2000) [(0, [])] [(0, .agg #[.int .i64 m0_0, .int .i64 m0_1, .int .i64 m0_2, .int .i64 m0_3, .int .i64 m0_4, .int .i64 m0_5, .int .i64 m0_6, .bool m0_7, .slice m0_8_b m0_8_l m0_8_c, .string m0_9])] w := by kernel_rfl
theorem node_Encode.B0_sound {R : ByteArray → World → Prop}  (m0_0 m0_1 m0_2 m0_3 m0_4 m0_5 m0_6 : Int) (m0_7 : Bool) (m0_8_b : Option Addr) (m0_8_l m0_8_c : Nat) (m0_9 : ByteArray) (w : World) (h : node_Encode.B0 m0_0 m0_1 m0_2 m0_3 m0_4 m0_5 m0_6 m0_7 m0_8_b m0_8_l m0_8_c m0_9 w   R) :
    KW Tryz.prog 102 9 (node_Encode.RV R) ([(0, [])].map (toItem (Tryz.f102.body.getD .skip))) [(0, .agg #[.int .i64 m0_0, .int .i64 m0_1, .int .i64 m0_2, .int .i64 m0_3, .int .i64 m0_4, .int .i64 m0_5, .int .i64 m0_6, .bool m0_7, .slice m0_8_b m0_8_l m0_8_c, .string m0_9])] w := by
  exact block_spec Tryz.func102 Tryz.mixed stops_nil (Eq.mp (node_Encode.B0_eq m0_0 m0_1 m0_2 m0_3 m0_4 m0_5 m0_6 m0_7 m0_8_b m0_8_l m0_8_c m0_9 w   R ) h)
theorem node_Encode.sound (m0_0 m0_1 m0_2 m0_3 m0_4 m0_5 m0_6 : Int) (m0_7 : Bool) (m0_8_b : Option Addr) (m0_8_l m0_8_c : Nat) (m0_9 : ByteArray) (w : World) (R : ByteArray → World → Prop) (h : node_Encode.B0 m0_0 m0_1 m0_2 m0_3 m0_4 m0_5 m0_6 m0_7 m0_8_b m0_8_l m0_8_c m0_9 w R) : node_Encode.Call m0_0 m0_1 m0_2 m0_3 m0_4 m0_5 m0_6 m0_7 m0_8_b m0_8_l m0_8_c m0_9 w R := by
  have hc := calls_of_block (args := #[.agg #[.int .i64 m0_0, .int .i64 m0_1, .int .i64 m0_2, .int .i64 m0_3, .int .i64 m0_4, .int .i64 m0_5, .int .i64 m0_6, .bool m0_7, .slice m0_8_b m0_8_l m0_8_c, .string m0_9]]) Tryz.func102 (body := (Tryz.f102.body.getD .skip)) (by kernel_rfl) (by kernel_rfl) (args_slot _) (node_Encode.B0_sound m0_0 m0_1 m0_2 m0_3 m0_4 m0_5 m0_6 m0_7 m0_8_b m0_8_l m0_8_c m0_9 w h)
  exact hc.mono fun e w' he => by
    obtain ⟨v, rfl, hv⟩ := he
    exact node_Encode.RV_elim hv
def api_EncodeMsg.L1b (m0 : Nat) (b_b : Option Addr) (b_l b_c : Nat) (i : Int) (w : World)  (N1 : Nat → Option Addr → Nat → Nat → Int → World → Prop) (R : ByteArray → World → Prop) : Prop :=
  LdL ⟨m0, 8, none⟩ w fun x52_b x52_l x52_c =>
  Bm (decide (i < ((x52_l : Nat) : Int))) (
    LdL ⟨m0, 8, none⟩ w fun x59_b x59_l x59_c =>
    Pn x59_b fun a =>
    (0 ≤ i ∧ i < ((x59_l : Nat) : Int)) ∧
    LdI .i64 (Addr.add a (i.toNat * 2)) w fun x63 =>
    api_PutU64.Call b_b b_l b_c x63 w fun r64_b r64_l r64_c w1 =>
    LdL ⟨m0, 8, none⟩ w1 fun x67_b x67_l x67_c =>
    Pn x67_b fun a_1 =>
    (0 ≤ i ∧ i < ((x67_l : Nat) : Int)) ∧
    LdS ((Addr.add a_1 (i.toNat * 2)).add 1) w1 fun x71 =>
    api_putStr.Call r64_b r64_l r64_c x71 w1 fun r72_b r72_l r72_c w2 =>
    N1 m0 r72_b r72_l r72_c (IntKind.i64.wrap (i + (1 : Int))) w2) (
    LdS ⟨m0, 9, none⟩ w fun x75 =>
    api_putStr.Call b_b b_l b_c x75 w fun r76_b r76_l r76_c w3 =>
    api_Sum16.Call r76_b r76_l r76_c w3 fun r78 w4 =>
    0 ≤ (8 : Int) ∧
    New (.cells #[.int .u8 (IntKind.u8.wrap (r78.fdiv (2 ^ (min (8 : Int).toNat IntKind.i64.bits)))), .int .u8 (IntKind.u8.wrap r78)] 5) w4 fun b85 w5 =>
    Append 5 (.int .u8 (0 : Int)) 1 1 r76_b r76_l r76_c (some ⟨b85, 0, none⟩) 2 w5 fun b86 c86 w6 =>
    ToStr b86 (r76_l + 2) w6 fun s88 =>
    R s88 w6)
theorem api_EncodeMsg.L1b_eq (m0 : Nat) (b_b : Option Addr) (b_l b_c : Nat) (i : Int) (w : World)  (N1 : Nat → Option Addr → Nat → Nat → Int → World → Prop) (R : ByteArray → World → Prop)  :
    (
  LdL ⟨m0, 8, none⟩ w fun x52_b x52_l x52_c =>
  Bm (decide (i < ((x52_l : Nat) : Int))) (
    LdL ⟨m0, 8, none⟩ w fun x59_b x59_l x59_c =>
    Pn x59_b fun a =>
    (0 ≤ i ∧ i < ((x59_l : Nat) : Int)) ∧
    LdI .i64 (Addr.add a (i.toNat * 2)) w fun x63 =>
    api_PutU64.Call b_b b_l b_c x63 w fun r64_b r64_l r64_c w1 =>
    LdL ⟨m0, 8, none⟩ w1 fun x67_b x67_l x67_c =>
    Pn x67_b fun a_1 =>
    (0 ≤ i ∧ i < ((x67_l : Nat) : Int)) ∧
    LdS ((Addr.add a_1 (i.toNat * 2)).add 1) w1 fun x71 =>
    api_putStr.Call r64_b r64_l r64_c x71 w1 fun r72_b r72_l r72_c w2 =>
    N1 m0 r72_b r72_l r72_c (IntKind.i64.wrap (i + (1 : Int))) w2) (
    LdS ⟨m0, 9, none⟩ w fun x75 =>
    api_putStr.Call b_b b_l b_c x75 w fun r76_b r76_l r76_c w3 =>
    api_Sum16.Call r76_b r76_l r76_c w3 fun r78 w4 =>
    0 ≤ (8 : Int) ∧
    New (.cells #[.int .u8 (IntKind.u8.wrap (r78.fdiv (2 ^ (min (8 : Int).toNat IntKind.i64.bits)))), .int .u8 (IntKind.u8.wrap r78)] 5) w4 fun b85 w5 =>
    Append 5 (.int .u8 (0 : Int)) 1 1 r76_b r76_l r76_c (some ⟨b85, 0, none⟩) 2 w5 fun b86 c86 w6 =>
    ToStr b86 (r76_l + 2) w6 fun s88 =>
    R s88 w6)) = kstep Tryz.prog 89 Tryz.f103.results.toList (Tryz.f103.body.getD .skip) (api_EncodeMsg.RV R) (kvc Tryz.prog 89 Tryz.f103.results.toList (Tryz.f103.body.getD .skip) (api_EncodeMsg.RV R) [([(0, [1, 1, 1, 1, 1, 1, 1, 1, 1, 1, 1, 0, 1, 0, 0]), (2, [1, 1, 1, 1, 1, 1, 1, 1, 1, 1, 1, 0, 1, 0, 0]), (1, [0]), (0, [1, 1, 1, 1, 1, 1, 1, 1, 1, 1, 1, 1])], fun σ w => dK (slotOf σ 1) fun m0_ => dL (slotOf σ 3) fun b_b_ b_l_ b_c_ => dI .i64 (slotOf σ 5) fun i_ => N1 m0_ b_b_ b_l_ b_c_ i_ w)] 2000) [(0, [1, 1, 1, 1, 1, 1, 1, 1, 1, 1, 1, 0, 1, 0, 0]), (2, [1, 1, 1, 1, 1, 1, 1, 1, 1, 1, 1, 0, 1, 0, 0]), (1, [0]), (0, [1, 1, 1, 1, 1, 1, 1, 1, 1, 1, 1, 1])] [(1, .pointer (some ⟨m0, 0, none⟩)), (3, .slice b_b b_l b_c), (5, .int .i64 i)] w := by kernel_rfl
theorem api_EncodeMsg.L1b_sound {R : ByteArray → World → Prop} {N1 : Nat → Option Addr → Nat → Nat → Int → World → Prop} (hN1 : ∀ m0 b_b b_l b_c i w, N1 m0 b_b b_l b_c i w → KW Tryz.prog 103 89 (api_EncodeMsg.RV R) ([(0, [1, 1, 1, 1, 1, 1, 1, 1, 1, 1, 1, 0, 1, 0, 0]), (2, [1, 1, 1, 1, 1, 1, 1, 1, 1, 1, 1, 0, 1, 0, 0]), (1, [0]), (0, [1, 1, 1, 1, 1, 1, 1, 1, 1, 1, 1, 1])].map (toItem (Tryz.f103.body.getD .skip))) [(1, .pointer (some ⟨m0, 0, none⟩)), (3, .slice b_b b_l b_c), (5, .int .i64 i)] w) (m0 : Nat) (b_b : Option Addr) (b_l b_c : Nat) (i : Int) (w : World) (h : api_EncodeMsg.L1b m0 b_b b_l b_c i w  N1 R) :
    KW Tryz.prog 103 89 (api_EncodeMsg.RV R) ([(0, [1, 1, 1, 1, 1, 1, 1, 1, 1, 1, 1, 0, 1, 0, 0]), (2, [1, 1, 1, 1, 1, 1, 1, 1, 1, 1, 1, 0, 1, 0, 0]), (1, [0]), (0, [1, 1, 1, 1, 1, 1, 1, 1, 1, 1, 1, 1])].map (toItem (Tryz.f103.body.getD .skip))) [(1, .pointer (some ⟨m0, 0, none⟩)), (3, .slice b_b b_l b_c), (5, .int .i64 i)] w := by
  exact block_spec Tryz.func103 Tryz.mixed (stops_cons (fun σ w h => by
      obtain ⟨m0_, e0, h⟩ := dK_elim h
      obtain ⟨b_b_, b_l_, b_c_, e1, h⟩ := dL_elim h
      obtain ⟨i_, e2, h⟩ := dI_elim h
      exact (hN1 m0_ b_b_ b_l_ b_c_ i_ w h).weaken (Sub.cons (Sub.cons (Sub.cons (Sub.nil _) e2) e1) e0)) stops_nil) (Eq.mp (api_EncodeMsg.L1b_eq m0 b_b b_l b_c i w  N1 R ) h)
def api_EncodeMsg.L1 (m0 : Nat) (b_b : Option Addr) (b_l b_c : Nat) (i : Int) (w : World)  (R : ByteArray → World → Prop) : Prop :=
  ∃ (I : Nat → Nat → Option Addr → Nat → Nat → Int → World → Prop) (m : Nat), I m m0 b_b b_l b_c i w ∧ ∀ m m0 b_b b_l b_c i w, I m m0 b_b b_l b_c i w → api_EncodeMsg.L1b m0 b_b b_l b_c i w  (fun m0' b_b' b_l' b_c' i' w' => ∃ m', m' < m ∧ I m' m0' b_b' b_l' b_c' i' w') R
theorem api_EncodeMsg.L1_sound {R : ByteArray → World → Prop}  (m0 : Nat) (b_b : Option Addr) (b_l b_c : Nat) (i : Int) (w : World) (h : api_EncodeMsg.L1 m0 b_b b_l b_c i w  R) :
    KW Tryz.prog 103 89 (api_EncodeMsg.RV R) ([(0, [1, 1, 1, 1, 1, 1, 1, 1, 1, 1, 1, 0, 1, 0, 0]), (2, [1, 1, 1, 1, 1, 1, 1, 1, 1, 1, 1, 0, 1, 0, 0]), (1, [0]), (0, [1, 1, 1, 1, 1, 1, 1, 1, 1, 1, 1, 1])].map (toItem (Tryz.f103.body.getD .skip))) [(1, .pointer (some ⟨m0, 0, none⟩)), (3, .slice b_b b_l b_c), (5, .int .i64 i)] w := by
  obtain ⟨I, m, hBase, hr⟩ := h
  refine KW.loop (fun m σ w => ∃ (m0 : Nat) (b_b : Option Addr) (b_l b_c : Nat) (i : Int), σ = [(1, .pointer (some ⟨m0, 0, none⟩)), (3, .slice b_b b_l b_c), (5, .int .i64 i)] ∧ I m m0 b_b b_l b_c i w) ?_ m _ w ⟨m0, b_b, b_l, b_c, i, rfl, hBase⟩
  rintro m ih σ w ⟨m0, b_b, b_l, b_c, i, rfl, hI⟩
  exact api_EncodeMsg.L1b_sound  (N1 := fun m0' b_b' b_l' b_c' i' w' => ∃ m', m' < m ∧ I m' m0' b_b' b_l' b_c' i' w') (fun m0' b_b' b_l' b_c' i' w' hx => by obtain ⟨m', hlt, hI'⟩ := hx; exact ih m' hlt _ w' ⟨m0', b_b', b_l', b_c', i', rfl, hI'⟩) m0 b_b b_l b_c i w (hr m m0 b_b b_l b_c i w hI)
def api_EncodeMsg.B1 (m0 : Nat) (b_b : Option Addr) (b_l b_c : Nat) (ok : Int) (w : World)   (R : ByteArray → World → Prop) : Prop :=
  LdI .i64 ⟨m0, 0, none⟩ w fun x15 =>
  LdI .i64 ⟨m0, 1, none⟩ w fun x18 =>
  LdI .i64 ⟨m0, 2, none⟩ w fun x21 =>
  New (.cells #[.int .u8 (IntKind.u8.wrap x15), .int .u8 (IntKind.u8.wrap x18), .int .u8 (IntKind.u8.wrap x21), .int .u8 (IntKind.u8.wrap ok)] 5) w fun b25 w1 =>
  Append 5 (.int .u8 (0 : Int)) 1 1 b_b b_l b_c (some ⟨b25, 0, none⟩) 4 w1 fun b26 c26 w2 =>
  LdI .i64 ⟨m0, 3, none⟩ w2 fun x29 =>
  api_PutU64.Call b26 (b_l + 4) c26 x29 w2 fun r30_b r30_l r30_c w3 =>
  LdI .i64 ⟨m0, 4, none⟩ w3 fun x33 =>
  api_PutU64.Call r30_b r30_l r30_c x33 w3 fun r34_b r34_l r34_c w4 =>
  LdI .i64 ⟨m0, 5, none⟩ w4 fun x37 =>
  api_PutU64.Call r34_b r34_l r34_c x37 w4 fun r38_b r38_l r38_c w5 =>
  LdI .i64 ⟨m0, 6, none⟩ w5 fun x41 =>
  api_PutU64.Call r38_b r38_l r38_c x41 w5 fun r42_b r42_l r42_c w6 =>
  LdL ⟨m0, 8, none⟩ w6 fun x45_b x45_l x45_c =>
  New (.cells #[.int .u8 (IntKind.u8.wrap ((x45_l : Nat) : Int))] 5) w6 fun b48 w7 =>
  Append 5 (.int .u8 (0 : Int)) 1 1 r42_b r42_l r42_c (some ⟨b48, 0, none⟩) 1 w7 fun b49 c49 w8 =>
  api_EncodeMsg.L1 m0 b49 (r42_l + 1) c49 (0 : Int) w8  R
theorem api_EncodeMsg.B1_eq (m0 : Nat) (b_b : Option Addr) (b_l b_c : Nat) (ok : Int) (w : World)   (R : ByteArray → World → Prop) (sL1 : Nat → Option Addr → Nat → Nat → Int → World → Prop) :
    (
  LdI .i64 ⟨m0, 0, none⟩ w fun x15 =>
  LdI .i64 ⟨m0, 1, none⟩ w fun x18 =>
  LdI .i64 ⟨m0, 2, none⟩ w fun x21 =>
  New (.cells #[.int .u8 (IntKind.u8.wrap x15), .int .u8 (IntKind.u8.wrap x18), .int .u8 (IntKind.u8.wrap x21), .int .u8 (IntKind.u8.wrap ok)] 5) w fun b25 w1 =>
  Append 5 (.int .u8 (0 : Int)) 1 1 b_b b_l b_c (some ⟨b25, 0, none⟩) 4 w1 fun b26 c26 w2 =>
  LdI .i64 ⟨m0, 3, none⟩ w2 fun x29 =>
  api_PutU64.Call b26 (b_l + 4) c26 x29 w2 fun r30_b r30_l r30_c w3 =>
  LdI .i64 ⟨m0, 4, none⟩ w3 fun x33 =>
  api_PutU64.Call r30_b r30_l r30_c x33 w3 fun r34_b r34_l r34_c w4 =>
  LdI .i64 ⟨m0, 5, none⟩ w4 fun x37 =>
  api_PutU64.Call r34_b r34_l r34_c x37 w4 fun r38_b r38_l r38_c w5 =>
  LdI .i64 ⟨m0, 6, none⟩ w5 fun x41 =>
  api_PutU64.Call r38_b r38_l r38_c x41 w5 fun r42_b r42_l r42_c w6 =>
  LdL ⟨m0, 8, none⟩ w6 fun x45_b x45_l x45_c =>
  New (.cells #[.int .u8 (IntKind.u8.wrap ((x45_l : Nat) : Int))] 5) w6 fun b48 w7 =>
  Append 5 (.int .u8 (0 : Int)) 1 1 r42_b r42_l r42_c (some ⟨b48, 0, none⟩) 1 w7 fun b49 c49 w8 =>
  sL1 m0 b49 (r42_l + 1) c49 (0 : Int) w8) = kstep Tryz.prog 89 Tryz.f103.results.toList (Tryz.f103.body.getD .skip) (api_EncodeMsg.RV R) (kvc Tryz.prog 89 Tryz.f103.results.toList (Tryz.f103.body.getD .skip) (api_EncodeMsg.RV R) [([(0, [1, 1, 1, 1, 1, 1, 1, 1, 1, 1, 1, 0, 1, 0, 0]), (2, [1, 1, 1, 1, 1, 1, 1, 1, 1, 1, 1, 0, 1, 0, 0]), (1, [0]), (0, [1, 1, 1, 1, 1, 1, 1, 1, 1, 1, 1, 1])], fun σ w => dK (slotOf σ 1) fun m0_ => dL (slotOf σ 3) fun b_b_ b_l_ b_c_ => dI .i64 (slotOf σ 5) fun i_ => sL1 m0_ b_b_ b_l_ b_c_ i_ w)] 2000) [(0, [1, 1, 1, 1, 1])] [(1, .pointer (some ⟨m0, 0, none⟩)), (3, .slice b_b b_l b_c), (4, .int .i64 ok)] w := by kernel_rfl
theorem api_EncodeMsg.B1_sound {R : ByteArray → World → Prop}  (m0 : Nat) (b_b : Option Addr) (b_l b_c : Nat) (ok : Int) (w : World) (h : api_EncodeMsg.B1 m0 b_b b_l b_c ok w   R) :
    KW Tryz.prog 103 89 (api_EncodeMsg.RV R) ([(0, [1, 1, 1, 1, 1])].map (toItem (Tryz.f103.body.getD .skip))) [(1, .pointer (some ⟨m0, 0, none⟩)), (3, .slice b_b b_l b_c), (4, .int .i64 ok)] w := by
  exact block_spec Tryz.func103 Tryz.mixed (stops_cons (fun σ w h => by
      obtain ⟨m0_, e0, h⟩ := dK_elim h
      obtain ⟨b_b_, b_l_, b_c_, e1, h⟩ := dL_elim h
      obtain ⟨i_, e2, h⟩ := dI_elim h
      exact (api_EncodeMsg.L1_sound  m0_ b_b_ b_l_ b_c_ i_ w h).weaken (Sub.cons (Sub.cons (Sub.cons (Sub.nil _) e2) e1) e0)) stops_nil) (Eq.mp (api_EncodeMsg.B1_eq m0 b_b b_l b_c ok w   R (fun m0_ b_b_ b_l_ b_c_ i_ w => api_EncodeMsg.L1 m0_ b_b_ b_l_ b_c_ i_ w  R)) h)
def api_EncodeMsg.B0 (m0_0 m0_1 m0_2 m0_3 m0_4 m0_5 m0_6 : Int) (m0_7 : Bool) (m0_8_b : Option Addr) (m0_8_l m0_8_c : Nat) (m0_9 : ByteArray) (w : World)   (R : ByteArray → World → Prop) : Prop :=
  New (.cells #[.int .i64 m0_0, .int .i64 m0_1, .int .i64 m0_2, .int .i64 m0_3, .int .i64 m0_4, .int .i64 m0_5, .int .i64 m0_6, .bool m0_7, .slice m0_8_b m0_8_l m0_8_c, .string m0_9] 101) w fun m0_ w1 =>
  LdI .i64 ⟨m0_, 0, none⟩ w1 fun x7_0 =>
  LdI .i64 ⟨m0_, 1, none⟩ w1 fun x7_1 =>
  LdI .i64 ⟨m0_, 2, none⟩ w1 fun x7_2 =>
  LdI .i64 ⟨m0_, 3, none⟩ w1 fun x7_3 =>
  LdI .i64 ⟨m0_, 4, none⟩ w1 fun x7_4 =>
  LdI .i64 ⟨m0_, 5, none⟩ w1 fun x7_5 =>
  LdI .i64 ⟨m0_, 6, none⟩ w1 fun x7_6 =>
  LdB ⟨m0_, 7, none⟩ w1 fun x7_7 =>
  LdL ⟨m0_, 8, none⟩ w1 fun x7_8_b x7_8_l x7_8_c =>
  LdS ⟨m0_, 9, none⟩ w1 fun x7_9 =>
  api_MsgOK.Call x7_0 x7_1 x7_2 x7_3 x7_4 x7_5 x7_6 x7_7 x7_8_b x7_8_l x7_8_c x7_9 w1 fun r8 w2 =>
  Bm (!r8) (
    R (ByteArray.mk #[]) w2) (
    Make 5 (.int .u8 (0 : Int)) 1 1 (0 : Int) (64 : Int) w2 fun b10 w3 =>
    LdB ⟨m0_, 7, none⟩ w3 fun x12 =>
    Bm x12 (
      api_EncodeMsg.B1 m0_ (some ⟨b10, 0, none⟩) 0 64 (1 : Int) w3  R) (
      api_EncodeMsg.B1 m0_ (some ⟨b10, 0, none⟩) 0 64 (0 : Int) w3  R))
theorem api_EncodeMsg.B0_eq (m0_0 m0_1 m0_2 m0_3 m0_4 m0_5 m0_6 : Int) (m0_7 : Bool) (m0_8_b : Option Addr) (m0_8_l m0_8_c : Nat) (m0_9 : ByteArray) (w : World)   (R : ByteArray → World → Prop) (sB1 : Nat → Option Addr → Nat → Nat → Int → World → Prop) :
    (
  New (.cells #[.int .i64 m0_0, .int .i64 m0_1, .int .i64 m0_2, .int .i64 m0_3, .int .i64 m0_4, .int .i64 m0_5, .int .i64 m0_6, .bool m0_7, .slice m0_8_b m0_8_l m0_8_c, .string m0_9] 101) w fun m0_ w1 =>
  LdI .i64 ⟨m0_, 0, none⟩ w1 fun x7_0 =>
  LdI .i64 ⟨m0_, 1, none⟩ w1 fun x7_1 =>
  LdI .i64 ⟨m0_, 2, none⟩ w1 fun x7_2 =>
  LdI .i64 ⟨m0_, 3, none⟩ w1 fun x7_3 =>
  LdI .i64 ⟨m0_, 4, none⟩ w1 fun x7_4 =>
  LdI .i64 ⟨m0_, 5, none⟩ w1 fun x7_5 =>
  LdI .i64 ⟨m0_, 6, none⟩ w1 fun x7_6 =>
  LdB ⟨m0_, 7, none⟩ w1 fun x7_7 =>
  LdL ⟨m0_, 8, none⟩ w1 fun x7_8_b x7_8_l x7_8_c =>
  LdS ⟨m0_, 9, none⟩ w1 fun x7_9 =>
  api_MsgOK.Call x7_0 x7_1 x7_2 x7_3 x7_4 x7_5 x7_6 x7_7 x7_8_b x7_8_l x7_8_c x7_9 w1 fun r8 w2 =>
  Bm (!r8) (
    R (ByteArray.mk #[]) w2) (
    Make 5 (.int .u8 (0 : Int)) 1 1 (0 : Int) (64 : Int) w2 fun b10 w3 =>
    LdB ⟨m0_, 7, none⟩ w3 fun x12 =>
    Bm x12 (
      sB1 m0_ (some ⟨b10, 0, none⟩) 0 64 (1 : Int) w3) (
      sB1 m0_ (some ⟨b10, 0, none⟩) 0 64 (0 : Int) w3))) = kstep Tryz.prog 89 Tryz.f103.results.toList (Tryz.f103.body.getD .skip) (api_EncodeMsg.RV R) (kvc Tryz.prog 89 Tryz.f103.results.toList (Tryz.f103.body.getD .skip) (api_EncodeMsg.RV R) [([(0, [1, 1, 1, 1, 1])], fun σ w => dK (slotOf σ 1) fun m0_ => dL (slotOf σ 3) fun b_b_ b_l_ b_c_ => dI .i64 (slotOf σ 4) fun ok_ => sB1 m0_ b_b_ b_l_ b_c_ ok_ w)] 2000) [(0, [])] [(0, .agg #[.int .i64 m0_0, .int .i64 m0_1, .int .i64 m0_2, .int .i64 m0_3, .int .i64 m0_4, .int .i64 m0_5, .int .i64 m0_6, .bool m0_7, .slice m0_8_b m0_8_l m0_8_c, .string m0_9])] w := by kernel_rfl
theorem api_EncodeMsg.B0_sound {R : ByteArray → World → Prop}  (m0_0 m0_1 m0_2 m0_3 m0_4 m0_5 m0_6 : Int) (m0_7 : Bool) (m0_8_b : Option Addr) (m0_8_l m0_8_c : Nat) (m0_9 : ByteArray) (w : World) (h : api_EncodeMsg.B0 m0_0 m0_1 m0_2 m0_3 m0_4 m0_5 m0_6 m0_7 m0_8_b m0_8_l m0_8_c m0_9 w   R) :
    KW Tryz.prog 103 89 (api_EncodeMsg.RV R) ([(0, [])].map (toItem (Tryz.f103.body.getD .skip))) [(0, .agg #[.int .i64 m0_0, .int .i64 m0_1, .int .i64 m0_2, .int .i64 m0_3, .int .i64 m0_4, .int .i64 m0_5, .int .i64 m0_6, .bool m0_7, .slice m0_8_b m0_8_l m0_8_c, .string m0_9])] w := by
  exact block_spec Tryz.func103 Tryz.mixed (stops_cons (fun σ w h => by
      obtain ⟨m0_, e0, h⟩ := dK_elim h
      obtain ⟨b_b_, b_l_, b_c_, e1, h⟩ := dL_elim h
      obtain ⟨ok_, e2, h⟩ := dI_elim h
      exact (api_EncodeMsg.B1_sound  m0_ b_b_ b_l_ b_c_ ok_ w h).weaken (Sub.cons (Sub.cons (Sub.cons (Sub.nil _) e2) e1) e0)) stops_nil) (Eq.mp (api_EncodeMsg.B0_eq m0_0 m0_1 m0_2 m0_3 m0_4 m0_5 m0_6 m0_7 m0_8_b m0_8_l m0_8_c m0_9 w   R (fun m0_ b_b_ b_l_ b_c_ ok_ w => api_EncodeMsg.B1 m0_ b_b_ b_l_ b_c_ ok_ w  R)) h)
theorem api_EncodeMsg.sound (m0_0 m0_1 m0_2 m0_3 m0_4 m0_5 m0_6 : Int) (m0_7 : Bool) (m0_8_b : Option Addr) (m0_8_l m0_8_c : Nat) (m0_9 : ByteArray) (w : World) (R : ByteArray → World → Prop) (h : api_EncodeMsg.B0 m0_0 m0_1 m0_2 m0_3 m0_4 m0_5 m0_6 m0_7 m0_8_b m0_8_l m0_8_c m0_9 w R) : api_EncodeMsg.Call m0_0 m0_1 m0_2 m0_3 m0_4 m0_5 m0_6 m0_7 m0_8_b m0_8_l m0_8_c m0_9 w R := by
  have hc := calls_of_block (args := #[.agg #[.int .i64 m0_0, .int .i64 m0_1, .int .i64 m0_2, .int .i64 m0_3, .int .i64 m0_4, .int .i64 m0_5, .int .i64 m0_6, .bool m0_7, .slice m0_8_b m0_8_l m0_8_c, .string m0_9]]) Tryz.func103 (body := (Tryz.f103.body.getD .skip)) (by kernel_rfl) (by kernel_rfl) (args_slot _) (api_EncodeMsg.B0_sound m0_0 m0_1 m0_2 m0_3 m0_4 m0_5 m0_6 m0_7 m0_8_b m0_8_l m0_8_c m0_9 w h)
  exact hc.mono fun e w' he => by
    obtain ⟨v, rfl, hv⟩ := he
    exact api_EncodeMsg.RV_elim hv
end Go.Proofs.Qxb6500430aGreat
