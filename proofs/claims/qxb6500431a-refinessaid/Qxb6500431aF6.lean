import Derived.Test.Qxb6500431aSig
set_option maxRecDepth 100000
set_option linter.unusedVariables false
open Go.Vc
namespace Go.Proofs.Qxb6500431a
def rlogm_Log_At.B0 (l : Option Addr) (i : Int) (w : World)   (R : Int → ByteArray → Int → World → Prop) : Prop :=
  New (.cells #[.int .i64 (0 : Int), .string (ByteArray.mk #[])] 54) w fun b4 w1 =>
  Pn l fun a =>
  LdP a w1 fun x10 =>
  Pn x10 fun a_1 =>
  LdI .i64 (a_1.add 2) w1 fun x13 =>
  Bm (decide (i ≤ x13)) (
    Sts [.int .i64 (0 : Int), .string (ByteArray.mk #[])] ⟨b4, 0, none⟩ 0 w1 fun w2 =>
    LdI .i64 ⟨b4, 0, none⟩ w2 fun r_0 =>
    LdS ⟨b4, 1, none⟩ w2 fun r_1 =>
    R r_0 r_1 (7 : Int) w2) (
    rlogm_Log_Last.Call l w1 fun r18 w3 =>
    Bm (decide (i > r18)) (
      Sts [.int .i64 (0 : Int), .string (ByteArray.mk #[])] ⟨b4, 0, none⟩ 0 w3 fun w4 =>
      LdI .i64 ⟨b4, 0, none⟩ w4 fun r_0_1 =>
      LdS ⟨b4, 1, none⟩ w4 fun r_1_1 =>
      R r_0_1 r_1_1 (2 : Int) w4) (
      Pn l fun a_2 =>
      LdP a_2 w3.drew fun x24 =>
      Pn l fun a_3 =>
      LdP a_3 w3.drew fun x29 =>
      Pn x29 fun a_4 =>
      LdI .i64 (a_4.add 2) w3.drew fun x32 =>
      Pn x24 fun a_5 =>
      (0 ≤ (IntKind.i64.wrap ((IntKind.i64.wrap (i - x32)) - (1 : Int))) ∧ (IntKind.i64.wrap ((IntKind.i64.wrap (i - x32)) - (1 : Int))) < ((6 : Nat) : Int)) ∧
      LdI .i64 (Addr.add (a_5.add 6) ((IntKind.i64.wrap ((IntKind.i64.wrap (i - x32)) - (1 : Int))).toNat * 2)) w3.drew fun x38_0 =>
      LdS ((Addr.add (a_5.add 6) ((IntKind.i64.wrap ((IntKind.i64.wrap (i - x32)) - (1 : Int))).toNat * 2)).add 1) w3.drew fun x38_1 =>
      Sts [.int .i64 x38_0, .string x38_1] ⟨b4, 0, none⟩ 0 w3.drew fun w5 =>
      LdI .i64 ⟨b4, 0, none⟩ w5 fun r_0_2 =>
      LdS ⟨b4, 1, none⟩ w5 fun r_1_2 =>
      R r_0_2 r_1_2 (0 : Int) w5))
theorem rlogm_Log_At.B0_eq (l : Option Addr) (i : Int) (w : World)   (R : Int → ByteArray → Int → World → Prop)  :
    (
  New (.cells #[.int .i64 (0 : Int), .string (ByteArray.mk #[])] 54) w fun b4 w1 =>
  Pn l fun a =>
  LdP a w1 fun x10 =>
  Pn x10 fun a_1 =>
  LdI .i64 (a_1.add 2) w1 fun x13 =>
  Bm (decide (i ≤ x13)) (
    Sts [.int .i64 (0 : Int), .string (ByteArray.mk #[])] ⟨b4, 0, none⟩ 0 w1 fun w2 =>
    LdI .i64 ⟨b4, 0, none⟩ w2 fun r_0 =>
    LdS ⟨b4, 1, none⟩ w2 fun r_1 =>
    R r_0 r_1 (7 : Int) w2) (
    rlogm_Log_Last.Call l w1 fun r18 w3 =>
    Bm (decide (i > r18)) (
      Sts [.int .i64 (0 : Int), .string (ByteArray.mk #[])] ⟨b4, 0, none⟩ 0 w3 fun w4 =>
      LdI .i64 ⟨b4, 0, none⟩ w4 fun r_0_1 =>
      LdS ⟨b4, 1, none⟩ w4 fun r_1_1 =>
      R r_0_1 r_1_1 (2 : Int) w4) (
      Pn l fun a_2 =>
      LdP a_2 w3.drew fun x24 =>
      Pn l fun a_3 =>
      LdP a_3 w3.drew fun x29 =>
      Pn x29 fun a_4 =>
      LdI .i64 (a_4.add 2) w3.drew fun x32 =>
      Pn x24 fun a_5 =>
      (0 ≤ (IntKind.i64.wrap ((IntKind.i64.wrap (i - x32)) - (1 : Int))) ∧ (IntKind.i64.wrap ((IntKind.i64.wrap (i - x32)) - (1 : Int))) < ((6 : Nat) : Int)) ∧
      LdI .i64 (Addr.add (a_5.add 6) ((IntKind.i64.wrap ((IntKind.i64.wrap (i - x32)) - (1 : Int))).toNat * 2)) w3.drew fun x38_0 =>
      LdS ((Addr.add (a_5.add 6) ((IntKind.i64.wrap ((IntKind.i64.wrap (i - x32)) - (1 : Int))).toNat * 2)).add 1) w3.drew fun x38_1 =>
      Sts [.int .i64 x38_0, .string x38_1] ⟨b4, 0, none⟩ 0 w3.drew fun w5 =>
      LdI .i64 ⟨b4, 0, none⟩ w5 fun r_0_2 =>
      LdS ⟨b4, 1, none⟩ w5 fun r_1_2 =>
      R r_0_2 r_1_2 (0 : Int) w5))) = kstep Try.prog 39 Try.f71.results.toList (Try.f71.body.getD .skip) (rlogm_Log_At.RV R) (kvc Try.prog 39 Try.f71.results.toList (Try.f71.body.getD .skip) (rlogm_Log_At.RV R) [] 2000) [(0, [])] [(0, .pointer l), (1, .int .i64 i)] w := by kernel_rfl
theorem rlogm_Log_At.B0_sound {R : Int → ByteArray → Int → World → Prop}  (l : Option Addr) (i : Int) (w : World) (h : rlogm_Log_At.B0 l i w   R) :
    KW Try.prog 71 39 (rlogm_Log_At.RV R) ([(0, [])].map (toItem (Try.f71.body.getD .skip))) [(0, .pointer l), (1, .int .i64 i)] w := by
  exact block_spec Try.func71 Try.mixed stops_nil (Eq.mp (rlogm_Log_At.B0_eq l i w   R ) h)
theorem rlogm_Log_At.sound (l : Option Addr) (i : Int) (w : World) (R : Int → ByteArray → Int → World → Prop) (h : rlogm_Log_At.B0 l i w R) : rlogm_Log_At.Call l i w R := by
  have hc := calls_of_block (args := #[.pointer l, .int .i64 i]) Try.func71 (body := (Try.f71.body.getD .skip)) (by kernel_rfl) (by kernel_rfl) (args_slot _) (rlogm_Log_At.B0_sound l i w h)
  exact hc.mono fun e w' he => by
    obtain ⟨v, rfl, hv⟩ := he
    exact rlogm_Log_At.RV_elim hv
def rlog_Log_TermAt.B0 (l : Option Addr) (i : Int) (w : World)   (R : Int → Int → World → Prop) : Prop :=
  Pn l fun a =>
  LdI .i64 (a.add 3) w fun x12 =>
  Bm (i == x12) (
    Pn l fun a_1 =>
    LdI .i64 (a_1.add 4) w fun x17 =>
    R x17 (0 : Int) w) (
    rlog_Log_At.Call l i w fun r21_0_0 r21_0_1 r21_1 w1 =>
    New (.cells #[.int .i64 (0 : Int), .string (ByteArray.mk #[])] 54) w1 fun e_ w2 =>
    Sts [.int .i64 r21_0_0, .string r21_0_1] ⟨e_, 0, none⟩ 0 w2 fun w3 =>
    LdI .i64 ⟨e_, 0, none⟩ w3 fun x25 =>
    R x25 r21_1 w3)
theorem rlog_Log_TermAt.B0_eq (l : Option Addr) (i : Int) (w : World)   (R : Int → Int → World → Prop)  :
    (
  Pn l fun a =>
  LdI .i64 (a.add 3) w fun x12 =>
  Bm (i == x12) (
    Pn l fun a_1 =>
    LdI .i64 (a_1.add 4) w fun x17 =>
    R x17 (0 : Int) w) (
    rlog_Log_At.Call l i w fun r21_0_0 r21_0_1 r21_1 w1 =>
    New (.cells #[.int .i64 (0 : Int), .string (ByteArray.mk #[])] 54) w1 fun e_ w2 =>
    Sts [.int .i64 r21_0_0, .string r21_0_1] ⟨e_, 0, none⟩ 0 w2 fun w3 =>
    LdI .i64 ⟨e_, 0, none⟩ w3 fun x25 =>
    R x25 r21_1 w3)) = kstep Try.prog 27 Try.f72.results.toList (Try.f72.body.getD .skip) (rlog_Log_TermAt.RV R) (kvc Try.prog 27 Try.f72.results.toList (Try.f72.body.getD .skip) (rlog_Log_TermAt.RV R) [] 2000) [(0, [])] [(0, .pointer l), (1, .int .i64 i)] w := by kernel_rfl
theorem rlog_Log_TermAt.B0_sound {R : Int → Int → World → Prop}  (l : Option Addr) (i : Int) (w : World) (h : rlog_Log_TermAt.B0 l i w   R) :
    KW Try.prog 72 27 (rlog_Log_TermAt.RV R) ([(0, [])].map (toItem (Try.f72.body.getD .skip))) [(0, .pointer l), (1, .int .i64 i)] w := by
  exact block_spec Try.func72 Try.mixed stops_nil (Eq.mp (rlog_Log_TermAt.B0_eq l i w   R ) h)
theorem rlog_Log_TermAt.sound (l : Option Addr) (i : Int) (w : World) (R : Int → Int → World → Prop) (h : rlog_Log_TermAt.B0 l i w R) : rlog_Log_TermAt.Call l i w R := by
  have hc := calls_of_block (args := #[.pointer l, .int .i64 i]) Try.func72 (body := (Try.f72.body.getD .skip)) (by kernel_rfl) (by kernel_rfl) (args_slot _) (rlog_Log_TermAt.B0_sound l i w h)
  exact hc.mono fun e w' he => by
    obtain ⟨v, rfl, hv⟩ := he
    exact rlog_Log_TermAt.RV_elim hv
def rlogm_Log_TermAt.B0 (l : Option Addr) (i : Int) (w : World)   (R : Int → Int → World → Prop) : Prop :=
  Pn l fun a =>
  LdP a w fun x12 =>
  Pn x12 fun a_1 =>
  LdI .i64 (a_1.add 2) w fun x15 =>
  Bm (i == x15) (
    Pn l fun a_2 =>
    LdP a_2 w fun x20 =>
    Pn x20 fun a_3 =>
    LdI .i64 (a_3.add 3) w fun x23 =>
    R x23 (0 : Int) w) (
    rlogm_Log_At.Call l i w fun r27_0_0 r27_0_1 r27_1 w1 =>
    New (.cells #[.int .i64 (0 : Int), .string (ByteArray.mk #[])] 54) w1 fun e_ w2 =>
    Sts [.int .i64 r27_0_0, .string r27_0_1] ⟨e_, 0, none⟩ 0 w2 fun w3 =>
    LdI .i64 ⟨e_, 0, none⟩ w3 fun x31 =>
    R x31 r27_1 w3)
theorem rlogm_Log_TermAt.B0_eq (l : Option Addr) (i : Int) (w : World)   (R : Int → Int → World → Prop)  :
    (
  Pn l fun a =>
  LdP a w fun x12 =>
  Pn x12 fun a_1 =>
  LdI .i64 (a_1.add 2) w fun x15 =>
  Bm (i == x15) (
    Pn l fun a_2 =>
    LdP a_2 w fun x20 =>
    Pn x20 fun a_3 =>
    LdI .i64 (a_3.add 3) w fun x23 =>
    R x23 (0 : Int) w) (
    rlogm_Log_At.Call l i w fun r27_0_0 r27_0_1 r27_1 w1 =>
    New (.cells #[.int .i64 (0 : Int), .string (ByteArray.mk #[])] 54) w1 fun e_ w2 =>
    Sts [.int .i64 r27_0_0, .string r27_0_1] ⟨e_, 0, none⟩ 0 w2 fun w3 =>
    LdI .i64 ⟨e_, 0, none⟩ w3 fun x31 =>
    R x31 r27_1 w3)) = kstep Try.prog 33 Try.f73.results.toList (Try.f73.body.getD .skip) (rlogm_Log_TermAt.RV R) (kvc Try.prog 33 Try.f73.results.toList (Try.f73.body.getD .skip) (rlogm_Log_TermAt.RV R) [] 2000) [(0, [])] [(0, .pointer l), (1, .int .i64 i)] w := by kernel_rfl
theorem rlogm_Log_TermAt.B0_sound {R : Int → Int → World → Prop}  (l : Option Addr) (i : Int) (w : World) (h : rlogm_Log_TermAt.B0 l i w   R) :
    KW Try.prog 73 33 (rlogm_Log_TermAt.RV R) ([(0, [])].map (toItem (Try.f73.body.getD .skip))) [(0, .pointer l), (1, .int .i64 i)] w := by
  exact block_spec Try.func73 Try.mixed stops_nil (Eq.mp (rlogm_Log_TermAt.B0_eq l i w   R ) h)
theorem rlogm_Log_TermAt.sound (l : Option Addr) (i : Int) (w : World) (R : Int → Int → World → Prop) (h : rlogm_Log_TermAt.B0 l i w R) : rlogm_Log_TermAt.Call l i w R := by
  have hc := calls_of_block (args := #[.pointer l, .int .i64 i]) Try.func73 (body := (Try.f73.body.getD .skip)) (by kernel_rfl) (by kernel_rfl) (args_slot _) (rlogm_Log_TermAt.B0_sound l i w h)
  exact hc.mono fun e w' he => by
    obtain ⟨v, rfl, hv⟩ := he
    exact rlogm_Log_TermAt.RV_elim hv
def rlog_Log_Term.B0 (l : Option Addr) (w : World)   (R : Int → World → Prop) : Prop :=
  Pn l fun a =>
  LdI .i64 (a.add 1) w fun x6 =>
  R x6 w
theorem rlog_Log_Term.B0_eq (l : Option Addr) (w : World)   (R : Int → World → Prop)  :
    (
  Pn l fun a =>
  LdI .i64 (a.add 1) w fun x6 =>
  R x6 w) = kstep Try.prog 7 Try.f74.results.toList (Try.f74.body.getD .skip) (rlog_Log_Term.RV R) (kvc Try.prog 7 Try.f74.results.toList (Try.f74.body.getD .skip) (rlog_Log_Term.RV R) [] 2000) [(0, [])] [(0, .pointer l)] w := by kernel_rfl
theorem rlog_Log_Term.B0_sound {R : Int → World → Prop}  (l : Option Addr) (w : World) (h : rlog_Log_Term.B0 l w   R) :
    KW Try.prog 74 7 (rlog_Log_Term.RV R) ([(0, [])].map (toItem (Try.f74.body.getD .skip))) [(0, .pointer l)] w := by
  exact block_spec Try.func74 Try.mixed stops_nil (Eq.mp (rlog_Log_Term.B0_eq l w   R ) h)
theorem rlog_Log_Term.sound (l : Option Addr) (w : World) (R : Int → World → Prop) (h : rlog_Log_Term.B0 l w R) : rlog_Log_Term.Call l w R := by
  have hc := calls_of_block (args := #[.pointer l]) Try.func74 (body := (Try.f74.body.getD .skip)) (by kernel_rfl) (by kernel_rfl) (args_slot _) (rlog_Log_Term.B0_sound l w h)
  exact hc.mono fun e w' he => by
    obtain ⟨v, rfl, hv⟩ := he
    exact rlog_Log_Term.RV_elim hv
def rlogm_Log_Term.B0 (l : Option Addr) (w : World)   (R : Int → World → Prop) : Prop :=
  Pn l fun a =>
  LdP a w fun x6 =>
  Pn x6 fun a_1 =>
  LdI .i64 a_1 w fun x9 =>
  R x9 w
theorem rlogm_Log_Term.B0_eq (l : Option Addr) (w : World)   (R : Int → World → Prop)  :
    (
  Pn l fun a =>
  LdP a w fun x6 =>
  Pn x6 fun a_1 =>
  LdI .i64 a_1 w fun x9 =>
  R x9 w) = kstep Try.prog 10 Try.f75.results.toList (Try.f75.body.getD .skip) (rlogm_Log_Term.RV R) (kvc Try.prog 10 Try.f75.results.toList (Try.f75.body.getD .skip) (rlogm_Log_Term.RV R) [] 2000) [(0, [])] [(0, .pointer l)] w := by kernel_rfl
theorem rlogm_Log_Term.B0_sound {R : Int → World → Prop}  (l : Option Addr) (w : World) (h : rlogm_Log_Term.B0 l w   R) :
    KW Try.prog 75 10 (rlogm_Log_Term.RV R) ([(0, [])].map (toItem (Try.f75.body.getD .skip))) [(0, .pointer l)] w := by
  exact block_spec Try.func75 Try.mixed stops_nil (Eq.mp (rlogm_Log_Term.B0_eq l w   R ) h)
theorem rlogm_Log_Term.sound (l : Option Addr) (w : World) (R : Int → World → Prop) (h : rlogm_Log_Term.B0 l w R) : rlogm_Log_Term.Call l w R := by
  have hc := calls_of_block (args := #[.pointer l]) Try.func75 (body := (Try.f75.body.getD .skip)) (by kernel_rfl) (by kernel_rfl) (args_slot _) (rlogm_Log_Term.B0_sound l w h)
  exact hc.mono fun e w' he => by
    obtain ⟨v, rfl, hv⟩ := he
    exact rlogm_Log_Term.RV_elim hv
def rlog_Log_Vote.B0 (l : Option Addr) (w : World)   (R : Int → World → Prop) : Prop :=
  Pn l fun a =>
  LdI .i64 (a.add 2) w fun x6 =>
  R x6 w
theorem rlog_Log_Vote.B0_eq (l : Option Addr) (w : World)   (R : Int → World → Prop)  :
    (
  Pn l fun a =>
  LdI .i64 (a.add 2) w fun x6 =>
  R x6 w) = kstep Try.prog 7 Try.f76.results.toList (Try.f76.body.getD .skip) (rlog_Log_Vote.RV R) (kvc Try.prog 7 Try.f76.results.toList (Try.f76.body.getD .skip) (rlog_Log_Vote.RV R) [] 2000) [(0, [])] [(0, .pointer l)] w := by kernel_rfl
theorem rlog_Log_Vote.B0_sound {R : Int → World → Prop}  (l : Option Addr) (w : World) (h : rlog_Log_Vote.B0 l w   R) :
    KW Try.prog 76 7 (rlog_Log_Vote.RV R) ([(0, [])].map (toItem (Try.f76.body.getD .skip))) [(0, .pointer l)] w := by
  exact block_spec Try.func76 Try.mixed stops_nil (Eq.mp (rlog_Log_Vote.B0_eq l w   R ) h)
theorem rlog_Log_Vote.sound (l : Option Addr) (w : World) (R : Int → World → Prop) (h : rlog_Log_Vote.B0 l w R) : rlog_Log_Vote.Call l w R := by
  have hc := calls_of_block (args := #[.pointer l]) Try.func76 (body := (Try.f76.body.getD .skip)) (by kernel_rfl) (by kernel_rfl) (args_slot _) (rlog_Log_Vote.B0_sound l w h)
  exact hc.mono fun e w' he => by
    obtain ⟨v, rfl, hv⟩ := he
    exact rlog_Log_Vote.RV_elim hv
def rlogm_Log_Vote.B0 (l : Option Addr) (w : World)   (R : Int → World → Prop) : Prop :=
  Pn l fun a =>
  LdP a w fun x6 =>
  Pn x6 fun a_1 =>
  LdI .i64 (a_1.add 1) w fun x9 =>
  R x9 w
theorem rlogm_Log_Vote.B0_eq (l : Option Addr) (w : World)   (R : Int → World → Prop)  :
    (
  Pn l fun a =>
  LdP a w fun x6 =>
  Pn x6 fun a_1 =>
  LdI .i64 (a_1.add 1) w fun x9 =>
  R x9 w) = kstep Try.prog 10 Try.f77.results.toList (Try.f77.body.getD .skip) (rlogm_Log_Vote.RV R) (kvc Try.prog 10 Try.f77.results.toList (Try.f77.body.getD .skip) (rlogm_Log_Vote.RV R) [] 2000) [(0, [])] [(0, .pointer l)] w := by kernel_rfl
theorem rlogm_Log_Vote.B0_sound {R : Int → World → Prop}  (l : Option Addr) (w : World) (h : rlogm_Log_Vote.B0 l w   R) :
    KW Try.prog 77 10 (rlogm_Log_Vote.RV R) ([(0, [])].map (toItem (Try.f77.body.getD .skip))) [(0, .pointer l)] w := by
  exact block_spec Try.func77 Try.mixed stops_nil (Eq.mp (rlogm_Log_Vote.B0_eq l w   R ) h)
theorem rlogm_Log_Vote.sound (l : Option Addr) (w : World) (R : Int → World → Prop) (h : rlogm_Log_Vote.B0 l w R) : rlogm_Log_Vote.Call l w R := by
  have hc := calls_of_block (args := #[.pointer l]) Try.func77 (body := (Try.f77.body.getD .skip)) (by kernel_rfl) (by kernel_rfl) (args_slot _) (rlogm_Log_Vote.B0_sound l w h)
  exact hc.mono fun e w' he => by
    obtain ⟨v, rfl, hv⟩ := he
    exact rlogm_Log_Vote.RV_elim hv
def rlog_Log_Base.B0 (l : Option Addr) (w : World)   (R : Int → World → Prop) : Prop :=
  Pn l fun a =>
  LdI .i64 (a.add 3) w fun x6 =>
  R x6 w
theorem rlog_Log_Base.B0_eq (l : Option Addr) (w : World)   (R : Int → World → Prop)  :
    (
  Pn l fun a =>
  LdI .i64 (a.add 3) w fun x6 =>
  R x6 w) = kstep Try.prog 7 Try.f78.results.toList (Try.f78.body.getD .skip) (rlog_Log_Base.RV R) (kvc Try.prog 7 Try.f78.results.toList (Try.f78.body.getD .skip) (rlog_Log_Base.RV R) [] 2000) [(0, [])] [(0, .pointer l)] w := by kernel_rfl
theorem rlog_Log_Base.B0_sound {R : Int → World → Prop}  (l : Option Addr) (w : World) (h : rlog_Log_Base.B0 l w   R) :
    KW Try.prog 78 7 (rlog_Log_Base.RV R) ([(0, [])].map (toItem (Try.f78.body.getD .skip))) [(0, .pointer l)] w := by
  exact block_spec Try.func78 Try.mixed stops_nil (Eq.mp (rlog_Log_Base.B0_eq l w   R ) h)
theorem rlog_Log_Base.sound (l : Option Addr) (w : World) (R : Int → World → Prop) (h : rlog_Log_Base.B0 l w R) : rlog_Log_Base.Call l w R := by
  have hc := calls_of_block (args := #[.pointer l]) Try.func78 (body := (Try.f78.body.getD .skip)) (by kernel_rfl) (by kernel_rfl) (args_slot _) (rlog_Log_Base.B0_sound l w h)
  exact hc.mono fun e w' he => by
    obtain ⟨v, rfl, hv⟩ := he
    exact rlog_Log_Base.RV_elim hv
def rlog_Log_BaseTerm.B0 (l : Option Addr) (w : World)   (R : Int → World → Prop) : Prop :=
  Pn l fun a =>
  LdI .i64 (a.add 4) w fun x6 =>
  R x6 w
theorem rlog_Log_BaseTerm.B0_eq (l : Option Addr) (w : World)   (R : Int → World → Prop)  :
    (
  Pn l fun a =>
  LdI .i64 (a.add 4) w fun x6 =>
  R x6 w) = kstep Try.prog 7 Try.f79.results.toList (Try.f79.body.getD .skip) (rlog_Log_BaseTerm.RV R) (kvc Try.prog 7 Try.f79.results.toList (Try.f79.body.getD .skip) (rlog_Log_BaseTerm.RV R) [] 2000) [(0, [])] [(0, .pointer l)] w := by kernel_rfl
theorem rlog_Log_BaseTerm.B0_sound {R : Int → World → Prop}  (l : Option Addr) (w : World) (h : rlog_Log_BaseTerm.B0 l w   R) :
    KW Try.prog 79 7 (rlog_Log_BaseTerm.RV R) ([(0, [])].map (toItem (Try.f79.body.getD .skip))) [(0, .pointer l)] w := by
  exact block_spec Try.func79 Try.mixed stops_nil (Eq.mp (rlog_Log_BaseTerm.B0_eq l w   R ) h)
theorem rlog_Log_BaseTerm.sound (l : Option Addr) (w : World) (R : Int → World → Prop) (h : rlog_Log_BaseTerm.B0 l w R) : rlog_Log_BaseTerm.Call l w R := by
  have hc := calls_of_block (args := #[.pointer l]) Try.func79 (body := (Try.f79.body.getD .skip)) (by kernel_rfl) (by kernel_rfl) (args_slot _) (rlog_Log_BaseTerm.B0_sound l w h)
  exact hc.mono fun e w' he => by
    obtain ⟨v, rfl, hv⟩ := he
    exact rlog_Log_BaseTerm.RV_elim hv
def rlogm_Log_BaseTerm.B0 (l : Option Addr) (w : World)   (R : Int → World → Prop) : Prop :=
  Pn l fun a =>
  LdP a w fun x6 =>
  Pn x6 fun a_1 =>
  LdI .i64 (a_1.add 3) w fun x9 =>
  R x9 w
theorem rlogm_Log_BaseTerm.B0_eq (l : Option Addr) (w : World)   (R : Int → World → Prop)  :
    (
  Pn l fun a =>
  LdP a w fun x6 =>
  Pn x6 fun a_1 =>
  LdI .i64 (a_1.add 3) w fun x9 =>
  R x9 w) = kstep Try.prog 10 Try.f80.results.toList (Try.f80.body.getD .skip) (rlogm_Log_BaseTerm.RV R) (kvc Try.prog 10 Try.f80.results.toList (Try.f80.body.getD .skip) (rlogm_Log_BaseTerm.RV R) [] 2000) [(0, [])] [(0, .pointer l)] w := by kernel_rfl
theorem rlogm_Log_BaseTerm.B0_sound {R : Int → World → Prop}  (l : Option Addr) (w : World) (h : rlogm_Log_BaseTerm.B0 l w   R) :
    KW Try.prog 80 10 (rlogm_Log_BaseTerm.RV R) ([(0, [])].map (toItem (Try.f80.body.getD .skip))) [(0, .pointer l)] w := by
  exact block_spec Try.func80 Try.mixed stops_nil (Eq.mp (rlogm_Log_BaseTerm.B0_eq l w   R ) h)
theorem rlogm_Log_BaseTerm.sound (l : Option Addr) (w : World) (R : Int → World → Prop) (h : rlogm_Log_BaseTerm.B0 l w R) : rlogm_Log_BaseTerm.Call l w R := by
  have hc := calls_of_block (args := #[.pointer l]) Try.func80 (body := (Try.f80.body.getD .skip)) (by kernel_rfl) (by kernel_rfl) (args_slot _) (rlogm_Log_BaseTerm.B0_sound l w h)
  exact hc.mono fun e w' he => by
    obtain ⟨v, rfl, hv⟩ := he
    exact rlogm_Log_BaseTerm.RV_elim hv
def rlog_Log_Snap.B0 (l : Option Addr) (w : World)   (R : ByteArray → World → Prop) : Prop :=
  Pn l fun a =>
  LdS (a.add 5) w fun x6 =>
  R x6 w
theorem rlog_Log_Snap.B0_eq (l : Option Addr) (w : World)   (R : ByteArray → World → Prop)  :
    (
  Pn l fun a =>
  LdS (a.add 5) w fun x6 =>
  R x6 w) = kstep Try.prog 7 Try.f81.results.toList (Try.f81.body.getD .skip) (rlog_Log_Snap.RV R) (kvc Try.prog 7 Try.f81.results.toList (Try.f81.body.getD .skip) (rlog_Log_Snap.RV R) [] 2000) [(0, [])] [(0, .pointer l)] w := by kernel_rfl
theorem rlog_Log_Snap.B0_sound {R : ByteArray → World → Prop}  (l : Option Addr) (w : World) (h : rlog_Log_Snap.B0 l w   R) :
    KW Try.prog 81 7 (rlog_Log_Snap.RV R) ([(0, [])].map (toItem (Try.f81.body.getD .skip))) [(0, .pointer l)] w := by
  exact block_spec Try.func81 Try.mixed stops_nil (Eq.mp (rlog_Log_Snap.B0_eq l w   R ) h)
theorem rlog_Log_Snap.sound (l : Option Addr) (w : World) (R : ByteArray → World → Prop) (h : rlog_Log_Snap.B0 l w R) : rlog_Log_Snap.Call l w R := by
  have hc := calls_of_block (args := #[.pointer l]) Try.func81 (body := (Try.f81.body.getD .skip)) (by kernel_rfl) (by kernel_rfl) (args_slot _) (rlog_Log_Snap.B0_sound l w h)
  exact hc.mono fun e w' he => by
    obtain ⟨v, rfl, hv⟩ := he
    exact rlog_Log_Snap.RV_elim hv
def rlogm_Log_Snap.B0 (l : Option Addr) (w : World)   (R : ByteArray → World → Prop) : Prop :=
  Pn l fun a =>
  LdP a w fun x6 =>
  Pn x6 fun a_1 =>
  LdS (a_1.add 4) w fun x9 =>
  R x9 w
theorem rlogm_Log_Snap.B0_eq (l : Option Addr) (w : World)   (R : ByteArray → World → Prop)  :
    (
  Pn l fun a =>
  LdP a w fun x6 =>
  Pn x6 fun a_1 =>
  LdS (a_1.add 4) w fun x9 =>
  R x9 w) = kstep Try.prog 10 Try.f82.results.toList (Try.f82.body.getD .skip) (rlogm_Log_Snap.RV R) (kvc Try.prog 10 Try.f82.results.toList (Try.f82.body.getD .skip) (rlogm_Log_Snap.RV R) [] 2000) [(0, [])] [(0, .pointer l)] w := by kernel_rfl
theorem rlogm_Log_Snap.B0_sound {R : ByteArray → World → Prop}  (l : Option Addr) (w : World) (h : rlogm_Log_Snap.B0 l w   R) :
    KW Try.prog 82 10 (rlogm_Log_Snap.RV R) ([(0, [])].map (toItem (Try.f82.body.getD .skip))) [(0, .pointer l)] w := by
  exact block_spec Try.func82 Try.mixed stops_nil (Eq.mp (rlogm_Log_Snap.B0_eq l w   R ) h)
theorem rlogm_Log_Snap.sound (l : Option Addr) (w : World) (R : ByteArray → World → Prop) (h : rlogm_Log_Snap.B0 l w R) : rlogm_Log_Snap.Call l w R := by
  have hc := calls_of_block (args := #[.pointer l]) Try.func82 (body := (Try.f82.body.getD .skip)) (by kernel_rfl) (by kernel_rfl) (args_slot _) (rlogm_Log_Snap.B0_sound l w h)
  exact hc.mono fun e w' he => by
    obtain ⟨v, rfl, hv⟩ := he
    exact rlogm_Log_Snap.RV_elim hv
def rlog_Log_Last.B0 (l : Option Addr) (w : World)   (R : Int → World → Prop) : Prop :=
  Pn l fun a =>
  LdI .i64 (a.add 6) w fun x6 =>
  R x6 w
theorem rlog_Log_Last.B0_eq (l : Option Addr) (w : World)   (R : Int → World → Prop)  :
    (
  Pn l fun a =>
  LdI .i64 (a.add 6) w fun x6 =>
  R x6 w) = kstep Try.prog 7 Try.f83.results.toList (Try.f83.body.getD .skip) (rlog_Log_Last.RV R) (kvc Try.prog 7 Try.f83.results.toList (Try.f83.body.getD .skip) (rlog_Log_Last.RV R) [] 2000) [(0, [])] [(0, .pointer l)] w := by kernel_rfl
theorem rlog_Log_Last.B0_sound {R : Int → World → Prop}  (l : Option Addr) (w : World) (h : rlog_Log_Last.B0 l w   R) :
    KW Try.prog 83 7 (rlog_Log_Last.RV R) ([(0, [])].map (toItem (Try.f83.body.getD .skip))) [(0, .pointer l)] w := by
  exact block_spec Try.func83 Try.mixed stops_nil (Eq.mp (rlog_Log_Last.B0_eq l w   R ) h)
theorem rlog_Log_Last.sound (l : Option Addr) (w : World) (R : Int → World → Prop) (h : rlog_Log_Last.B0 l w R) : rlog_Log_Last.Call l w R := by
  have hc := calls_of_block (args := #[.pointer l]) Try.func83 (body := (Try.f83.body.getD .skip)) (by kernel_rfl) (by kernel_rfl) (args_slot _) (rlog_Log_Last.B0_sound l w h)
  exact hc.mono fun e w' he => by
    obtain ⟨v, rfl, hv⟩ := he
    exact rlog_Log_Last.RV_elim hv
def store_Store_DelRec.B1 (t : Option Addr) (slot : Int) (t11 : Bool) (w : World)   (R : Int → World → Prop) : Prop :=
  Bm t11 (
    R (1 : Int) w) (
    Pn t fun a =>
    (0 ≤ slot ∧ slot < ((6 : Nat) : Int)) ∧
    LdB (Addr.add (a.add 28) (slot.toNat * 1)) w fun x17 =>
    Bm (!x17) (
      R (2 : Int) w) (
      Pn t fun a_1 =>
      (0 ≤ slot ∧ slot < ((6 : Nat) : Int)) ∧
      Pn t fun a_2 =>
      Sts [.bool false] (Addr.add (a_1.add 28) (slot.toNat * 1)) 0 w.drew fun w1 =>
      (0 ≤ slot ∧ slot < ((6 : Nat) : Int)) ∧
      Sts [.int .i64 (0 : Int), .int .i64 (0 : Int), .string (ByteArray.mk #[])] (Addr.add (a_2.add 34) (slot.toNat * 3)) 0 w1 fun w2 =>
      Make 5 (.int .u8 (0 : Int)) 1 1 (64 : Int) (64 : Int) w2 fun b30 w3 =>
      store_Store_write.Call t (IntKind.i64.wrap ((8 : Int) + slot)) (some ⟨b30, 0, none⟩) 64 64 w3 fun w4 =>
      R (0 : Int) w4))
theorem store_Store_DelRec.B1_eq (t : Option Addr) (slot : Int) (t11 : Bool) (w : World)   (R : Int → World → Prop)  :
    (
  Bm t11 (
    R (1 : Int) w) (
    Pn t fun a =>
    (0 ≤ slot ∧ slot < ((6 : Nat) : Int)) ∧
    LdB (Addr.add (a.add 28) (slot.toNat * 1)) w fun x17 =>
    Bm (!x17) (
      R (2 : Int) w) (
      Pn t fun a_1 =>
      (0 ≤ slot ∧ slot < ((6 : Nat) : Int)) ∧
      Pn t fun a_2 =>
      Sts [.bool false] (Addr.add (a_1.add 28) (slot.toNat * 1)) 0 w.drew fun w1 =>
      (0 ≤ slot ∧ slot < ((6 : Nat) : Int)) ∧
      Sts [.int .i64 (0 : Int), .int .i64 (0 : Int), .string (ByteArray.mk #[])] (Addr.add (a_2.add 34) (slot.toNat * 3)) 0 w1 fun w2 =>
      Make 5 (.int .u8 (0 : Int)) 1 1 (64 : Int) (64 : Int) w2 fun b30 w3 =>
      store_Store_write.Call t (IntKind.i64.wrap ((8 : Int) + slot)) (some ⟨b30, 0, none⟩) 64 64 w3 fun w4 =>
      R (0 : Int) w4))) = kstep Try.prog 36 Try.f84.results.toList (Try.f84.body.getD .skip) (store_Store_DelRec.RV R) (kvc Try.prog 36 Try.f84.results.toList (Try.f84.body.getD .skip) (store_Store_DelRec.RV R) [] 2000) [(0, [1, 0, 1]), (0, [1, 1])] [(0, .pointer t), (1, .int .i64 slot), (11, .bool t11)] w := by kernel_rfl
theorem store_Store_DelRec.B1_sound {R : Int → World → Prop}  (t : Option Addr) (slot : Int) (t11 : Bool) (w : World) (h : store_Store_DelRec.B1 t slot t11 w   R) :
    KW Try.prog 84 36 (store_Store_DelRec.RV R) ([(0, [1, 0, 1]), (0, [1, 1])].map (toItem (Try.f84.body.getD .skip))) [(0, .pointer t), (1, .int .i64 slot), (11, .bool t11)] w := by
  exact block_spec Try.func84 Try.mixed stops_nil (Eq.mp (store_Store_DelRec.B1_eq t slot t11 w   R ) h)
def store_Store_DelRec.B0 (t : Option Addr) (slot : Int) (w : World)   (R : Int → World → Prop) : Prop :=
  Bm (decide (slot < (0 : Int))) (
    store_Store_DelRec.B1 t slot true w  R) (
    store_Store_DelRec.B1 t slot (decide (slot ≥ (6 : Int))) w  R)
theorem store_Store_DelRec.B0_eq (t : Option Addr) (slot : Int) (w : World)   (R : Int → World → Prop) (sB1 : Option Addr → Int → Bool → World → Prop) :
    (
  Bm (decide (slot < (0 : Int))) (
    sB1 t slot true w) (
    sB1 t slot (decide (slot ≥ (6 : Int))) w)) = kstep Try.prog 36 Try.f84.results.toList (Try.f84.body.getD .skip) (store_Store_DelRec.RV R) (kvc Try.prog 36 Try.f84.results.toList (Try.f84.body.getD .skip) (store_Store_DelRec.RV R) [([(0, [1, 0, 1]), (0, [1, 1])], fun σ w => dP (slotOf σ 0) fun t_ => dI .i64 (slotOf σ 1) fun slot_ => dB (slotOf σ 11) fun t11_ => sB1 t_ slot_ t11_ w)] 2000) [(0, [])] [(0, .pointer t), (1, .int .i64 slot)] w := by kernel_rfl
theorem store_Store_DelRec.B0_sound {R : Int → World → Prop}  (t : Option Addr) (slot : Int) (w : World) (h : store_Store_DelRec.B0 t slot w   R) :
    KW Try.prog 84 36 (store_Store_DelRec.RV R) ([(0, [])].map (toItem (Try.f84.body.getD .skip))) [(0, .pointer t), (1, .int .i64 slot)] w := by
  exact block_spec Try.func84 Try.mixed (stops_cons (fun σ w h => by
      obtain ⟨t_, e0, h⟩ := dP_elim h
      obtain ⟨slot_, e1, h⟩ := dI_elim h
      obtain ⟨t11_, e2, h⟩ := dB_elim h
      exact (store_Store_DelRec.B1_sound  t_ slot_ t11_ w h).weaken (Sub.cons (Sub.cons (Sub.cons (Sub.nil _) e2) e1) e0)) stops_nil) (Eq.mp (store_Store_DelRec.B0_eq t slot w   R (fun t_ slot_ t11_ w => store_Store_DelRec.B1 t_ slot_ t11_ w  R)) h)
theorem store_Store_DelRec.sound (t : Option Addr) (slot : Int) (w : World) (R : Int → World → Prop) (h : store_Store_DelRec.B0 t slot w R) : store_Store_DelRec.Call t slot w R := by
  have hc := calls_of_block (args := #[.pointer t, .int .i64 slot]) Try.func84 (body := (Try.f84.body.getD .skip)) (by kernel_rfl) (by kernel_rfl) (args_slot _) (store_Store_DelRec.B0_sound t slot w h)
  exact hc.mono fun e w' he => by
    obtain ⟨v, rfl, hv⟩ := he
    exact store_Store_DelRec.RV_elim hv
def diskm_Disk_Read.B1 (d : Option Addr) (b : Int) (t11 : Bool) (w : World)   (R : ByteArray → Int → World → Prop) : Prop :=
  Bm t11 (
    R (ByteArray.mk #[]) (1 : Int) w) (
    Pn d fun a =>
    LdL a w fun x15_b x15_l x15_c =>
    Pn x15_b fun a_1 =>
    (0 ≤ b ∧ b < ((x15_l : Nat) : Int)) ∧
    LdS (Addr.add a_1 (b.toNat * 1)) w fun x18 =>
    R x18 (0 : Int) w)
theorem diskm_Disk_Read.B1_eq (d : Option Addr) (b : Int) (t11 : Bool) (w : World)   (R : ByteArray → Int → World → Prop)  :
    (
  Bm t11 (
    R (ByteArray.mk #[]) (1 : Int) w) (
    Pn d fun a =>
    LdL a w fun x15_b x15_l x15_c =>
    Pn x15_b fun a_1 =>
    (0 ≤ b ∧ b < ((x15_l : Nat) : Int)) ∧
    LdS (Addr.add a_1 (b.toNat * 1)) w fun x18 =>
    R x18 (0 : Int) w)) = kstep Try.prog 19 Try.f85.results.toList (Try.f85.body.getD .skip) (diskm_Disk_Read.RV R) (kvc Try.prog 19 Try.f85.results.toList (Try.f85.body.getD .skip) (diskm_Disk_Read.RV R) [] 2000) [(0, [1, 0, 1]), (0, [1, 1])] [(0, .pointer d), (1, .int .i64 b), (11, .bool t11)] w := by kernel_rfl
theorem diskm_Disk_Read.B1_sound {R : ByteArray → Int → World → Prop}  (d : Option Addr) (b : Int) (t11 : Bool) (w : World) (h : diskm_Disk_Read.B1 d b t11 w   R) :
    KW Try.prog 85 19 (diskm_Disk_Read.RV R) ([(0, [1, 0, 1]), (0, [1, 1])].map (toItem (Try.f85.body.getD .skip))) [(0, .pointer d), (1, .int .i64 b), (11, .bool t11)] w := by
  exact block_spec Try.func85 Try.mixed stops_nil (Eq.mp (diskm_Disk_Read.B1_eq d b t11 w   R ) h)
def diskm_Disk_Read.B0 (d : Option Addr) (b : Int) (w : World)   (R : ByteArray → Int → World → Prop) : Prop :=
  Bm (decide (b < (0 : Int))) (
    diskm_Disk_Read.B1 d b true w  R) (
    diskm_Disk_Read.B1 d b (decide (b ≥ (14 : Int))) w  R)
theorem diskm_Disk_Read.B0_eq (d : Option Addr) (b : Int) (w : World)   (R : ByteArray → Int → World → Prop) (sB1 : Option Addr → Int → Bool → World → Prop) :
    (
  Bm (decide (b < (0 : Int))) (
    sB1 d b true w) (
    sB1 d b (decide (b ≥ (14 : Int))) w)) = kstep Try.prog 19 Try.f85.results.toList (Try.f85.body.getD .skip) (diskm_Disk_Read.RV R) (kvc Try.prog 19 Try.f85.results.toList (Try.f85.body.getD .skip) (diskm_Disk_Read.RV R) [([(0, [1, 0, 1]), (0, [1, 1])], fun σ w => dP (slotOf σ 0) fun d_ => dI .i64 (slotOf σ 1) fun b_ => dB (slotOf σ 11) fun t11_ => sB1 d_ b_ t11_ w)] 2000) [(0, [])] [(0, .pointer d), (1, .int .i64 b)] w := by kernel_rfl
theorem diskm_Disk_Read.B0_sound {R : ByteArray → Int → World → Prop}  (d : Option Addr) (b : Int) (w : World) (h : diskm_Disk_Read.B0 d b w   R) :
    KW Try.prog 85 19 (diskm_Disk_Read.RV R) ([(0, [])].map (toItem (Try.f85.body.getD .skip))) [(0, .pointer d), (1, .int .i64 b)] w := by
  exact block_spec Try.func85 Try.mixed (stops_cons (fun σ w h => by
      obtain ⟨d_, e0, h⟩ := dP_elim h
      obtain ⟨b_, e1, h⟩ := dI_elim h
      obtain ⟨t11_, e2, h⟩ := dB_elim h
      exact (diskm_Disk_Read.B1_sound  d_ b_ t11_ w h).weaken (Sub.cons (Sub.cons (Sub.cons (Sub.nil _) e2) e1) e0)) stops_nil) (Eq.mp (diskm_Disk_Read.B0_eq d b w   R (fun d_ b_ t11_ w => diskm_Disk_Read.B1 d_ b_ t11_ w  R)) h)
theorem diskm_Disk_Read.sound (d : Option Addr) (b : Int) (w : World) (R : ByteArray → Int → World → Prop) (h : diskm_Disk_Read.B0 d b w R) : diskm_Disk_Read.Call d b w R := by
  have hc := calls_of_block (args := #[.pointer d, .int .i64 b]) Try.func85 (body := (Try.f85.body.getD .skip)) (by kernel_rfl) (by kernel_rfl) (args_slot _) (diskm_Disk_Read.B0_sound d b w h)
  exact hc.mono fun e w' he => by
    obtain ⟨v, rfl, hv⟩ := he
    exact diskm_Disk_Read.RV_elim hv
def store_whole.B0 (b : ByteArray) (w : World)   (R : Bool → World → Prop) : Prop :=
  (0 ≤ (0 : Int) ∧ (0 : Int) < ((b.size : Nat) : Int)) ∧
  (0 ≤ (63 : Int) ∧ (63 : Int) < ((b.size : Nat) : Int)) ∧
  Bm ((byteAt b (0 : Int)) == (byteAt b (63 : Int))) (
    (0 ≤ (0 : Int) ∧ (0 : Int) < ((b.size : Nat) : Int)) ∧
    R ((byteAt b (0 : Int)) != (0 : Int)) w.drew) (
    R false w.drew)
theorem store_whole.B0_eq (b : ByteArray) (w : World)   (R : Bool → World → Prop)  :
    (
  (0 ≤ (0 : Int) ∧ (0 : Int) < ((b.size : Nat) : Int)) ∧
  (0 ≤ (63 : Int) ∧ (63 : Int) < ((b.size : Nat) : Int)) ∧
  Bm ((byteAt b (0 : Int)) == (byteAt b (63 : Int))) (
    (0 ≤ (0 : Int) ∧ (0 : Int) < ((b.size : Nat) : Int)) ∧
    R ((byteAt b (0 : Int)) != (0 : Int)) w.drew) (
    R false w.drew)) = kstep Try.prog 13 Try.f86.results.toList (Try.f86.body.getD .skip) (store_whole.RV R) (kvc Try.prog 13 Try.f86.results.toList (Try.f86.body.getD .skip) (store_whole.RV R) [] 2000) [(0, [])] [(0, .string b)] w := by kernel_rfl
theorem store_whole.B0_sound {R : Bool → World → Prop}  (b : ByteArray) (w : World) (h : store_whole.B0 b w   R) :
    KW Try.prog 86 13 (store_whole.RV R) ([(0, [])].map (toItem (Try.f86.body.getD .skip))) [(0, .string b)] w := by
  exact block_spec Try.func86 Try.mixed stops_nil (Eq.mp (store_whole.B0_eq b w   R ) h)
theorem store_whole.sound (b : ByteArray) (w : World) (R : Bool → World → Prop) (h : store_whole.B0 b w R) : store_whole.Call b w R := by
  have hc := calls_of_block (args := #[.string b]) Try.func86 (body := (Try.f86.body.getD .skip)) (by kernel_rfl) (by kernel_rfl) (args_slot _) (store_whole.B0_sound b w h)
  exact hc.mono fun e w' he => by
    obtain ⟨v, rfl, hv⟩ := he
    exact store_whole.RV_elim hv
def store_get8.L1b (b : ByteArray) (at0 v i : Int) (w : World)  (N1 : ByteArray → Int → Int → Int → World → Prop) (R : Int → World → Prop) : Prop :=
  Bm (decide (i < (8 : Int))) (
    0 ≤ (8 : Int) ∧
    (0 ≤ (IntKind.i64.wrap (at0 + i)) ∧ (IntKind.i64.wrap (at0 + i)) < ((b.size : Nat) : Int)) ∧
    N1 b at0 (IntKind.i64.wrap (BitVec.ofInt IntKind.i64.bits (IntKind.i64.wrap (v * 2 ^ (min (8 : Int).toNat IntKind.i64.bits))) ||| BitVec.ofInt IntKind.i64.bits (IntKind.i64.wrap (byteAt b (IntKind.i64.wrap (at0 + i))))).toNat) (IntKind.i64.wrap (i + (1 : Int))) w) (
    R v w)
theorem store_get8.L1b_eq (b : ByteArray) (at0 v i : Int) (w : World)  (N1 : ByteArray → Int → Int → Int → World → Prop) (R : Int → World → Prop)  :
    (
  Bm (decide (i < (8 : Int))) (
    0 ≤ (8 : Int) ∧
    (0 ≤ (IntKind.i64.wrap (at0 + i)) ∧ (IntKind.i64.wrap (at0 + i)) < ((b.size : Nat) : Int)) ∧
    N1 b at0 (IntKind.i64.wrap (BitVec.ofInt IntKind.i64.bits (IntKind.i64.wrap (v * 2 ^ (min (8 : Int).toNat IntKind.i64.bits))) ||| BitVec.ofInt IntKind.i64.bits (IntKind.i64.wrap (byteAt b (IntKind.i64.wrap (at0 + i))))).toNat) (IntKind.i64.wrap (i + (1 : Int))) w) (
    R v w)) = kstep Try.prog 21 Try.f87.results.toList (Try.f87.body.getD .skip) (store_get8.RV R) (kvc Try.prog 21 Try.f87.results.toList (Try.f87.body.getD .skip) (store_get8.RV R) [([(0, [1, 1, 0, 1, 0, 0]), (2, [1, 1, 0, 1, 0, 0]), (1, [0]), (0, [1, 1, 1])], fun σ w => dS (slotOf σ 0) fun b_ => dI .i64 (slotOf σ 1) fun at0_ => dI .i64 (slotOf σ 5) fun v_ => dI .i64 (slotOf σ 6) fun i_ => N1 b_ at0_ v_ i_ w)] 2000) [(0, [1, 1, 0, 1, 0, 0]), (2, [1, 1, 0, 1, 0, 0]), (1, [0]), (0, [1, 1, 1])] [(0, .string b), (1, .int .i64 at0), (5, .int .i64 v), (6, .int .i64 i)] w := by kernel_rfl
theorem store_get8.L1b_sound {R : Int → World → Prop} {N1 : ByteArray → Int → Int → Int → World → Prop} (hN1 : ∀ b at0 v i w, N1 b at0 v i w → KW Try.prog 87 21 (store_get8.RV R) ([(0, [1, 1, 0, 1, 0, 0]), (2, [1, 1, 0, 1, 0, 0]), (1, [0]), (0, [1, 1, 1])].map (toItem (Try.f87.body.getD .skip))) [(0, .string b), (1, .int .i64 at0), (5, .int .i64 v), (6, .int .i64 i)] w) (b : ByteArray) (at0 v i : Int) (w : World) (h : store_get8.L1b b at0 v i w  N1 R) :
    KW Try.prog 87 21 (store_get8.RV R) ([(0, [1, 1, 0, 1, 0, 0]), (2, [1, 1, 0, 1, 0, 0]), (1, [0]), (0, [1, 1, 1])].map (toItem (Try.f87.body.getD .skip))) [(0, .string b), (1, .int .i64 at0), (5, .int .i64 v), (6, .int .i64 i)] w := by
  exact block_spec Try.func87 Try.mixed (stops_cons (fun σ w h => by
      obtain ⟨b_, e0, h⟩ := dS_elim h
      obtain ⟨at0_, e1, h⟩ := dI_elim h
      obtain ⟨v_, e2, h⟩ := dI_elim h
      obtain ⟨i_, e3, h⟩ := dI_elim h
      exact (hN1 b_ at0_ v_ i_ w h).weaken (Sub.cons (Sub.cons (Sub.cons (Sub.cons (Sub.nil _) e3) e2) e1) e0)) stops_nil) (Eq.mp (store_get8.L1b_eq b at0 v i w  N1 R ) h)
def store_get8.L1 (b : ByteArray) (at0 v i : Int) (w : World)  (R : Int → World → Prop) : Prop :=
  ∃ (I : Nat → ByteArray → Int → Int → Int → World → Prop) (m : Nat), I m b at0 v i w ∧ ∀ m b at0 v i w, I m b at0 v i w → store_get8.L1b b at0 v i w  (fun b' at0' v' i' w' => ∃ m', m' < m ∧ I m' b' at0' v' i' w') R
theorem store_get8.L1_sound {R : Int → World → Prop}  (b : ByteArray) (at0 v i : Int) (w : World) (h : store_get8.L1 b at0 v i w  R) :
    KW Try.prog 87 21 (store_get8.RV R) ([(0, [1, 1, 0, 1, 0, 0]), (2, [1, 1, 0, 1, 0, 0]), (1, [0]), (0, [1, 1, 1])].map (toItem (Try.f87.body.getD .skip))) [(0, .string b), (1, .int .i64 at0), (5, .int .i64 v), (6, .int .i64 i)] w := by
  obtain ⟨I, m, hBase, hr⟩ := h
  refine KW.loop (fun m σ w => ∃ (b : ByteArray) (at0 v i : Int), σ = [(0, .string b), (1, .int .i64 at0), (5, .int .i64 v), (6, .int .i64 i)] ∧ I m b at0 v i w) ?_ m _ w ⟨b, at0, v, i, rfl, hBase⟩
  rintro m ih σ w ⟨b, at0, v, i, rfl, hI⟩
  exact store_get8.L1b_sound  (N1 := fun b' at0' v' i' w' => ∃ m', m' < m ∧ I m' b' at0' v' i' w') (fun b' at0' v' i' w' hx => by obtain ⟨m', hlt, hI'⟩ := hx; exact ih m' hlt _ w' ⟨b', at0', v', i', rfl, hI'⟩) b at0 v i w (hr m b at0 v i w hI)
def store_get8.B0 (b : ByteArray) (at0 : Int) (w : World)   (R : Int → World → Prop) : Prop :=
  store_get8.L1 b at0 (0 : Int) (0 : Int) w  R
theorem store_get8.B0_eq (b : ByteArray) (at0 : Int) (w : World)   (R : Int → World → Prop) (sL1 : ByteArray → Int → Int → Int → World → Prop) :
    (
  sL1 b at0 (0 : Int) (0 : Int) w) = kstep Try.prog 21 Try.f87.results.toList (Try.f87.body.getD .skip) (store_get8.RV R) (kvc Try.prog 21 Try.f87.results.toList (Try.f87.body.getD .skip) (store_get8.RV R) [([(0, [1, 1, 0, 1, 0, 0]), (2, [1, 1, 0, 1, 0, 0]), (1, [0]), (0, [1, 1, 1])], fun σ w => dS (slotOf σ 0) fun b_ => dI .i64 (slotOf σ 1) fun at0_ => dI .i64 (slotOf σ 5) fun v_ => dI .i64 (slotOf σ 6) fun i_ => sL1 b_ at0_ v_ i_ w)] 2000) [(0, [])] [(0, .string b), (1, .int .i64 at0)] w := by kernel_rfl
theorem store_get8.B0_sound {R : Int → World → Prop}  (b : ByteArray) (at0 : Int) (w : World) (h : store_get8.B0 b at0 w   R) :
    KW Try.prog 87 21 (store_get8.RV R) ([(0, [])].map (toItem (Try.f87.body.getD .skip))) [(0, .string b), (1, .int .i64 at0)] w := by
  exact block_spec Try.func87 Try.mixed (stops_cons (fun σ w h => by
      obtain ⟨b_, e0, h⟩ := dS_elim h
      obtain ⟨at0_, e1, h⟩ := dI_elim h
      obtain ⟨v_, e2, h⟩ := dI_elim h
      obtain ⟨i_, e3, h⟩ := dI_elim h
      exact (store_get8.L1_sound  b_ at0_ v_ i_ w h).weaken (Sub.cons (Sub.cons (Sub.cons (Sub.cons (Sub.nil _) e3) e2) e1) e0)) stops_nil) (Eq.mp (store_get8.B0_eq b at0 w   R (fun b_ at0_ v_ i_ w => store_get8.L1 b_ at0_ v_ i_ w  R)) h)
theorem store_get8.sound (b : ByteArray) (at0 : Int) (w : World) (R : Int → World → Prop) (h : store_get8.B0 b at0 w R) : store_get8.Call b at0 w R := by
  have hc := calls_of_block (args := #[.string b, .int .i64 at0]) Try.func87 (body := (Try.f87.body.getD .skip)) (by kernel_rfl) (by kernel_rfl) (args_slot _) (store_get8.B0_sound b at0 w h)
  exact hc.mono fun e w' he => by
    obtain ⟨v, rfl, hv⟩ := he
    exact store_get8.RV_elim hv
def store_Store_SetMeta.B1 (t : Option Addr) (term vote : Int) (t21 : Bool) (w : World)   (R : Int → World → Prop) : Prop :=
  Bm t21 (
    R (1 : Int) w) (
    Pn t fun a =>
    LdI .i64 ((a.add 15).add 1) w fun x27 =>
    Pn t fun a_1 =>
    Sts [.bool true, .int .i64 (IntKind.i64.wrap (x27 + (1 : Int))), .int .i64 term, .int .i64 vote] (a_1.add 15) 0 w fun w1 =>
    Pn t fun a_2 =>
    LdI .i64 (a_2.add 19) w1 fun x38 =>
    Pn t fun a_3 =>
    Sts [.int .i64 (IntKind.i64.wrap ((1 : Int) - x38))] (a_3.add 19) 0 w1 fun w2 =>
    Pn t fun a_4 =>
    LdB (a_4.add 15) w2 fun x45_0 =>
    LdI .i64 ((a_4.add 15).add 1) w2 fun x45_1 =>
    LdI .i64 ((a_4.add 15).add 2) w2 fun x45_2 =>
    LdI .i64 ((a_4.add 15).add 3) w2 fun x45_3 =>
    store_encMeta.Call x45_0 x45_1 x45_2 x45_3 w2 fun r46_b r46_l r46_c w3 =>
    Pn t fun a_5 =>
    LdI .i64 (a_5.add 19) w3 fun x51 =>
    store_Store_write.Call t (IntKind.i64.wrap ((0 : Int) + x51)) r46_b r46_l r46_c w3 fun w4 =>
    R (0 : Int) w4)
theorem store_Store_SetMeta.B1_eq (t : Option Addr) (term vote : Int) (t21 : Bool) (w : World)   (R : Int → World → Prop)  :
    (
  Bm t21 (
    R (1 : Int) w) (
    Pn t fun a =>
    LdI .i64 ((a.add 15).add 1) w fun x27 =>
    Pn t fun a_1 =>
    Sts [.bool true, .int .i64 (IntKind.i64.wrap (x27 + (1 : Int))), .int .i64 term, .int .i64 vote] (a_1.add 15) 0 w fun w1 =>
    Pn t fun a_2 =>
    LdI .i64 (a_2.add 19) w1 fun x38 =>
    Pn t fun a_3 =>
    Sts [.int .i64 (IntKind.i64.wrap ((1 : Int) - x38))] (a_3.add 19) 0 w1 fun w2 =>
    Pn t fun a_4 =>
    LdB (a_4.add 15) w2 fun x45_0 =>
    LdI .i64 ((a_4.add 15).add 1) w2 fun x45_1 =>
    LdI .i64 ((a_4.add 15).add 2) w2 fun x45_2 =>
    LdI .i64 ((a_4.add 15).add 3) w2 fun x45_3 =>
    store_encMeta.Call x45_0 x45_1 x45_2 x45_3 w2 fun r46_b r46_l r46_c w3 =>
    Pn t fun a_5 =>
    LdI .i64 (a_5.add 19) w3 fun x51 =>
    store_Store_write.Call t (IntKind.i64.wrap ((0 : Int) + x51)) r46_b r46_l r46_c w3 fun w4 =>
    R (0 : Int) w4)) = kstep Try.prog 55 Try.f88.results.toList (Try.f88.body.getD .skip) (store_Store_SetMeta.RV R) (kvc Try.prog 55 Try.f88.results.toList (Try.f88.body.getD .skip) (store_Store_SetMeta.RV R) [] 2000) [(0, [1, 0, 1]), (0, [1, 1])] [(0, .pointer t), (1, .int .i64 term), (2, .int .i64 vote), (21, .bool t21)] w := by kernel_rfl
theorem store_Store_SetMeta.B1_sound {R : Int → World → Prop}  (t : Option Addr) (term vote : Int) (t21 : Bool) (w : World) (h : store_Store_SetMeta.B1 t term vote t21 w   R) :
    KW Try.prog 88 55 (store_Store_SetMeta.RV R) ([(0, [1, 0, 1]), (0, [1, 1])].map (toItem (Try.f88.body.getD .skip))) [(0, .pointer t), (1, .int .i64 term), (2, .int .i64 vote), (21, .bool t21)] w := by
  exact block_spec Try.func88 Try.mixed stops_nil (Eq.mp (store_Store_SetMeta.B1_eq t term vote t21 w   R ) h)
def store_Store_SetMeta.B0 (t : Option Addr) (term vote : Int) (w : World)   (R : Int → World → Prop) : Prop :=
  Bm (decide (term < (0 : Int))) (
    store_Store_SetMeta.B1 t term vote true w  R) (
    Bm (decide (term > (72057594037927936 : Int))) (
      store_Store_SetMeta.B1 t term vote true w  R) (
      Bm (decide (vote < (-1 : Int))) (
        store_Store_SetMeta.B1 t term vote true w  R) (
        store_Store_SetMeta.B1 t term vote (decide (vote ≥ (3 : Int))) w  R)))
theorem store_Store_SetMeta.B0_eq (t : Option Addr) (term vote : Int) (w : World)   (R : Int → World → Prop) (sB1 : Option Addr → Int → Int → Bool → World → Prop) :
    (
  Bm (decide (term < (0 : Int))) (
    sB1 t term vote true w) (
    Bm (decide (term > (72057594037927936 : Int))) (
      sB1 t term vote true w) (
      Bm (decide (vote < (-1 : Int))) (
        sB1 t term vote true w) (
        sB1 t term vote (decide (vote ≥ (3 : Int))) w)))) = kstep Try.prog 55 Try.f88.results.toList (Try.f88.body.getD .skip) (store_Store_SetMeta.RV R) (kvc Try.prog 55 Try.f88.results.toList (Try.f88.body.getD .skip) (store_Store_SetMeta.RV R) [([(0, [1, 0, 1]), (0, [1, 1])], fun σ w => dP (slotOf σ 0) fun t_ => dI .i64 (slotOf σ 1) fun term_ => dI .i64 (slotOf σ 2) fun vote_ => dB (slotOf σ 21) fun t21_ => sB1 t_ term_ vote_ t21_ w)] 2000) [(0, [])] [(0, .pointer t), (1, .int .i64 term), (2, .int .i64 vote)] w := by kernel_rfl
theorem store_Store_SetMeta.B0_sound {R : Int → World → Prop}  (t : Option Addr) (term vote : Int) (w : World) (h : store_Store_SetMeta.B0 t term vote w   R) :
    KW Try.prog 88 55 (store_Store_SetMeta.RV R) ([(0, [])].map (toItem (Try.f88.body.getD .skip))) [(0, .pointer t), (1, .int .i64 term), (2, .int .i64 vote)] w := by
  exact block_spec Try.func88 Try.mixed (stops_cons (fun σ w h => by
      obtain ⟨t_, e0, h⟩ := dP_elim h
      obtain ⟨term_, e1, h⟩ := dI_elim h
      obtain ⟨vote_, e2, h⟩ := dI_elim h
      obtain ⟨t21_, e3, h⟩ := dB_elim h
      exact (store_Store_SetMeta.B1_sound  t_ term_ vote_ t21_ w h).weaken (Sub.cons (Sub.cons (Sub.cons (Sub.cons (Sub.nil _) e3) e2) e1) e0)) stops_nil) (Eq.mp (store_Store_SetMeta.B0_eq t term vote w   R (fun t_ term_ vote_ t21_ w => store_Store_SetMeta.B1 t_ term_ vote_ t21_ w  R)) h)
theorem store_Store_SetMeta.sound (t : Option Addr) (term vote : Int) (w : World) (R : Int → World → Prop) (h : store_Store_SetMeta.B0 t term vote w R) : store_Store_SetMeta.Call t term vote w R := by
  have hc := calls_of_block (args := #[.pointer t, .int .i64 term, .int .i64 vote]) Try.func88 (body := (Try.f88.body.getD .skip)) (by kernel_rfl) (by kernel_rfl) (args_slot _) (store_Store_SetMeta.B0_sound t term vote w h)
  exact hc.mono fun e w' he => by
    obtain ⟨v, rfl, hv⟩ := he
    exact store_Store_SetMeta.RV_elim hv
def rlogm_Log_step.B0 (l : Option Addr) (w : World)   (R : World → Prop) : Prop :=
  Pn l fun a =>
  LdP a w fun x6 =>
  rlogm_state_clone.Call x6 w fun r7 w1 =>
  Pn l fun a_1 =>
  LdL (a_1.add 2) w1 fun x12_b x12_l x12_c =>
  New (.cells #[.pointer r7] 52) w1 fun b14 w2 =>
  Append 52 (.pointer none) 1 8 x12_b x12_l x12_c (some ⟨b14, 0, none⟩) 1 w2 fun b15 c15 w3 =>
  Pn l fun a_2 =>
  Sts [.slice b15 (x12_l + 1) c15] (a_2.add 2) 0 w3 fun w4 =>
  R  w4
theorem rlogm_Log_step.B0_eq (l : Option Addr) (w : World)   (R : World → Prop)  :
    (
  Pn l fun a =>
  LdP a w fun x6 =>
  rlogm_state_clone.Call x6 w fun r7 w1 =>
  Pn l fun a_1 =>
  LdL (a_1.add 2) w1 fun x12_b x12_l x12_c =>
  New (.cells #[.pointer r7] 52) w1 fun b14 w2 =>
  Append 52 (.pointer none) 1 8 x12_b x12_l x12_c (some ⟨b14, 0, none⟩) 1 w2 fun b15 c15 w3 =>
  Pn l fun a_2 =>
  Sts [.slice b15 (x12_l + 1) c15] (a_2.add 2) 0 w3 fun w4 =>
  R  w4) = kstep Try.prog 18 Try.f89.results.toList (Try.f89.body.getD .skip) (rlogm_Log_step.RV R) (kvc Try.prog 18 Try.f89.results.toList (Try.f89.body.getD .skip) (rlogm_Log_step.RV R) [] 2000) [(0, [])] [(0, .pointer l)] w := by kernel_rfl
theorem rlogm_Log_step.B0_sound {R : World → Prop}  (l : Option Addr) (w : World) (h : rlogm_Log_step.B0 l w   R) :
    KW Try.prog 89 18 (rlogm_Log_step.RV R) ([(0, [])].map (toItem (Try.f89.body.getD .skip))) [(0, .pointer l)] w := by
  exact block_spec Try.func89 Try.mixed stops_nil (Eq.mp (rlogm_Log_step.B0_eq l w   R ) h)
theorem rlogm_Log_step.sound (l : Option Addr) (w : World) (R : World → Prop) (h : rlogm_Log_step.B0 l w R) : rlogm_Log_step.Call l w R := by
  have hc := calls_of_block (args := #[.pointer l]) Try.func89 (body := (Try.f89.body.getD .skip)) (by kernel_rfl) (by kernel_rfl) (args_slot _) (rlogm_Log_step.B0_sound l w h)
  exact hc.mono fun e w' he => by
    obtain ⟨v, rfl, hv⟩ := he
    exact rlogm_Log_step.RV_elim hv
def store_Store_PutRec.B2 (t : Option Addr) (slot : Int) (r : Nat) (t37 : Bool) (w : World)   (R : Int → World → Prop) : Prop :=
  Bm t37 (
    R (4 : Int) w) (
    Pn t fun a =>
    (0 ≤ slot ∧ slot < ((6 : Nat) : Int)) ∧
    LdB (Addr.add (a.add 28) (slot.toNat * 1)) w fun x43 =>
    Bm x43 (
      R (3 : Int) w) (
      LdI .i64 ⟨r, 0, none⟩ w.drew fun x48_0 =>
      LdI .i64 ⟨r, 1, none⟩ w.drew fun x48_1 =>
      LdS ⟨r, 2, none⟩ w.drew fun x48_2 =>
      Pn t fun a_1 =>
      (0 ≤ slot ∧ slot < ((6 : Nat) : Int)) ∧
      Pn t fun a_2 =>
      Sts [.bool true] (Addr.add (a_1.add 28) (slot.toNat * 1)) 0 w.drew fun w1 =>
      w1.cell? ⟨r, 0, none⟩ = some (.int .i64 x48_0) ∧
      w1.cell? ⟨r, 1, none⟩ = some (.int .i64 x48_1) ∧
      w1.cell? ⟨r, 2, none⟩ = some (.string x48_2) ∧
      (0 ≤ slot ∧ slot < ((6 : Nat) : Int)) ∧
      Sts [.int .i64 x48_0, .int .i64 x48_1, .string x48_2] (Addr.add (a_2.add 34) (slot.toNat * 3)) 0 w1 fun w2 =>
      LdI .i64 ⟨r, 0, none⟩ w2 fun x55_0 =>
      LdI .i64 ⟨r, 1, none⟩ w2 fun x55_1 =>
      LdS ⟨r, 2, none⟩ w2 fun x55_2 =>
      store_encRec.Call x55_0 x55_1 x55_2 w2 fun r56_b r56_l r56_c w3 =>
      store_Store_write.Call t (IntKind.i64.wrap ((8 : Int) + slot)) r56_b r56_l r56_c w3 fun w4 =>
      R (0 : Int) w4))
theorem store_Store_PutRec.B2_eq (t : Option Addr) (slot : Int) (r : Nat) (t37 : Bool) (w : World)   (R : Int → World → Prop)  :
    (
  Bm t37 (
    R (4 : Int) w) (
    Pn t fun a =>
    (0 ≤ slot ∧ slot < ((6 : Nat) : Int)) ∧
    LdB (Addr.add (a.add 28) (slot.toNat * 1)) w fun x43 =>
    Bm x43 (
      R (3 : Int) w) (
      LdI .i64 ⟨r, 0, none⟩ w.drew fun x48_0 =>
      LdI .i64 ⟨r, 1, none⟩ w.drew fun x48_1 =>
      LdS ⟨r, 2, none⟩ w.drew fun x48_2 =>
      Pn t fun a_1 =>
      (0 ≤ slot ∧ slot < ((6 : Nat) : Int)) ∧
      Pn t fun a_2 =>
      Sts [.bool true] (Addr.add (a_1.add 28) (slot.toNat * 1)) 0 w.drew fun w1 =>
      w1.cell? ⟨r, 0, none⟩ = some (.int .i64 x48_0) ∧
      w1.cell? ⟨r, 1, none⟩ = some (.int .i64 x48_1) ∧
      w1.cell? ⟨r, 2, none⟩ = some (.string x48_2) ∧
      (0 ≤ slot ∧ slot < ((6 : Nat) : Int)) ∧
      Sts [.int .i64 x48_0, .int .i64 x48_1, .string x48_2] (Addr.add (a_2.add 34) (slot.toNat * 3)) 0 w1 fun w2 =>
      LdI .i64 ⟨r, 0, none⟩ w2 fun x55_0 =>
      LdI .i64 ⟨r, 1, none⟩ w2 fun x55_1 =>
      LdS ⟨r, 2, none⟩ w2 fun x55_2 =>
      store_encRec.Call x55_0 x55_1 x55_2 w2 fun r56_b r56_l r56_c w3 =>
      store_Store_write.Call t (IntKind.i64.wrap ((8 : Int) + slot)) r56_b r56_l r56_c w3 fun w4 =>
      R (0 : Int) w4))) = kstep Try.prog 62 Try.f90.results.toList (Try.f90.body.getD .skip) (store_Store_PutRec.RV R) (kvc Try.prog 62 Try.f90.results.toList (Try.f90.body.getD .skip) (store_Store_PutRec.RV R) [] 2000) [(0, [1, 1, 0, 1]), (0, [1, 1, 1])] [(0, .pointer t), (1, .int .i64 slot), (5, .pointer (some ⟨r, 0, none⟩)), (37, .bool t37)] w := by kernel_rfl
theorem store_Store_PutRec.B2_sound {R : Int → World → Prop}  (t : Option Addr) (slot : Int) (r : Nat) (t37 : Bool) (w : World) (h : store_Store_PutRec.B2 t slot r t37 w   R) :
    KW Try.prog 90 62 (store_Store_PutRec.RV R) ([(0, [1, 1, 0, 1]), (0, [1, 1, 1])].map (toItem (Try.f90.body.getD .skip))) [(0, .pointer t), (1, .int .i64 slot), (5, .pointer (some ⟨r, 0, none⟩)), (37, .bool t37)] w := by
  exact block_spec Try.func90 Try.mixed stops_nil (Eq.mp (store_Store_PutRec.B2_eq t slot r t37 w   R ) h)
def store_Store_PutRec.B1 (t : Option Addr) (slot : Int) (r : Nat) (t13 : Bool) (w : World)   (R : Int → World → Prop) : Prop :=
  Bm t13 (
    R (1 : Int) w) (
    LdI .i64 ⟨r, 0, none⟩ w fun x15 =>
    Bm (decide (x15 < (1 : Int))) (
      store_Store_PutRec.B2 t slot r true w  R) (
      LdI .i64 ⟨r, 0, none⟩ w fun x19 =>
      Bm (decide (x19 > (72057594037927936 : Int))) (
        store_Store_PutRec.B2 t slot r true w  R) (
        LdI .i64 ⟨r, 1, none⟩ w fun x24 =>
        Bm (decide (x24 < (0 : Int))) (
          store_Store_PutRec.B2 t slot r true w  R) (
          LdI .i64 ⟨r, 1, none⟩ w fun x29 =>
          Bm (decide (x29 > (72057594037927936 : Int))) (
            store_Store_PutRec.B2 t slot r true w  R) (
            LdS ⟨r, 2, none⟩ w fun x34 =>
            store_Store_PutRec.B2 t slot r (decide (((x34.size : Nat) : Int) > (24 : Int))) w  R)))))
theorem store_Store_PutRec.B1_eq (t : Option Addr) (slot : Int) (r : Nat) (t13 : Bool) (w : World)   (R : Int → World → Prop) (sB2 : Option Addr → Int → Nat → Bool → World → Prop) :
    (
  Bm t13 (
    R (1 : Int) w) (
    LdI .i64 ⟨r, 0, none⟩ w fun x15 =>
    Bm (decide (x15 < (1 : Int))) (
      sB2 t slot r true w) (
      LdI .i64 ⟨r, 0, none⟩ w fun x19 =>
      Bm (decide (x19 > (72057594037927936 : Int))) (
        sB2 t slot r true w) (
        LdI .i64 ⟨r, 1, none⟩ w fun x24 =>
        Bm (decide (x24 < (0 : Int))) (
          sB2 t slot r true w) (
          LdI .i64 ⟨r, 1, none⟩ w fun x29 =>
          Bm (decide (x29 > (72057594037927936 : Int))) (
            sB2 t slot r true w) (
            LdS ⟨r, 2, none⟩ w fun x34 =>
            sB2 t slot r (decide (((x34.size : Nat) : Int) > (24 : Int))) w)))))) = kstep Try.prog 62 Try.f90.results.toList (Try.f90.body.getD .skip) (store_Store_PutRec.RV R) (kvc Try.prog 62 Try.f90.results.toList (Try.f90.body.getD .skip) (store_Store_PutRec.RV R) [([(0, [1, 1, 0, 1]), (0, [1, 1, 1])], fun σ w => dP (slotOf σ 0) fun t_ => dI .i64 (slotOf σ 1) fun slot_ => dK (slotOf σ 5) fun r_ => dB (slotOf σ 37) fun t37_ => sB2 t_ slot_ r_ t37_ w)] 2000) [(0, [1, 0, 1]), (0, [1, 1])] [(0, .pointer t), (1, .int .i64 slot), (5, .pointer (some ⟨r, 0, none⟩)), (13, .bool t13)] w := by kernel_rfl
theorem store_Store_PutRec.B1_sound {R : Int → World → Prop}  (t : Option Addr) (slot : Int) (r : Nat) (t13 : Bool) (w : World) (h : store_Store_PutRec.B1 t slot r t13 w   R) :
    KW Try.prog 90 62 (store_Store_PutRec.RV R) ([(0, [1, 0, 1]), (0, [1, 1])].map (toItem (Try.f90.body.getD .skip))) [(0, .pointer t), (1, .int .i64 slot), (5, .pointer (some ⟨r, 0, none⟩)), (13, .bool t13)] w := by
  exact block_spec Try.func90 Try.mixed (stops_cons (fun σ w h => by
      obtain ⟨t_, e0, h⟩ := dP_elim h
      obtain ⟨slot_, e1, h⟩ := dI_elim h
      obtain ⟨r_, e2, h⟩ := dK_elim h
      obtain ⟨t37_, e3, h⟩ := dB_elim h
      exact (store_Store_PutRec.B2_sound  t_ slot_ r_ t37_ w h).weaken (Sub.cons (Sub.cons (Sub.cons (Sub.cons (Sub.nil _) e3) e2) e1) e0)) stops_nil) (Eq.mp (store_Store_PutRec.B1_eq t slot r t13 w   R (fun t_ slot_ r_ t37_ w => store_Store_PutRec.B2 t_ slot_ r_ t37_ w  R)) h)
def store_Store_PutRec.B0 (t : Option Addr) (slot r_0 r_1 : Int) (r_2 : ByteArray) (w : World)   (R : Int → World → Prop) : Prop :=
  New (.cells #[.int .i64 r_0, .int .i64 r_1, .string r_2] 72) w fun r_ w1 =>
  Bm (decide (slot < (0 : Int))) (
    store_Store_PutRec.B1 t slot r_ true w1  R) (
    store_Store_PutRec.B1 t slot r_ (decide (slot ≥ (6 : Int))) w1  R)
theorem store_Store_PutRec.B0_eq (t : Option Addr) (slot r_0 r_1 : Int) (r_2 : ByteArray) (w : World)   (R : Int → World → Prop) (sB1 : Option Addr → Int → Nat → Bool → World → Prop) :
    (
  New (.cells #[.int .i64 r_0, .int .i64 r_1, .string r_2] 72) w fun r_ w1 =>
  Bm (decide (slot < (0 : Int))) (
    sB1 t slot r_ true w1) (
    sB1 t slot r_ (decide (slot ≥ (6 : Int))) w1)) = kstep Try.prog 62 Try.f90.results.toList (Try.f90.body.getD .skip) (store_Store_PutRec.RV R) (kvc Try.prog 62 Try.f90.results.toList (Try.f90.body.getD .skip) (store_Store_PutRec.RV R) [([(0, [1, 0, 1]), (0, [1, 1])], fun σ w => dP (slotOf σ 0) fun t_ => dI .i64 (slotOf σ 1) fun slot_ => dK (slotOf σ 5) fun r_ => dB (slotOf σ 13) fun t13_ => sB1 t_ slot_ r_ t13_ w)] 2000) [(0, [])] [(0, .pointer t), (1, .int .i64 slot), (2, .agg #[.int .i64 r_0, .int .i64 r_1, .string r_2])] w := by kernel_rfl
theorem store_Store_PutRec.B0_sound {R : Int → World → Prop}  (t : Option Addr) (slot r_0 r_1 : Int) (r_2 : ByteArray) (w : World) (h : store_Store_PutRec.B0 t slot r_0 r_1 r_2 w   R) :
    KW Try.prog 90 62 (store_Store_PutRec.RV R) ([(0, [])].map (toItem (Try.f90.body.getD .skip))) [(0, .pointer t), (1, .int .i64 slot), (2, .agg #[.int .i64 r_0, .int .i64 r_1, .string r_2])] w := by
  exact block_spec Try.func90 Try.mixed (stops_cons (fun σ w h => by
      obtain ⟨t_, e0, h⟩ := dP_elim h
      obtain ⟨slot_, e1, h⟩ := dI_elim h
      obtain ⟨r_, e2, h⟩ := dK_elim h
      obtain ⟨t13_, e3, h⟩ := dB_elim h
      exact (store_Store_PutRec.B1_sound  t_ slot_ r_ t13_ w h).weaken (Sub.cons (Sub.cons (Sub.cons (Sub.cons (Sub.nil _) e3) e2) e1) e0)) stops_nil) (Eq.mp (store_Store_PutRec.B0_eq t slot r_0 r_1 r_2 w   R (fun t_ slot_ r_ t13_ w => store_Store_PutRec.B1 t_ slot_ r_ t13_ w  R)) h)
theorem store_Store_PutRec.sound (t : Option Addr) (slot r_0 r_1 : Int) (r_2 : ByteArray) (w : World) (R : Int → World → Prop) (h : store_Store_PutRec.B0 t slot r_0 r_1 r_2 w R) : store_Store_PutRec.Call t slot r_0 r_1 r_2 w R := by
  have hc := calls_of_block (args := #[.pointer t, .int .i64 slot, .agg #[.int .i64 r_0, .int .i64 r_1, .string r_2]]) Try.func90 (body := (Try.f90.body.getD .skip)) (by kernel_rfl) (by kernel_rfl) (args_slot _) (store_Store_PutRec.B0_sound t slot r_0 r_1 r_2 w h)
  exact hc.mono fun e w' he => by
    obtain ⟨v, rfl, hv⟩ := he
    exact store_Store_PutRec.RV_elim hv
def rlog_Log_dropFrom.L1b (l : Option Addr) (i : Int) (w : World)  (N1 : Option Addr → Int → World → Prop) (R : Int → World → Prop) : Prop :=
  Pn l fun a =>
  LdI .i64 (a.add 6) w fun x10 =>
  Bm (decide (x10 ≥ i)) (
    Pn l fun a_1 =>
    LdI .i64 (a_1.add 6) w fun x16 =>
    rlog_slotOf.Call x16 w fun r17 w1 =>
    Pn l fun a_2 =>
    LdP a_2 w1 fun x21 =>
    store_Store_DelRec.Call x21 r17 w1 fun r23 w2 =>
    Bm (r23 != (0 : Int)) (
      R r23 w2) (
      Pn l fun a_3 =>
      LdI .i64 (a_3.add 6) w2 fun x30 =>
      Pn l fun a_4 =>
      Sts [.int .i64 (IntKind.i64.wrap (x30 - (1 : Int)))] (a_4.add 6) 0 w2 fun w3 =>
      N1 l i w3)) (
    R (0 : Int) w)
theorem rlog_Log_dropFrom.L1b_eq (l : Option Addr) (i : Int) (w : World)  (N1 : Option Addr → Int → World → Prop) (R : Int → World → Prop)  :
    (
  Pn l fun a =>
  LdI .i64 (a.add 6) w fun x10 =>
  Bm (decide (x10 ≥ i)) (
    Pn l fun a_1 =>
    LdI .i64 (a_1.add 6) w fun x16 =>
    rlog_slotOf.Call x16 w fun r17 w1 =>
    Pn l fun a_2 =>
    LdP a_2 w1 fun x21 =>
    store_Store_DelRec.Call x21 r17 w1 fun r23 w2 =>
    Bm (r23 != (0 : Int)) (
      R r23 w2) (
      Pn l fun a_3 =>
      LdI .i64 (a_3.add 6) w2 fun x30 =>
      Pn l fun a_4 =>
      Sts [.int .i64 (IntKind.i64.wrap (x30 - (1 : Int)))] (a_4.add 6) 0 w2 fun w3 =>
      N1 l i w3)) (
    R (0 : Int) w)) = kstep Try.prog 34 Try.f91.results.toList (Try.f91.body.getD .skip) (rlog_Log_dropFrom.RV R) (kvc Try.prog 34 Try.f91.results.toList (Try.f91.body.getD .skip) (rlog_Log_dropFrom.RV R) [([(0, [1, 0, 0, 0]), (2, [1, 0, 0, 0]), (1, [0]), (0, [1, 1])], fun σ w => dP (slotOf σ 0) fun l_ => dI .i64 (slotOf σ 1) fun i_ => N1 l_ i_ w)] 2000) [(0, [1, 0, 0, 0]), (2, [1, 0, 0, 0]), (1, [0]), (0, [1, 1])] [(0, .pointer l), (1, .int .i64 i)] w := by kernel_rfl
theorem rlog_Log_dropFrom.L1b_sound {R : Int → World → Prop} {N1 : Option Addr → Int → World → Prop} (hN1 : ∀ l i w, N1 l i w → KW Try.prog 91 34 (rlog_Log_dropFrom.RV R) ([(0, [1, 0, 0, 0]), (2, [1, 0, 0, 0]), (1, [0]), (0, [1, 1])].map (toItem (Try.f91.body.getD .skip))) [(0, .pointer l), (1, .int .i64 i)] w) (l : Option Addr) (i : Int) (w : World) (h : rlog_Log_dropFrom.L1b l i w  N1 R) :
    KW Try.prog 91 34 (rlog_Log_dropFrom.RV R) ([(0, [1, 0, 0, 0]), (2, [1, 0, 0, 0]), (1, [0]), (0, [1, 1])].map (toItem (Try.f91.body.getD .skip))) [(0, .pointer l), (1, .int .i64 i)] w := by
  exact block_spec Try.func91 Try.mixed (stops_cons (fun σ w h => by
      obtain ⟨l_, e0, h⟩ := dP_elim h
      obtain ⟨i_, e1, h⟩ := dI_elim h
      exact (hN1 l_ i_ w h).weaken (Sub.cons (Sub.cons (Sub.nil _) e1) e0)) stops_nil) (Eq.mp (rlog_Log_dropFrom.L1b_eq l i w  N1 R ) h)
def rlog_Log_dropFrom.L1 (l : Option Addr) (i : Int) (w : World)  (R : Int → World → Prop) : Prop :=
  ∃ (I : Nat → Option Addr → Int → World → Prop) (m : Nat), I m l i w ∧ ∀ m l i w, I m l i w → rlog_Log_dropFrom.L1b l i w  (fun l' i' w' => ∃ m', m' < m ∧ I m' l' i' w') R
theorem rlog_Log_dropFrom.L1_sound {R : Int → World → Prop}  (l : Option Addr) (i : Int) (w : World) (h : rlog_Log_dropFrom.L1 l i w  R) :
    KW Try.prog 91 34 (rlog_Log_dropFrom.RV R) ([(0, [1, 0, 0, 0]), (2, [1, 0, 0, 0]), (1, [0]), (0, [1, 1])].map (toItem (Try.f91.body.getD .skip))) [(0, .pointer l), (1, .int .i64 i)] w := by
  obtain ⟨I, m, hBase, hr⟩ := h
  refine KW.loop (fun m σ w => ∃ (l : Option Addr) (i : Int), σ = [(0, .pointer l), (1, .int .i64 i)] ∧ I m l i w) ?_ m _ w ⟨l, i, rfl, hBase⟩
  rintro m ih σ w ⟨l, i, rfl, hI⟩
  exact rlog_Log_dropFrom.L1b_sound  (N1 := fun l' i' w' => ∃ m', m' < m ∧ I m' l' i' w') (fun l' i' w' hx => by obtain ⟨m', hlt, hI'⟩ := hx; exact ih m' hlt _ w' ⟨l', i', rfl, hI'⟩) l i w (hr m l i w hI)
def rlog_Log_dropFrom.B0 (l : Option Addr) (i : Int) (w : World)   (R : Int → World → Prop) : Prop :=
  rlog_Log_dropFrom.L1 l i w  R
theorem rlog_Log_dropFrom.B0_eq (l : Option Addr) (i : Int) (w : World)   (R : Int → World → Prop) (sL1 : Option Addr → Int → World → Prop) :
    (
  sL1 l i w) = kstep Try.prog 34 Try.f91.results.toList (Try.f91.body.getD .skip) (rlog_Log_dropFrom.RV R) (kvc Try.prog 34 Try.f91.results.toList (Try.f91.body.getD .skip) (rlog_Log_dropFrom.RV R) [([(0, [1, 0, 0, 0]), (2, [1, 0, 0, 0]), (1, [0]), (0, [1, 1])], fun σ w => dP (slotOf σ 0) fun l_ => dI .i64 (slotOf σ 1) fun i_ => sL1 l_ i_ w)] 2000) [(0, [])] [(0, .pointer l), (1, .int .i64 i)] w := by kernel_rfl
theorem rlog_Log_dropFrom.B0_sound {R : Int → World → Prop}  (l : Option Addr) (i : Int) (w : World) (h : rlog_Log_dropFrom.B0 l i w   R) :
    KW Try.prog 91 34 (rlog_Log_dropFrom.RV R) ([(0, [])].map (toItem (Try.f91.body.getD .skip))) [(0, .pointer l), (1, .int .i64 i)] w := by
  exact block_spec Try.func91 Try.mixed (stops_cons (fun σ w h => by
      obtain ⟨l_, e0, h⟩ := dP_elim h
      obtain ⟨i_, e1, h⟩ := dI_elim h
      exact (rlog_Log_dropFrom.L1_sound  l_ i_ w h).weaken (Sub.cons (Sub.cons (Sub.nil _) e1) e0)) stops_nil) (Eq.mp (rlog_Log_dropFrom.B0_eq l i w   R (fun l_ i_ w => rlog_Log_dropFrom.L1 l_ i_ w  R)) h)
theorem rlog_Log_dropFrom.sound (l : Option Addr) (i : Int) (w : World) (R : Int → World → Prop) (h : rlog_Log_dropFrom.B0 l i w R) : rlog_Log_dropFrom.Call l i w R := by
  have hc := calls_of_block (args := #[.pointer l, .int .i64 i]) Try.func91 (body := (Try.f91.body.getD .skip)) (by kernel_rfl) (by kernel_rfl) (args_slot _) (rlog_Log_dropFrom.B0_sound l i w h)
  exact hc.mono fun e w' he => by
    obtain ⟨v, rfl, hv⟩ := he
    exact rlog_Log_dropFrom.RV_elim hv
end Go.Proofs.Qxb6500431a
