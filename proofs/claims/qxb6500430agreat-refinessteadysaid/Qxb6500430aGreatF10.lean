import Derived.Test.Qxb6500430aGreatSig
set_option maxRecDepth 100000
set_option linter.unusedVariables false
open Go.Vc
namespace Go.Proofs.Qxb6500430aGreat
def elect_Elect_Id.B0 (e : Option Addr) (w : World)   (R : Int → World → Prop) : Prop :=
  Pn e fun a =>
  LdI .i64 a w fun x6 =>
  R x6 w
theorem elect_Elect_Id.B0_eq (e : Option Addr) (w : World)   (R : Int → World → Prop)  :
    (
  Pn e fun a =>
  LdI .i64 a w fun x6 =>
  R x6 w) = kstep Tryz.prog 7 Tryz.f104.results.toList (Tryz.f104.body.getD .skip) (elect_Elect_Id.RV R) (kvc Tryz.prog 7 Tryz.f104.results.toList (Tryz.f104.body.getD .skip) (elect_Elect_Id.RV R) [] 2000) [(0, [])] [(0, .pointer e)] w := by kernel_rfl
theorem elect_Elect_Id.B0_sound {R : Int → World → Prop}  (e : Option Addr) (w : World) (h : elect_Elect_Id.B0 e w   R) :
    KW Tryz.prog 104 7 (elect_Elect_Id.RV R) ([(0, [])].map (toItem (Tryz.f104.body.getD .skip))) [(0, .pointer e)] w := by
  exact block_spec Tryz.func104 Tryz.mixed stops_nil (Eq.mp (elect_Elect_Id.B0_eq e w   R ) h)
theorem elect_Elect_Id.sound (e : Option Addr) (w : World) (R : Int → World → Prop) (h : elect_Elect_Id.B0 e w R) : elect_Elect_Id.Call e w R := by
  have hc := calls_of_block (args := #[.pointer e]) Tryz.func104 (body := (Tryz.f104.body.getD .skip)) (by kernel_rfl) (by kernel_rfl) (args_slot _) (elect_Elect_Id.B0_sound e w h)
  exact hc.mono fun e w' he => by
    obtain ⟨v, rfl, hv⟩ := he
    exact elect_Elect_Id.RV_elim hv
def elect_Elect_Term.B0 (e : Option Addr) (w : World)   (R : Int → World → Prop) : Prop :=
  Pn e fun a =>
  LdI .i64 (a.add 1) w fun x6 =>
  R x6 w
theorem elect_Elect_Term.B0_eq (e : Option Addr) (w : World)   (R : Int → World → Prop)  :
    (
  Pn e fun a =>
  LdI .i64 (a.add 1) w fun x6 =>
  R x6 w) = kstep Tryz.prog 7 Tryz.f105.results.toList (Tryz.f105.body.getD .skip) (elect_Elect_Term.RV R) (kvc Tryz.prog 7 Tryz.f105.results.toList (Tryz.f105.body.getD .skip) (elect_Elect_Term.RV R) [] 2000) [(0, [])] [(0, .pointer e)] w := by kernel_rfl
theorem elect_Elect_Term.B0_sound {R : Int → World → Prop}  (e : Option Addr) (w : World) (h : elect_Elect_Term.B0 e w   R) :
    KW Tryz.prog 105 7 (elect_Elect_Term.RV R) ([(0, [])].map (toItem (Tryz.f105.body.getD .skip))) [(0, .pointer e)] w := by
  exact block_spec Tryz.func105 Tryz.mixed stops_nil (Eq.mp (elect_Elect_Term.B0_eq e w   R ) h)
theorem elect_Elect_Term.sound (e : Option Addr) (w : World) (R : Int → World → Prop) (h : elect_Elect_Term.B0 e w R) : elect_Elect_Term.Call e w R := by
  have hc := calls_of_block (args := #[.pointer e]) Tryz.func105 (body := (Tryz.f105.body.getD .skip)) (by kernel_rfl) (by kernel_rfl) (args_slot _) (elect_Elect_Term.B0_sound e w h)
  exact hc.mono fun e w' he => by
    obtain ⟨v, rfl, hv⟩ := he
    exact elect_Elect_Term.RV_elim hv
def elect_Elect_Vote.B0 (e : Option Addr) (w : World)   (R : Int → World → Prop) : Prop :=
  Pn e fun a =>
  LdI .i64 (a.add 2) w fun x6 =>
  0 ≤ (2 : Int) ∧
  R (IntKind.i64.wrap ((IntKind.i64.wrap (BitVec.ofInt IntKind.i64.bits (x6.fdiv (2 ^ (min (2 : Int).toNat IntKind.i64.bits))) &&& BitVec.ofInt IntKind.i64.bits (3 : Int)).toNat) - (1 : Int))) w
theorem elect_Elect_Vote.B0_eq (e : Option Addr) (w : World)   (R : Int → World → Prop)  :
    (
  Pn e fun a =>
  LdI .i64 (a.add 2) w fun x6 =>
  0 ≤ (2 : Int) ∧
  R (IntKind.i64.wrap ((IntKind.i64.wrap (BitVec.ofInt IntKind.i64.bits (x6.fdiv (2 ^ (min (2 : Int).toNat IntKind.i64.bits))) &&& BitVec.ofInt IntKind.i64.bits (3 : Int)).toNat) - (1 : Int))) w) = kstep Tryz.prog 10 Tryz.f106.results.toList (Tryz.f106.body.getD .skip) (elect_Elect_Vote.RV R) (kvc Tryz.prog 10 Tryz.f106.results.toList (Tryz.f106.body.getD .skip) (elect_Elect_Vote.RV R) [] 2000) [(0, [])] [(0, .pointer e)] w := by kernel_rfl
theorem elect_Elect_Vote.B0_sound {R : Int → World → Prop}  (e : Option Addr) (w : World) (h : elect_Elect_Vote.B0 e w   R) :
    KW Tryz.prog 106 10 (elect_Elect_Vote.RV R) ([(0, [])].map (toItem (Tryz.f106.body.getD .skip))) [(0, .pointer e)] w := by
  exact block_spec Tryz.func106 Tryz.mixed stops_nil (Eq.mp (elect_Elect_Vote.B0_eq e w   R ) h)
theorem elect_Elect_Vote.sound (e : Option Addr) (w : World) (R : Int → World → Prop) (h : elect_Elect_Vote.B0 e w R) : elect_Elect_Vote.Call e w R := by
  have hc := calls_of_block (args := #[.pointer e]) Tryz.func106 (body := (Tryz.f106.body.getD .skip)) (by kernel_rfl) (by kernel_rfl) (args_slot _) (elect_Elect_Vote.B0_sound e w h)
  exact hc.mono fun e w' he => by
    obtain ⟨v, rfl, hv⟩ := he
    exact elect_Elect_Vote.RV_elim hv
def elect_Elect_Role.B0 (e : Option Addr) (w : World)   (R : Int → World → Prop) : Prop :=
  Pn e fun a =>
  LdI .i64 (a.add 2) w fun x6 =>
  R (IntKind.i64.wrap (BitVec.ofInt IntKind.i64.bits x6 &&& BitVec.ofInt IntKind.i64.bits (3 : Int)).toNat) w
theorem elect_Elect_Role.B0_eq (e : Option Addr) (w : World)   (R : Int → World → Prop)  :
    (
  Pn e fun a =>
  LdI .i64 (a.add 2) w fun x6 =>
  R (IntKind.i64.wrap (BitVec.ofInt IntKind.i64.bits x6 &&& BitVec.ofInt IntKind.i64.bits (3 : Int)).toNat) w) = kstep Tryz.prog 8 Tryz.f107.results.toList (Tryz.f107.body.getD .skip) (elect_Elect_Role.RV R) (kvc Tryz.prog 8 Tryz.f107.results.toList (Tryz.f107.body.getD .skip) (elect_Elect_Role.RV R) [] 2000) [(0, [])] [(0, .pointer e)] w := by kernel_rfl
theorem elect_Elect_Role.B0_sound {R : Int → World → Prop}  (e : Option Addr) (w : World) (h : elect_Elect_Role.B0 e w   R) :
    KW Tryz.prog 107 8 (elect_Elect_Role.RV R) ([(0, [])].map (toItem (Tryz.f107.body.getD .skip))) [(0, .pointer e)] w := by
  exact block_spec Tryz.func107 Tryz.mixed stops_nil (Eq.mp (elect_Elect_Role.B0_eq e w   R ) h)
theorem elect_Elect_Role.sound (e : Option Addr) (w : World) (R : Int → World → Prop) (h : elect_Elect_Role.B0 e w R) : elect_Elect_Role.Call e w R := by
  have hc := calls_of_block (args := #[.pointer e]) Tryz.func107 (body := (Tryz.f107.body.getD .skip)) (by kernel_rfl) (by kernel_rfl) (args_slot _) (elect_Elect_Role.B0_sound e w h)
  exact hc.mono fun e w' he => by
    obtain ⟨v, rfl, hv⟩ := he
    exact elect_Elect_Role.RV_elim hv
def elect_Elect_Leader.B0 (e : Option Addr) (w : World)   (R : Int → World → Prop) : Prop :=
  Pn e fun a =>
  LdI .i64 (a.add 2) w fun x6 =>
  0 ≤ (4 : Int) ∧
  R (IntKind.i64.wrap ((IntKind.i64.wrap (BitVec.ofInt IntKind.i64.bits (x6.fdiv (2 ^ (min (4 : Int).toNat IntKind.i64.bits))) &&& BitVec.ofInt IntKind.i64.bits (3 : Int)).toNat) - (1 : Int))) w
theorem elect_Elect_Leader.B0_eq (e : Option Addr) (w : World)   (R : Int → World → Prop)  :
    (
  Pn e fun a =>
  LdI .i64 (a.add 2) w fun x6 =>
  0 ≤ (4 : Int) ∧
  R (IntKind.i64.wrap ((IntKind.i64.wrap (BitVec.ofInt IntKind.i64.bits (x6.fdiv (2 ^ (min (4 : Int).toNat IntKind.i64.bits))) &&& BitVec.ofInt IntKind.i64.bits (3 : Int)).toNat) - (1 : Int))) w) = kstep Tryz.prog 10 Tryz.f108.results.toList (Tryz.f108.body.getD .skip) (elect_Elect_Leader.RV R) (kvc Tryz.prog 10 Tryz.f108.results.toList (Tryz.f108.body.getD .skip) (elect_Elect_Leader.RV R) [] 2000) [(0, [])] [(0, .pointer e)] w := by kernel_rfl
theorem elect_Elect_Leader.B0_sound {R : Int → World → Prop}  (e : Option Addr) (w : World) (h : elect_Elect_Leader.B0 e w   R) :
    KW Tryz.prog 108 10 (elect_Elect_Leader.RV R) ([(0, [])].map (toItem (Tryz.f108.body.getD .skip))) [(0, .pointer e)] w := by
  exact block_spec Tryz.func108 Tryz.mixed stops_nil (Eq.mp (elect_Elect_Leader.B0_eq e w   R ) h)
theorem elect_Elect_Leader.sound (e : Option Addr) (w : World) (R : Int → World → Prop) (h : elect_Elect_Leader.B0 e w R) : elect_Elect_Leader.Call e w R := by
  have hc := calls_of_block (args := #[.pointer e]) Tryz.func108 (body := (Tryz.f108.body.getD .skip)) (by kernel_rfl) (by kernel_rfl) (args_slot _) (elect_Elect_Leader.B0_sound e w h)
  exact hc.mono fun e w' he => by
    obtain ⟨v, rfl, hv⟩ := he
    exact elect_Elect_Leader.RV_elim hv
def elect_Elect_Clock.B0 (e : Option Addr) (w : World)   (R : Int → World → Prop) : Prop :=
  Pn e fun a =>
  LdI .i64 a w.drew fun x6 =>
  Pn e fun a_1 =>
  LdI .i64 (a_1.add 5) w.drew fun x11 =>
  Pn e fun a_2 =>
  LdI .i64 (a_2.add 4) w.drew fun x15 =>
  api_Timeout.Call x6 w.drew fun r7 w1 =>
  w1.cell? (a_2.add 4) = some (.int .i64 x15) ∧
  w1.cell? (a_1.add 5) = some (.int .i64 x11) ∧
  R (IntKind.i64.wrap (r7 - (IntKind.i64.wrap (x11 - x15)))) w1
theorem elect_Elect_Clock.B0_eq (e : Option Addr) (w : World)   (R : Int → World → Prop)  :
    (
  Pn e fun a =>
  LdI .i64 a w.drew fun x6 =>
  Pn e fun a_1 =>
  LdI .i64 (a_1.add 5) w.drew fun x11 =>
  Pn e fun a_2 =>
  LdI .i64 (a_2.add 4) w.drew fun x15 =>
  api_Timeout.Call x6 w.drew fun r7 w1 =>
  w1.cell? (a_2.add 4) = some (.int .i64 x15) ∧
  w1.cell? (a_1.add 5) = some (.int .i64 x11) ∧
  R (IntKind.i64.wrap (r7 - (IntKind.i64.wrap (x11 - x15)))) w1) = kstep Tryz.prog 18 Tryz.f109.results.toList (Tryz.f109.body.getD .skip) (elect_Elect_Clock.RV R) (kvc Tryz.prog 18 Tryz.f109.results.toList (Tryz.f109.body.getD .skip) (elect_Elect_Clock.RV R) [] 2000) [(0, [])] [(0, .pointer e)] w := by kernel_rfl
theorem elect_Elect_Clock.B0_sound {R : Int → World → Prop}  (e : Option Addr) (w : World) (h : elect_Elect_Clock.B0 e w   R) :
    KW Tryz.prog 109 18 (elect_Elect_Clock.RV R) ([(0, [])].map (toItem (Tryz.f109.body.getD .skip))) [(0, .pointer e)] w := by
  exact block_spec Tryz.func109 Tryz.mixed stops_nil (Eq.mp (elect_Elect_Clock.B0_eq e w   R ) h)
theorem elect_Elect_Clock.sound (e : Option Addr) (w : World) (R : Int → World → Prop) (h : elect_Elect_Clock.B0 e w R) : elect_Elect_Clock.Call e w R := by
  have hc := calls_of_block (args := #[.pointer e]) Tryz.func109 (body := (Tryz.f109.body.getD .skip)) (by kernel_rfl) (by kernel_rfl) (args_slot _) (elect_Elect_Clock.B0_sound e w h)
  exact hc.mono fun e w' he => by
    obtain ⟨v, rfl, hv⟩ := he
    exact elect_Elect_Clock.RV_elim hv
def elect_Elect_Got.B0 (e : Option Addr) (p : Int) (w : World)   (R : Bool → World → Prop) : Prop :=
  Bm (decide (p ≥ (0 : Int))) (
    Bm (decide (p < (3 : Int))) (
      Pn e fun a =>
      LdI .i64 (a.add 3) w.drew fun x15 =>
      elect_bit.Call p w.drew fun r17 w1 =>
      w1.cell? (a.add 3) = some (.int .i64 x15) ∧
      R ((IntKind.i64.wrap (BitVec.ofInt IntKind.i64.bits x15 &&& BitVec.ofInt IntKind.i64.bits r17).toNat) != (0 : Int)) w1) (
      R false w.drew)) (
    R false w.drew)
theorem elect_Elect_Got.B0_eq (e : Option Addr) (p : Int) (w : World)   (R : Bool → World → Prop)  :
    (
  Bm (decide (p ≥ (0 : Int))) (
    Bm (decide (p < (3 : Int))) (
      Pn e fun a =>
      LdI .i64 (a.add 3) w.drew fun x15 =>
      elect_bit.Call p w.drew fun r17 w1 =>
      w1.cell? (a.add 3) = some (.int .i64 x15) ∧
      R ((IntKind.i64.wrap (BitVec.ofInt IntKind.i64.bits x15 &&& BitVec.ofInt IntKind.i64.bits r17).toNat) != (0 : Int)) w1) (
      R false w.drew)) (
    R false w.drew)) = kstep Tryz.prog 21 Tryz.f110.results.toList (Tryz.f110.body.getD .skip) (elect_Elect_Got.RV R) (kvc Tryz.prog 21 Tryz.f110.results.toList (Tryz.f110.body.getD .skip) (elect_Elect_Got.RV R) [] 2000) [(0, [])] [(0, .pointer e), (1, .int .i64 p)] w := by kernel_rfl
theorem elect_Elect_Got.B0_sound {R : Bool → World → Prop}  (e : Option Addr) (p : Int) (w : World) (h : elect_Elect_Got.B0 e p w   R) :
    KW Tryz.prog 110 21 (elect_Elect_Got.RV R) ([(0, [])].map (toItem (Tryz.f110.body.getD .skip))) [(0, .pointer e), (1, .int .i64 p)] w := by
  exact block_spec Tryz.func110 Tryz.mixed stops_nil (Eq.mp (elect_Elect_Got.B0_eq e p w   R ) h)
theorem elect_Elect_Got.sound (e : Option Addr) (p : Int) (w : World) (R : Bool → World → Prop) (h : elect_Elect_Got.B0 e p w R) : elect_Elect_Got.Call e p w R := by
  have hc := calls_of_block (args := #[.pointer e, .int .i64 p]) Tryz.func110 (body := (Tryz.f110.body.getD .skip)) (by kernel_rfl) (by kernel_rfl) (args_slot _) (elect_Elect_Got.B0_sound e p w h)
  exact hc.mono fun e w' he => by
    obtain ⟨v, rfl, hv⟩ := he
    exact elect_Elect_Got.RV_elim hv
def rlog_Log_Base.B0 (l : Option Addr) (w : World)   (R : Int → World → Prop) : Prop :=
  Pn l fun a =>
  LdI .i64 (a.add 3) w fun x6 =>
  R x6 w
theorem rlog_Log_Base.B0_eq (l : Option Addr) (w : World)   (R : Int → World → Prop)  :
    (
  Pn l fun a =>
  LdI .i64 (a.add 3) w fun x6 =>
  R x6 w) = kstep Tryz.prog 7 Tryz.f111.results.toList (Tryz.f111.body.getD .skip) (rlog_Log_Base.RV R) (kvc Tryz.prog 7 Tryz.f111.results.toList (Tryz.f111.body.getD .skip) (rlog_Log_Base.RV R) [] 2000) [(0, [])] [(0, .pointer l)] w := by kernel_rfl
theorem rlog_Log_Base.B0_sound {R : Int → World → Prop}  (l : Option Addr) (w : World) (h : rlog_Log_Base.B0 l w   R) :
    KW Tryz.prog 111 7 (rlog_Log_Base.RV R) ([(0, [])].map (toItem (Tryz.f111.body.getD .skip))) [(0, .pointer l)] w := by
  exact block_spec Tryz.func111 Tryz.mixed stops_nil (Eq.mp (rlog_Log_Base.B0_eq l w   R ) h)
theorem rlog_Log_Base.sound (l : Option Addr) (w : World) (R : Int → World → Prop) (h : rlog_Log_Base.B0 l w R) : rlog_Log_Base.Call l w R := by
  have hc := calls_of_block (args := #[.pointer l]) Tryz.func111 (body := (Tryz.f111.body.getD .skip)) (by kernel_rfl) (by kernel_rfl) (args_slot _) (rlog_Log_Base.B0_sound l w h)
  exact hc.mono fun e w' he => by
    obtain ⟨v, rfl, hv⟩ := he
    exact rlog_Log_Base.RV_elim hv
def rlog_Log_BaseTerm.B0 (l : Option Addr) (w : World)   (R : Int → World → Prop) : Prop :=
  Pn l fun a =>
  LdI .i64 (a.add 4) w fun x6 =>
  R x6 w
theorem rlog_Log_BaseTerm.B0_eq (l : Option Addr) (w : World)   (R : Int → World → Prop)  :
    (
  Pn l fun a =>
  LdI .i64 (a.add 4) w fun x6 =>
  R x6 w) = kstep Tryz.prog 7 Tryz.f112.results.toList (Tryz.f112.body.getD .skip) (rlog_Log_BaseTerm.RV R) (kvc Tryz.prog 7 Tryz.f112.results.toList (Tryz.f112.body.getD .skip) (rlog_Log_BaseTerm.RV R) [] 2000) [(0, [])] [(0, .pointer l)] w := by kernel_rfl
theorem rlog_Log_BaseTerm.B0_sound {R : Int → World → Prop}  (l : Option Addr) (w : World) (h : rlog_Log_BaseTerm.B0 l w   R) :
    KW Tryz.prog 112 7 (rlog_Log_BaseTerm.RV R) ([(0, [])].map (toItem (Tryz.f112.body.getD .skip))) [(0, .pointer l)] w := by
  exact block_spec Tryz.func112 Tryz.mixed stops_nil (Eq.mp (rlog_Log_BaseTerm.B0_eq l w   R ) h)
theorem rlog_Log_BaseTerm.sound (l : Option Addr) (w : World) (R : Int → World → Prop) (h : rlog_Log_BaseTerm.B0 l w R) : rlog_Log_BaseTerm.Call l w R := by
  have hc := calls_of_block (args := #[.pointer l]) Tryz.func112 (body := (Tryz.f112.body.getD .skip)) (by kernel_rfl) (by kernel_rfl) (args_slot _) (rlog_Log_BaseTerm.B0_sound l w h)
  exact hc.mono fun e w' he => by
    obtain ⟨v, rfl, hv⟩ := he
    exact rlog_Log_BaseTerm.RV_elim hv
def rlog_Log_Snap.B0 (l : Option Addr) (w : World)   (R : ByteArray → World → Prop) : Prop :=
  Pn l fun a =>
  LdS (a.add 5) w fun x6 =>
  R x6 w
theorem rlog_Log_Snap.B0_eq (l : Option Addr) (w : World)   (R : ByteArray → World → Prop)  :
    (
  Pn l fun a =>
  LdS (a.add 5) w fun x6 =>
  R x6 w) = kstep Tryz.prog 7 Tryz.f113.results.toList (Tryz.f113.body.getD .skip) (rlog_Log_Snap.RV R) (kvc Tryz.prog 7 Tryz.f113.results.toList (Tryz.f113.body.getD .skip) (rlog_Log_Snap.RV R) [] 2000) [(0, [])] [(0, .pointer l)] w := by kernel_rfl
theorem rlog_Log_Snap.B0_sound {R : ByteArray → World → Prop}  (l : Option Addr) (w : World) (h : rlog_Log_Snap.B0 l w   R) :
    KW Tryz.prog 113 7 (rlog_Log_Snap.RV R) ([(0, [])].map (toItem (Tryz.f113.body.getD .skip))) [(0, .pointer l)] w := by
  exact block_spec Tryz.func113 Tryz.mixed stops_nil (Eq.mp (rlog_Log_Snap.B0_eq l w   R ) h)
theorem rlog_Log_Snap.sound (l : Option Addr) (w : World) (R : ByteArray → World → Prop) (h : rlog_Log_Snap.B0 l w R) : rlog_Log_Snap.Call l w R := by
  have hc := calls_of_block (args := #[.pointer l]) Tryz.func113 (body := (Tryz.f113.body.getD .skip)) (by kernel_rfl) (by kernel_rfl) (args_slot _) (rlog_Log_Snap.B0_sound l w h)
  exact hc.mono fun e w' he => by
    obtain ⟨v, rfl, hv⟩ := he
    exact rlog_Log_Snap.RV_elim hv
def kv_KV_Restore.B1 (k : Option Addr) (s : ByteArray) (r t ss : Nat) (n i : Int) (key val : ByteArray) (t43 : Bool) (w : World) (N1 : Option Addr → ByteArray → Nat → Nat → Nat → Int → ByteArray → Int → World → Prop)  (R : Int → World → Prop) : Prop :=
  Bm t43 (
    R (15 : Int) w) (
    kv_table_add.Call (some ⟨t, 0, none⟩) key val w fun w1 =>
    N1 k s r t ss n key (IntKind.i64.wrap (i + (1 : Int))) w1)
theorem kv_KV_Restore.B1_eq (k : Option Addr) (s : ByteArray) (r t ss : Nat) (n i : Int) (key val : ByteArray) (t43 : Bool) (w : World) (N1 : Option Addr → ByteArray → Nat → Nat → Nat → Int → ByteArray → Int → World → Prop)  (R : Int → World → Prop)  :
    (
  Bm t43 (
    R (15 : Int) w) (
    kv_table_add.Call (some ⟨t, 0, none⟩) key val w fun w1 =>
    N1 k s r t ss n key (IntKind.i64.wrap (i + (1 : Int))) w1)) = kstep Tryz.prog 118 Tryz.f114.results.toList (Tryz.f114.body.getD .skip) (kv_KV_Restore.RV R) (kvc Tryz.prog 118 Tryz.f114.results.toList (Tryz.f114.body.getD .skip) (kv_KV_Restore.RV R) [([(0, [1, 1, 1, 1, 1, 1, 1, 0, 1, 0, 0]), (2, [1, 1, 1, 1, 1, 1, 1, 0, 1, 0, 0]), (1, [0]), (0, [1, 1, 1, 1, 1, 1, 1, 1])], fun σ w => dP (slotOf σ 0) fun k_ => dS (slotOf σ 1) fun s_ => dK (slotOf σ 5) fun r_ => dK (slotOf σ 6) fun t_ => dK (slotOf σ 7) fun ss_ => dI .i64 (slotOf σ 8) fun n_ => dS (slotOf σ 9) fun before_ => dI .i64 (slotOf σ 10) fun i_ => N1 k_ s_ r_ t_ ss_ n_ before_ i_ w)] 2000) [(0, [1, 1, 1, 1, 1, 1, 1, 0, 1, 0, 0, 1, 0, 0, 1, 1, 0, 1]), (0, [1, 1, 1, 1, 1, 1, 1, 0, 1, 0, 0, 1, 0, 0, 1, 1, 1]), (1, [1]), (0, [1, 1, 1, 1, 1, 1, 1, 0, 1, 0, 0, 1, 1]), (2, [1, 1, 1, 1, 1, 1, 1, 0, 1, 0, 0]), (1, [0]), (0, [1, 1, 1, 1, 1, 1, 1, 1])] [(0, .pointer k), (1, .string s), (5, .pointer (some ⟨r, 0, none⟩)), (6, .pointer (some ⟨t, 0, none⟩)), (7, .pointer (some ⟨ss, 0, none⟩)), (8, .int .i64 n), (10, .int .i64 i), (11, .string key), (12, .string val), (43, .bool t43)] w := by kernel_rfl
theorem kv_KV_Restore.B1_sound {R : Int → World → Prop} {N1 : Option Addr → ByteArray → Nat → Nat → Nat → Int → ByteArray → Int → World → Prop} (hN1 : ∀ k s r t ss n before i w, N1 k s r t ss n before i w → KW Tryz.prog 114 118 (kv_KV_Restore.RV R) ([(0, [1, 1, 1, 1, 1, 1, 1, 0, 1, 0, 0]), (2, [1, 1, 1, 1, 1, 1, 1, 0, 1, 0, 0]), (1, [0]), (0, [1, 1, 1, 1, 1, 1, 1, 1])].map (toItem (Tryz.f114.body.getD .skip))) [(0, .pointer k), (1, .string s), (5, .pointer (some ⟨r, 0, none⟩)), (6, .pointer (some ⟨t, 0, none⟩)), (7, .pointer (some ⟨ss, 0, none⟩)), (8, .int .i64 n), (9, .string before), (10, .int .i64 i)] w) (k : Option Addr) (s : ByteArray) (r t ss : Nat) (n i : Int) (key val : ByteArray) (t43 : Bool) (w : World) (h : kv_KV_Restore.B1 k s r t ss n i key val t43 w N1  R) :
    KW Tryz.prog 114 118 (kv_KV_Restore.RV R) ([(0, [1, 1, 1, 1, 1, 1, 1, 0, 1, 0, 0, 1, 0, 0, 1, 1, 0, 1]), (0, [1, 1, 1, 1, 1, 1, 1, 0, 1, 0, 0, 1, 0, 0, 1, 1, 1]), (1, [1]), (0, [1, 1, 1, 1, 1, 1, 1, 0, 1, 0, 0, 1, 1]), (2, [1, 1, 1, 1, 1, 1, 1, 0, 1, 0, 0]), (1, [0]), (0, [1, 1, 1, 1, 1, 1, 1, 1])].map (toItem (Tryz.f114.body.getD .skip))) [(0, .pointer k), (1, .string s), (5, .pointer (some ⟨r, 0, none⟩)), (6, .pointer (some ⟨t, 0, none⟩)), (7, .pointer (some ⟨ss, 0, none⟩)), (8, .int .i64 n), (10, .int .i64 i), (11, .string key), (12, .string val), (43, .bool t43)] w := by
  exact block_spec Tryz.func114 Tryz.mixed (stops_cons (fun σ w h => by
      obtain ⟨k_, e0, h⟩ := dP_elim h
      obtain ⟨s_, e1, h⟩ := dS_elim h
      obtain ⟨r_, e2, h⟩ := dK_elim h
      obtain ⟨t_, e3, h⟩ := dK_elim h
      obtain ⟨ss_, e4, h⟩ := dK_elim h
      obtain ⟨n_, e5, h⟩ := dI_elim h
      obtain ⟨before_, e6, h⟩ := dS_elim h
      obtain ⟨i_, e7, h⟩ := dI_elim h
      exact (hN1 k_ s_ r_ t_ ss_ n_ before_ i_ w h).weaken (Sub.cons (Sub.cons (Sub.cons (Sub.cons (Sub.cons (Sub.cons (Sub.cons (Sub.cons (Sub.nil _) e7) e6) e5) e4) e3) e2) e1) e0)) stops_nil) (Eq.mp (kv_KV_Restore.B1_eq k s r t ss n i key val t43 w N1  R ) h)
def kv_KV_Restore.B2 (k : Option Addr) (s : ByteArray) (r t ss : Nat) (c seq e : Int) (val : ByteArray) (t65 : Bool) (w : World) (N2 : Option Addr → ByteArray → Nat → Nat → Nat → Int → World → Prop)  (R : Int → World → Prop) : Prop :=
  Bm t65 (
    R (15 : Int) w) (
    kv_mkSession.Call seq e val w fun r71_0 r71_1 r71_2 r71_3 r71_4 r71_5 w1 =>
    (0 ≤ c ∧ c < ((3 : Nat) : Int)) ∧
    Sts [.int .i64 r71_0, .int .i64 r71_1, .int .i64 r71_2, .int .u8 r71_3, .int .u8 r71_4, .int .u8 r71_5] (Addr.add ⟨ss, 0, none⟩ (c.toNat * 6)) 0 w1 fun w2 =>
    N2 k s r t ss (IntKind.i64.wrap (c + (1 : Int))) w2)
theorem kv_KV_Restore.B2_eq (k : Option Addr) (s : ByteArray) (r t ss : Nat) (c seq e : Int) (val : ByteArray) (t65 : Bool) (w : World) (N2 : Option Addr → ByteArray → Nat → Nat → Nat → Int → World → Prop)  (R : Int → World → Prop)  :
    (
  Bm t65 (
    R (15 : Int) w) (
    kv_mkSession.Call seq e val w fun r71_0 r71_1 r71_2 r71_3 r71_4 r71_5 w1 =>
    (0 ≤ c ∧ c < ((3 : Nat) : Int)) ∧
    Sts [.int .i64 r71_0, .int .i64 r71_1, .int .i64 r71_2, .int .u8 r71_3, .int .u8 r71_4, .int .u8 r71_5] (Addr.add ⟨ss, 0, none⟩ (c.toNat * 6)) 0 w1 fun w2 =>
    N2 k s r t ss (IntKind.i64.wrap (c + (1 : Int))) w2)) = kstep Tryz.prog 118 Tryz.f114.results.toList (Tryz.f114.body.getD .skip) (kv_KV_Restore.RV R) (kvc Tryz.prog 118 Tryz.f114.results.toList (Tryz.f114.body.getD .skip) (kv_KV_Restore.RV R) [([(0, [1, 1, 1, 1, 1, 1, 1, 1, 0, 1, 0, 0]), (2, [1, 1, 1, 1, 1, 1, 1, 1, 0, 1, 0, 0]), (1, [2]), (0, [1, 1, 1, 1, 1, 1, 1, 1, 1])], fun σ w => dP (slotOf σ 0) fun k_ => dS (slotOf σ 1) fun s_ => dK (slotOf σ 5) fun r_ => dK (slotOf σ 6) fun t_ => dK (slotOf σ 7) fun ss_ => dI .i64 (slotOf σ 13) fun c_ => N2 k_ s_ r_ t_ ss_ c_ w)] 2000) [(0, [1, 1, 1, 1, 1, 1, 1, 1, 0, 1, 0, 0, 1, 0, 0, 1, 1, 1, 0, 1]), (0, [1, 1, 1, 1, 1, 1, 1, 1, 0, 1, 0, 0, 1, 0, 0, 1, 1, 1, 1]), (1, [3]), (0, [1, 1, 1, 1, 1, 1, 1, 1, 0, 1, 0, 0, 1, 1]), (2, [1, 1, 1, 1, 1, 1, 1, 1, 0, 1, 0, 0]), (1, [2]), (0, [1, 1, 1, 1, 1, 1, 1, 1, 1])] [(0, .pointer k), (1, .string s), (5, .pointer (some ⟨r, 0, none⟩)), (6, .pointer (some ⟨t, 0, none⟩)), (7, .pointer (some ⟨ss, 0, none⟩)), (13, .int .i64 c), (14, .int .i64 seq), (15, .int .i64 e), (16, .string val), (65, .bool t65)] w := by kernel_rfl
theorem kv_KV_Restore.B2_sound {R : Int → World → Prop} {N2 : Option Addr → ByteArray → Nat → Nat → Nat → Int → World → Prop} (hN2 : ∀ k s r t ss c w, N2 k s r t ss c w → KW Tryz.prog 114 118 (kv_KV_Restore.RV R) ([(0, [1, 1, 1, 1, 1, 1, 1, 1, 0, 1, 0, 0]), (2, [1, 1, 1, 1, 1, 1, 1, 1, 0, 1, 0, 0]), (1, [2]), (0, [1, 1, 1, 1, 1, 1, 1, 1, 1])].map (toItem (Tryz.f114.body.getD .skip))) [(0, .pointer k), (1, .string s), (5, .pointer (some ⟨r, 0, none⟩)), (6, .pointer (some ⟨t, 0, none⟩)), (7, .pointer (some ⟨ss, 0, none⟩)), (13, .int .i64 c)] w) (k : Option Addr) (s : ByteArray) (r t ss : Nat) (c seq e : Int) (val : ByteArray) (t65 : Bool) (w : World) (h : kv_KV_Restore.B2 k s r t ss c seq e val t65 w N2  R) :
    KW Tryz.prog 114 118 (kv_KV_Restore.RV R) ([(0, [1, 1, 1, 1, 1, 1, 1, 1, 0, 1, 0, 0, 1, 0, 0, 1, 1, 1, 0, 1]), (0, [1, 1, 1, 1, 1, 1, 1, 1, 0, 1, 0, 0, 1, 0, 0, 1, 1, 1, 1]), (1, [3]), (0, [1, 1, 1, 1, 1, 1, 1, 1, 0, 1, 0, 0, 1, 1]), (2, [1, 1, 1, 1, 1, 1, 1, 1, 0, 1, 0, 0]), (1, [2]), (0, [1, 1, 1, 1, 1, 1, 1, 1, 1])].map (toItem (Tryz.f114.body.getD .skip))) [(0, .pointer k), (1, .string s), (5, .pointer (some ⟨r, 0, none⟩)), (6, .pointer (some ⟨t, 0, none⟩)), (7, .pointer (some ⟨ss, 0, none⟩)), (13, .int .i64 c), (14, .int .i64 seq), (15, .int .i64 e), (16, .string val), (65, .bool t65)] w := by
  exact block_spec Tryz.func114 Tryz.mixed (stops_cons (fun σ w h => by
      obtain ⟨k_, e0, h⟩ := dP_elim h
      obtain ⟨s_, e1, h⟩ := dS_elim h
      obtain ⟨r_, e2, h⟩ := dK_elim h
      obtain ⟨t_, e3, h⟩ := dK_elim h
      obtain ⟨ss_, e4, h⟩ := dK_elim h
      obtain ⟨c_, e5, h⟩ := dI_elim h
      exact (hN2 k_ s_ r_ t_ ss_ c_ w h).weaken (Sub.cons (Sub.cons (Sub.cons (Sub.cons (Sub.cons (Sub.cons (Sub.nil _) e5) e4) e3) e2) e1) e0)) stops_nil) (Eq.mp (kv_KV_Restore.B2_eq k s r t ss c seq e val t65 w N2  R ) h)
def kv_KV_Restore.L4b (k : Option Addr) (ss : Nat) (c : Int) (w : World)  (N4 : Option Addr → Nat → Int → World → Prop) (R : Int → World → Prop) : Prop :=
  Bm (decide (c < (3 : Int))) (
    (0 ≤ c ∧ c < ((3 : Nat) : Int)) ∧
    LdI .i64 (Addr.add ⟨ss, 0, none⟩ (c.toNat * 6)) w.drew fun x114_0 =>
    LdI .i64 ((Addr.add ⟨ss, 0, none⟩ (c.toNat * 6)).add 1) w.drew fun x114_1 =>
    LdI .i64 ((Addr.add ⟨ss, 0, none⟩ (c.toNat * 6)).add 2) w.drew fun x114_2 =>
    LdI .u8 ((Addr.add ⟨ss, 0, none⟩ (c.toNat * 6)).add 3) w.drew fun x114_3 =>
    LdI .u8 ((Addr.add ⟨ss, 0, none⟩ (c.toNat * 6)).add 4) w.drew fun x114_4 =>
    LdI .u8 ((Addr.add ⟨ss, 0, none⟩ (c.toNat * 6)).add 5) w.drew fun x114_5 =>
    Pn k fun a =>
    (0 ≤ c ∧ c < ((3 : Nat) : Int)) ∧
    Sts [.int .i64 x114_0, .int .i64 x114_1, .int .i64 x114_2, .int .u8 x114_3, .int .u8 x114_4, .int .u8 x114_5] (Addr.add (a.add 66) (c.toNat * 6)) 0 w.drew fun w1 =>
    N4 k ss (IntKind.i64.wrap (c + (1 : Int))) w1) (
    R (0 : Int) w)
theorem kv_KV_Restore.L4b_eq (k : Option Addr) (ss : Nat) (c : Int) (w : World)  (N4 : Option Addr → Nat → Int → World → Prop) (R : Int → World → Prop)  :
    (
  Bm (decide (c < (3 : Int))) (
    (0 ≤ c ∧ c < ((3 : Nat) : Int)) ∧
    LdI .i64 (Addr.add ⟨ss, 0, none⟩ (c.toNat * 6)) w.drew fun x114_0 =>
    LdI .i64 ((Addr.add ⟨ss, 0, none⟩ (c.toNat * 6)).add 1) w.drew fun x114_1 =>
    LdI .i64 ((Addr.add ⟨ss, 0, none⟩ (c.toNat * 6)).add 2) w.drew fun x114_2 =>
    LdI .u8 ((Addr.add ⟨ss, 0, none⟩ (c.toNat * 6)).add 3) w.drew fun x114_3 =>
    LdI .u8 ((Addr.add ⟨ss, 0, none⟩ (c.toNat * 6)).add 4) w.drew fun x114_4 =>
    LdI .u8 ((Addr.add ⟨ss, 0, none⟩ (c.toNat * 6)).add 5) w.drew fun x114_5 =>
    Pn k fun a =>
    (0 ≤ c ∧ c < ((3 : Nat) : Int)) ∧
    Sts [.int .i64 x114_0, .int .i64 x114_1, .int .i64 x114_2, .int .u8 x114_3, .int .u8 x114_4, .int .u8 x114_5] (Addr.add (a.add 66) (c.toNat * 6)) 0 w.drew fun w1 =>
    N4 k ss (IntKind.i64.wrap (c + (1 : Int))) w1) (
    R (0 : Int) w)) = kstep Tryz.prog 118 Tryz.f114.results.toList (Tryz.f114.body.getD .skip) (kv_KV_Restore.RV R) (kvc Tryz.prog 118 Tryz.f114.results.toList (Tryz.f114.body.getD .skip) (kv_KV_Restore.RV R) [([(0, [1, 1, 1, 1, 1, 1, 1, 1, 1, 1, 1, 1, 1, 0, 1, 0, 0]), (2, [1, 1, 1, 1, 1, 1, 1, 1, 1, 1, 1, 1, 1, 0, 1, 0, 0]), (1, [6]), (0, [1, 1, 1, 1, 1, 1, 1, 1, 1, 1, 1, 1, 1, 1])], fun σ w => dP (slotOf σ 0) fun k_ => dK (slotOf σ 7) fun ss_ => dI .i64 (slotOf σ 18) fun c_ => N4 k_ ss_ c_ w)] 2000) [(0, [1, 1, 1, 1, 1, 1, 1, 1, 1, 1, 1, 1, 1, 0, 1, 0, 0]), (2, [1, 1, 1, 1, 1, 1, 1, 1, 1, 1, 1, 1, 1, 0, 1, 0, 0]), (1, [6]), (0, [1, 1, 1, 1, 1, 1, 1, 1, 1, 1, 1, 1, 1, 1])] [(0, .pointer k), (7, .pointer (some ⟨ss, 0, none⟩)), (18, .int .i64 c)] w := by kernel_rfl
theorem kv_KV_Restore.L4b_sound {R : Int → World → Prop} {N4 : Option Addr → Nat → Int → World → Prop} (hN4 : ∀ k ss c w, N4 k ss c w → KW Tryz.prog 114 118 (kv_KV_Restore.RV R) ([(0, [1, 1, 1, 1, 1, 1, 1, 1, 1, 1, 1, 1, 1, 0, 1, 0, 0]), (2, [1, 1, 1, 1, 1, 1, 1, 1, 1, 1, 1, 1, 1, 0, 1, 0, 0]), (1, [6]), (0, [1, 1, 1, 1, 1, 1, 1, 1, 1, 1, 1, 1, 1, 1])].map (toItem (Tryz.f114.body.getD .skip))) [(0, .pointer k), (7, .pointer (some ⟨ss, 0, none⟩)), (18, .int .i64 c)] w) (k : Option Addr) (ss : Nat) (c : Int) (w : World) (h : kv_KV_Restore.L4b k ss c w  N4 R) :
    KW Tryz.prog 114 118 (kv_KV_Restore.RV R) ([(0, [1, 1, 1, 1, 1, 1, 1, 1, 1, 1, 1, 1, 1, 0, 1, 0, 0]), (2, [1, 1, 1, 1, 1, 1, 1, 1, 1, 1, 1, 1, 1, 0, 1, 0, 0]), (1, [6]), (0, [1, 1, 1, 1, 1, 1, 1, 1, 1, 1, 1, 1, 1, 1])].map (toItem (Tryz.f114.body.getD .skip))) [(0, .pointer k), (7, .pointer (some ⟨ss, 0, none⟩)), (18, .int .i64 c)] w := by
  exact block_spec Tryz.func114 Tryz.mixed (stops_cons (fun σ w h => by
      obtain ⟨k_, e0, h⟩ := dP_elim h
      obtain ⟨ss_, e1, h⟩ := dK_elim h
      obtain ⟨c_, e2, h⟩ := dI_elim h
      exact (hN4 k_ ss_ c_ w h).weaken (Sub.cons (Sub.cons (Sub.cons (Sub.nil _) e2) e1) e0)) stops_nil) (Eq.mp (kv_KV_Restore.L4b_eq k ss c w  N4 R ) h)
def kv_KV_Restore.L4 (k : Option Addr) (ss : Nat) (c : Int) (w : World)  (R : Int → World → Prop) : Prop :=
  ∃ (I : Nat → Option Addr → Nat → Int → World → Prop) (m : Nat), I m k ss c w ∧ ∀ m k ss c w, I m k ss c w → kv_KV_Restore.L4b k ss c w  (fun k' ss' c' w' => ∃ m', m' < m ∧ I m' k' ss' c' w') R
theorem kv_KV_Restore.L4_sound {R : Int → World → Prop}  (k : Option Addr) (ss : Nat) (c : Int) (w : World) (h : kv_KV_Restore.L4 k ss c w  R) :
    KW Tryz.prog 114 118 (kv_KV_Restore.RV R) ([(0, [1, 1, 1, 1, 1, 1, 1, 1, 1, 1, 1, 1, 1, 0, 1, 0, 0]), (2, [1, 1, 1, 1, 1, 1, 1, 1, 1, 1, 1, 1, 1, 0, 1, 0, 0]), (1, [6]), (0, [1, 1, 1, 1, 1, 1, 1, 1, 1, 1, 1, 1, 1, 1])].map (toItem (Tryz.f114.body.getD .skip))) [(0, .pointer k), (7, .pointer (some ⟨ss, 0, none⟩)), (18, .int .i64 c)] w := by
  obtain ⟨I, m, hBase, hr⟩ := h
  refine KW.loop (fun m σ w => ∃ (k : Option Addr) (ss : Nat) (c : Int), σ = [(0, .pointer k), (7, .pointer (some ⟨ss, 0, none⟩)), (18, .int .i64 c)] ∧ I m k ss c w) ?_ m _ w ⟨k, ss, c, rfl, hBase⟩
  rintro m ih σ w ⟨k, ss, c, rfl, hI⟩
  exact kv_KV_Restore.L4b_sound  (N4 := fun k' ss' c' w' => ∃ m', m' < m ∧ I m' k' ss' c' w') (fun k' ss' c' w' hx => by obtain ⟨m', hlt, hI'⟩ := hx; exact ih m' hlt _ w' ⟨k', ss', c', rfl, hI'⟩) k ss c w (hr m k ss c w hI)
def kv_KV_Restore.L3b (k : Option Addr) (t ss : Nat) (i : Int) (w : World)  (N3 : Option Addr → Nat → Nat → Int → World → Prop) (R : Int → World → Prop) : Prop :=
  Bm (decide (i < (8 : Int))) (
    (0 ≤ i ∧ i < ((8 : Nat) : Int)) ∧
    LdI .i64 (Addr.add ⟨t, 0, none⟩ (i.toNat * 8)) w.drew fun x89_0 =>
    LdI .i64 ((Addr.add ⟨t, 0, none⟩ (i.toNat * 8)).add 1) w.drew fun x89_1 =>
    LdI .u8 ((Addr.add ⟨t, 0, none⟩ (i.toNat * 8)).add 2) w.drew fun x89_2 =>
    LdI .u8 ((Addr.add ⟨t, 0, none⟩ (i.toNat * 8)).add 3) w.drew fun x89_3 =>
    LdI .i64 ((Addr.add ⟨t, 0, none⟩ (i.toNat * 8)).add 4) w.drew fun x89_4 =>
    LdI .u8 ((Addr.add ⟨t, 0, none⟩ (i.toNat * 8)).add 5) w.drew fun x89_5 =>
    LdI .u8 ((Addr.add ⟨t, 0, none⟩ (i.toNat * 8)).add 6) w.drew fun x89_6 =>
    LdI .u8 ((Addr.add ⟨t, 0, none⟩ (i.toNat * 8)).add 7) w.drew fun x89_7 =>
    Pn k fun a =>
    (0 ≤ i ∧ i < ((8 : Nat) : Int)) ∧
    Sts [.int .i64 x89_0, .int .i64 x89_1, .int .u8 x89_2, .int .u8 x89_3, .int .i64 x89_4, .int .u8 x89_5, .int .u8 x89_6, .int .u8 x89_7] (Addr.add a (i.toNat * 8)) 0 w.drew fun w1 =>
    N3 k t ss (IntKind.i64.wrap (i + (1 : Int))) w1) (
    LdI .i64 ⟨t, 64, none⟩ w fun x96 =>
    Pn k fun a_1 =>
    Sts [.int .i64 x96] (a_1.add 64) 0 w fun w2 =>
    LdI .i64 ⟨t, 65, none⟩ w2 fun x102 =>
    Pn k fun a_2 =>
    Sts [.int .i64 x102] (a_2.add 65) 0 w2 fun w3 =>
    kv_KV_Restore.L4 k ss (0 : Int) w3  R)
theorem kv_KV_Restore.L3b_eq (k : Option Addr) (t ss : Nat) (i : Int) (w : World)  (N3 : Option Addr → Nat → Nat → Int → World → Prop) (R : Int → World → Prop) (sL4 : Option Addr → Nat → Int → World → Prop) :
    (
  Bm (decide (i < (8 : Int))) (
    (0 ≤ i ∧ i < ((8 : Nat) : Int)) ∧
    LdI .i64 (Addr.add ⟨t, 0, none⟩ (i.toNat * 8)) w.drew fun x89_0 =>
    LdI .i64 ((Addr.add ⟨t, 0, none⟩ (i.toNat * 8)).add 1) w.drew fun x89_1 =>
    LdI .u8 ((Addr.add ⟨t, 0, none⟩ (i.toNat * 8)).add 2) w.drew fun x89_2 =>
    LdI .u8 ((Addr.add ⟨t, 0, none⟩ (i.toNat * 8)).add 3) w.drew fun x89_3 =>
    LdI .i64 ((Addr.add ⟨t, 0, none⟩ (i.toNat * 8)).add 4) w.drew fun x89_4 =>
    LdI .u8 ((Addr.add ⟨t, 0, none⟩ (i.toNat * 8)).add 5) w.drew fun x89_5 =>
    LdI .u8 ((Addr.add ⟨t, 0, none⟩ (i.toNat * 8)).add 6) w.drew fun x89_6 =>
    LdI .u8 ((Addr.add ⟨t, 0, none⟩ (i.toNat * 8)).add 7) w.drew fun x89_7 =>
    Pn k fun a =>
    (0 ≤ i ∧ i < ((8 : Nat) : Int)) ∧
    Sts [.int .i64 x89_0, .int .i64 x89_1, .int .u8 x89_2, .int .u8 x89_3, .int .i64 x89_4, .int .u8 x89_5, .int .u8 x89_6, .int .u8 x89_7] (Addr.add a (i.toNat * 8)) 0 w.drew fun w1 =>
    N3 k t ss (IntKind.i64.wrap (i + (1 : Int))) w1) (
    LdI .i64 ⟨t, 64, none⟩ w fun x96 =>
    Pn k fun a_1 =>
    Sts [.int .i64 x96] (a_1.add 64) 0 w fun w2 =>
    LdI .i64 ⟨t, 65, none⟩ w2 fun x102 =>
    Pn k fun a_2 =>
    Sts [.int .i64 x102] (a_2.add 65) 0 w2 fun w3 =>
    sL4 k ss (0 : Int) w3)) = kstep Tryz.prog 118 Tryz.f114.results.toList (Tryz.f114.body.getD .skip) (kv_KV_Restore.RV R) (kvc Tryz.prog 118 Tryz.f114.results.toList (Tryz.f114.body.getD .skip) (kv_KV_Restore.RV R) [([(0, [1, 1, 1, 1, 1, 1, 1, 1, 1, 1, 0, 1, 0, 0]), (2, [1, 1, 1, 1, 1, 1, 1, 1, 1, 1, 0, 1, 0, 0]), (1, [4]), (0, [1, 1, 1, 1, 1, 1, 1, 1, 1, 1, 1])], fun σ w => dP (slotOf σ 0) fun k_ => dK (slotOf σ 6) fun t_ => dK (slotOf σ 7) fun ss_ => dI .i64 (slotOf σ 17) fun i_ => N3 k_ t_ ss_ i_ w),
    ([(0, [1, 1, 1, 1, 1, 1, 1, 1, 1, 1, 1, 1, 1, 0, 1, 0, 0]), (2, [1, 1, 1, 1, 1, 1, 1, 1, 1, 1, 1, 1, 1, 0, 1, 0, 0]), (1, [6]), (0, [1, 1, 1, 1, 1, 1, 1, 1, 1, 1, 1, 1, 1, 1])], fun σ w => dP (slotOf σ 0) fun k_ => dK (slotOf σ 7) fun ss_ => dI .i64 (slotOf σ 18) fun c_ => sL4 k_ ss_ c_ w)] 2000) [(0, [1, 1, 1, 1, 1, 1, 1, 1, 1, 1, 0, 1, 0, 0]), (2, [1, 1, 1, 1, 1, 1, 1, 1, 1, 1, 0, 1, 0, 0]), (1, [4]), (0, [1, 1, 1, 1, 1, 1, 1, 1, 1, 1, 1])] [(0, .pointer k), (6, .pointer (some ⟨t, 0, none⟩)), (7, .pointer (some ⟨ss, 0, none⟩)), (17, .int .i64 i)] w := by kernel_rfl
theorem kv_KV_Restore.L3b_sound {R : Int → World → Prop} {N3 : Option Addr → Nat → Nat → Int → World → Prop} (hN3 : ∀ k t ss i w, N3 k t ss i w → KW Tryz.prog 114 118 (kv_KV_Restore.RV R) ([(0, [1, 1, 1, 1, 1, 1, 1, 1, 1, 1, 0, 1, 0, 0]), (2, [1, 1, 1, 1, 1, 1, 1, 1, 1, 1, 0, 1, 0, 0]), (1, [4]), (0, [1, 1, 1, 1, 1, 1, 1, 1, 1, 1, 1])].map (toItem (Tryz.f114.body.getD .skip))) [(0, .pointer k), (6, .pointer (some ⟨t, 0, none⟩)), (7, .pointer (some ⟨ss, 0, none⟩)), (17, .int .i64 i)] w) (k : Option Addr) (t ss : Nat) (i : Int) (w : World) (h : kv_KV_Restore.L3b k t ss i w  N3 R) :
    KW Tryz.prog 114 118 (kv_KV_Restore.RV R) ([(0, [1, 1, 1, 1, 1, 1, 1, 1, 1, 1, 0, 1, 0, 0]), (2, [1, 1, 1, 1, 1, 1, 1, 1, 1, 1, 0, 1, 0, 0]), (1, [4]), (0, [1, 1, 1, 1, 1, 1, 1, 1, 1, 1, 1])].map (toItem (Tryz.f114.body.getD .skip))) [(0, .pointer k), (6, .pointer (some ⟨t, 0, none⟩)), (7, .pointer (some ⟨ss, 0, none⟩)), (17, .int .i64 i)] w := by
  exact block_spec Tryz.func114 Tryz.mixed (stops_cons (fun σ w h => by
      obtain ⟨k_, e0, h⟩ := dP_elim h
      obtain ⟨t_, e1, h⟩ := dK_elim h
      obtain ⟨ss_, e2, h⟩ := dK_elim h
      obtain ⟨i_, e3, h⟩ := dI_elim h
      exact (hN3 k_ t_ ss_ i_ w h).weaken (Sub.cons (Sub.cons (Sub.cons (Sub.cons (Sub.nil _) e3) e2) e1) e0)) (stops_cons (fun σ w h => by
      obtain ⟨k_, e0, h⟩ := dP_elim h
      obtain ⟨ss_, e1, h⟩ := dK_elim h
      obtain ⟨c_, e2, h⟩ := dI_elim h
      exact (kv_KV_Restore.L4_sound  k_ ss_ c_ w h).weaken (Sub.cons (Sub.cons (Sub.cons (Sub.nil _) e2) e1) e0)) stops_nil)) (Eq.mp (kv_KV_Restore.L3b_eq k t ss i w  N3 R (fun k_ ss_ c_ w => kv_KV_Restore.L4 k_ ss_ c_ w  R)) h)
def kv_KV_Restore.L3 (k : Option Addr) (t ss : Nat) (i : Int) (w : World)  (R : Int → World → Prop) : Prop :=
  ∃ (I : Nat → Option Addr → Nat → Nat → Int → World → Prop) (m : Nat), I m k t ss i w ∧ ∀ m k t ss i w, I m k t ss i w → kv_KV_Restore.L3b k t ss i w  (fun k' t' ss' i' w' => ∃ m', m' < m ∧ I m' k' t' ss' i' w') R
theorem kv_KV_Restore.L3_sound {R : Int → World → Prop}  (k : Option Addr) (t ss : Nat) (i : Int) (w : World) (h : kv_KV_Restore.L3 k t ss i w  R) :
    KW Tryz.prog 114 118 (kv_KV_Restore.RV R) ([(0, [1, 1, 1, 1, 1, 1, 1, 1, 1, 1, 0, 1, 0, 0]), (2, [1, 1, 1, 1, 1, 1, 1, 1, 1, 1, 0, 1, 0, 0]), (1, [4]), (0, [1, 1, 1, 1, 1, 1, 1, 1, 1, 1, 1])].map (toItem (Tryz.f114.body.getD .skip))) [(0, .pointer k), (6, .pointer (some ⟨t, 0, none⟩)), (7, .pointer (some ⟨ss, 0, none⟩)), (17, .int .i64 i)] w := by
  obtain ⟨I, m, hBase, hr⟩ := h
  refine KW.loop (fun m σ w => ∃ (k : Option Addr) (t ss : Nat) (i : Int), σ = [(0, .pointer k), (6, .pointer (some ⟨t, 0, none⟩)), (7, .pointer (some ⟨ss, 0, none⟩)), (17, .int .i64 i)] ∧ I m k t ss i w) ?_ m _ w ⟨k, t, ss, i, rfl, hBase⟩
  rintro m ih σ w ⟨k, t, ss, i, rfl, hI⟩
  exact kv_KV_Restore.L3b_sound  (N3 := fun k' t' ss' i' w' => ∃ m', m' < m ∧ I m' k' t' ss' i' w') (fun k' t' ss' i' w' hx => by obtain ⟨m', hlt, hI'⟩ := hx; exact ih m' hlt _ w' ⟨k', t', ss', i', rfl, hI'⟩) k t ss i w (hr m k t ss i w hI)
def kv_KV_Restore.L2b (k : Option Addr) (s : ByteArray) (r t ss : Nat) (c : Int) (w : World)  (N2 : Option Addr → ByteArray → Nat → Nat → Nat → Int → World → Prop) (R : Int → World → Prop) : Prop :=
  Bm (decide (c < (3 : Int))) (
    kv_reader_num.Call (some ⟨r, 0, none⟩) w fun r53 w1 =>
    kv_reader_one.Call (some ⟨r, 0, none⟩) w1 fun r55 w2 =>
    kv_reader_str.Call (some ⟨r, 0, none⟩) (0 : Int) (3 : Int) w2 fun r57 w3 =>
    LdB ⟨r, 2, none⟩ w3 fun x61 =>
    Bm x61 (
      kv_KV_Restore.B2 k s r t ss c r53 r55 r57 true w3 N2 R) (
      kv_KV_Restore.B2 k s r t ss c r53 r55 r57 (decide (r55 ≥ (16 : Int))) w3 N2 R)) (
    LdI .i64 ⟨r, 1, none⟩ w fun x76 =>
    Bm (x76 != ((s.size : Nat) : Int)) (
      R (15 : Int) w) (
      kv_KV_Restore.L3 k t ss (0 : Int) w  R))
theorem kv_KV_Restore.L2b_eq (k : Option Addr) (s : ByteArray) (r t ss : Nat) (c : Int) (w : World)  (N2 : Option Addr → ByteArray → Nat → Nat → Nat → Int → World → Prop) (R : Int → World → Prop) (sB2 : Option Addr → ByteArray → Nat → Nat → Nat → Int → Int → Int → ByteArray → Bool → World → Prop) (sL3 : Option Addr → Nat → Nat → Int → World → Prop) :
    (
  Bm (decide (c < (3 : Int))) (
    kv_reader_num.Call (some ⟨r, 0, none⟩) w fun r53 w1 =>
    kv_reader_one.Call (some ⟨r, 0, none⟩) w1 fun r55 w2 =>
    kv_reader_str.Call (some ⟨r, 0, none⟩) (0 : Int) (3 : Int) w2 fun r57 w3 =>
    LdB ⟨r, 2, none⟩ w3 fun x61 =>
    Bm x61 (
      sB2 k s r t ss c r53 r55 r57 true w3) (
      sB2 k s r t ss c r53 r55 r57 (decide (r55 ≥ (16 : Int))) w3)) (
    LdI .i64 ⟨r, 1, none⟩ w fun x76 =>
    Bm (x76 != ((s.size : Nat) : Int)) (
      R (15 : Int) w) (
      sL3 k t ss (0 : Int) w))) = kstep Tryz.prog 118 Tryz.f114.results.toList (Tryz.f114.body.getD .skip) (kv_KV_Restore.RV R) (kvc Tryz.prog 118 Tryz.f114.results.toList (Tryz.f114.body.getD .skip) (kv_KV_Restore.RV R) [([(0, [1, 1, 1, 1, 1, 1, 1, 1, 0, 1, 0, 0, 1, 0, 0, 1, 1, 1, 0, 1]), (0, [1, 1, 1, 1, 1, 1, 1, 1, 0, 1, 0, 0, 1, 0, 0, 1, 1, 1, 1]), (1, [3]), (0, [1, 1, 1, 1, 1, 1, 1, 1, 0, 1, 0, 0, 1, 1]), (2, [1, 1, 1, 1, 1, 1, 1, 1, 0, 1, 0, 0]), (1, [2]), (0, [1, 1, 1, 1, 1, 1, 1, 1, 1])], fun σ w => dP (slotOf σ 0) fun k_ => dS (slotOf σ 1) fun s_ => dK (slotOf σ 5) fun r_ => dK (slotOf σ 6) fun t_ => dK (slotOf σ 7) fun ss_ => dI .i64 (slotOf σ 13) fun c_ => dI .i64 (slotOf σ 14) fun seq_ => dI .i64 (slotOf σ 15) fun e_ => dS (slotOf σ 16) fun val_ => dB (slotOf σ 65) fun t65_ => sB2 k_ s_ r_ t_ ss_ c_ seq_ e_ val_ t65_ w),
    ([(0, [1, 1, 1, 1, 1, 1, 1, 1, 1, 1, 0, 1, 0, 0]), (2, [1, 1, 1, 1, 1, 1, 1, 1, 1, 1, 0, 1, 0, 0]), (1, [4]), (0, [1, 1, 1, 1, 1, 1, 1, 1, 1, 1, 1])], fun σ w => dP (slotOf σ 0) fun k_ => dK (slotOf σ 6) fun t_ => dK (slotOf σ 7) fun ss_ => dI .i64 (slotOf σ 17) fun i_ => sL3 k_ t_ ss_ i_ w)] 2000) [(0, [1, 1, 1, 1, 1, 1, 1, 1, 0, 1, 0, 0]), (2, [1, 1, 1, 1, 1, 1, 1, 1, 0, 1, 0, 0]), (1, [2]), (0, [1, 1, 1, 1, 1, 1, 1, 1, 1])] [(0, .pointer k), (1, .string s), (5, .pointer (some ⟨r, 0, none⟩)), (6, .pointer (some ⟨t, 0, none⟩)), (7, .pointer (some ⟨ss, 0, none⟩)), (13, .int .i64 c)] w := by kernel_rfl
theorem kv_KV_Restore.L2b_sound {R : Int → World → Prop} {N2 : Option Addr → ByteArray → Nat → Nat → Nat → Int → World → Prop} (hN2 : ∀ k s r t ss c w, N2 k s r t ss c w → KW Tryz.prog 114 118 (kv_KV_Restore.RV R) ([(0, [1, 1, 1, 1, 1, 1, 1, 1, 0, 1, 0, 0]), (2, [1, 1, 1, 1, 1, 1, 1, 1, 0, 1, 0, 0]), (1, [2]), (0, [1, 1, 1, 1, 1, 1, 1, 1, 1])].map (toItem (Tryz.f114.body.getD .skip))) [(0, .pointer k), (1, .string s), (5, .pointer (some ⟨r, 0, none⟩)), (6, .pointer (some ⟨t, 0, none⟩)), (7, .pointer (some ⟨ss, 0, none⟩)), (13, .int .i64 c)] w) (k : Option Addr) (s : ByteArray) (r t ss : Nat) (c : Int) (w : World) (h : kv_KV_Restore.L2b k s r t ss c w  N2 R) :
    KW Tryz.prog 114 118 (kv_KV_Restore.RV R) ([(0, [1, 1, 1, 1, 1, 1, 1, 1, 0, 1, 0, 0]), (2, [1, 1, 1, 1, 1, 1, 1, 1, 0, 1, 0, 0]), (1, [2]), (0, [1, 1, 1, 1, 1, 1, 1, 1, 1])].map (toItem (Tryz.f114.body.getD .skip))) [(0, .pointer k), (1, .string s), (5, .pointer (some ⟨r, 0, none⟩)), (6, .pointer (some ⟨t, 0, none⟩)), (7, .pointer (some ⟨ss, 0, none⟩)), (13, .int .i64 c)] w := by
  exact block_spec Tryz.func114 Tryz.mixed (stops_cons (fun σ w h => by
      obtain ⟨k_, e0, h⟩ := dP_elim h
      obtain ⟨s_, e1, h⟩ := dS_elim h
      obtain ⟨r_, e2, h⟩ := dK_elim h
      obtain ⟨t_, e3, h⟩ := dK_elim h
      obtain ⟨ss_, e4, h⟩ := dK_elim h
      obtain ⟨c_, e5, h⟩ := dI_elim h
      obtain ⟨seq_, e6, h⟩ := dI_elim h
      obtain ⟨e_, e7, h⟩ := dI_elim h
      obtain ⟨val_, e8, h⟩ := dS_elim h
      obtain ⟨t65_, e9, h⟩ := dB_elim h
      exact (kv_KV_Restore.B2_sound hN2 k_ s_ r_ t_ ss_ c_ seq_ e_ val_ t65_ w h).weaken (Sub.cons (Sub.cons (Sub.cons (Sub.cons (Sub.cons (Sub.cons (Sub.cons (Sub.cons (Sub.cons (Sub.cons (Sub.nil _) e9) e8) e7) e6) e5) e4) e3) e2) e1) e0)) (stops_cons (fun σ w h => by
      obtain ⟨k_, e0, h⟩ := dP_elim h
      obtain ⟨t_, e1, h⟩ := dK_elim h
      obtain ⟨ss_, e2, h⟩ := dK_elim h
      obtain ⟨i_, e3, h⟩ := dI_elim h
      exact (kv_KV_Restore.L3_sound  k_ t_ ss_ i_ w h).weaken (Sub.cons (Sub.cons (Sub.cons (Sub.cons (Sub.nil _) e3) e2) e1) e0)) stops_nil)) (Eq.mp (kv_KV_Restore.L2b_eq k s r t ss c w  N2 R (fun k_ s_ r_ t_ ss_ c_ seq_ e_ val_ t65_ w => kv_KV_Restore.B2 k_ s_ r_ t_ ss_ c_ seq_ e_ val_ t65_ w N2 R) (fun k_ t_ ss_ i_ w => kv_KV_Restore.L3 k_ t_ ss_ i_ w  R)) h)
def kv_KV_Restore.L2 (k : Option Addr) (s : ByteArray) (r t ss : Nat) (c : Int) (w : World)  (R : Int → World → Prop) : Prop :=
  ∃ (I : Nat → Option Addr → ByteArray → Nat → Nat → Nat → Int → World → Prop) (m : Nat), I m k s r t ss c w ∧ ∀ m k s r t ss c w, I m k s r t ss c w → kv_KV_Restore.L2b k s r t ss c w  (fun k' s' r' t' ss' c' w' => ∃ m', m' < m ∧ I m' k' s' r' t' ss' c' w') R
theorem kv_KV_Restore.L2_sound {R : Int → World → Prop}  (k : Option Addr) (s : ByteArray) (r t ss : Nat) (c : Int) (w : World) (h : kv_KV_Restore.L2 k s r t ss c w  R) :
    KW Tryz.prog 114 118 (kv_KV_Restore.RV R) ([(0, [1, 1, 1, 1, 1, 1, 1, 1, 0, 1, 0, 0]), (2, [1, 1, 1, 1, 1, 1, 1, 1, 0, 1, 0, 0]), (1, [2]), (0, [1, 1, 1, 1, 1, 1, 1, 1, 1])].map (toItem (Tryz.f114.body.getD .skip))) [(0, .pointer k), (1, .string s), (5, .pointer (some ⟨r, 0, none⟩)), (6, .pointer (some ⟨t, 0, none⟩)), (7, .pointer (some ⟨ss, 0, none⟩)), (13, .int .i64 c)] w := by
  obtain ⟨I, m, hBase, hr⟩ := h
  refine KW.loop (fun m σ w => ∃ (k : Option Addr) (s : ByteArray) (r t ss : Nat) (c : Int), σ = [(0, .pointer k), (1, .string s), (5, .pointer (some ⟨r, 0, none⟩)), (6, .pointer (some ⟨t, 0, none⟩)), (7, .pointer (some ⟨ss, 0, none⟩)), (13, .int .i64 c)] ∧ I m k s r t ss c w) ?_ m _ w ⟨k, s, r, t, ss, c, rfl, hBase⟩
  rintro m ih σ w ⟨k, s, r, t, ss, c, rfl, hI⟩
  exact kv_KV_Restore.L2b_sound  (N2 := fun k' s' r' t' ss' c' w' => ∃ m', m' < m ∧ I m' k' s' r' t' ss' c' w') (fun k' s' r' t' ss' c' w' hx => by obtain ⟨m', hlt, hI'⟩ := hx; exact ih m' hlt _ w' ⟨k', s', r', t', ss', c', rfl, hI'⟩) k s r t ss c w (hr m k s r t ss c w hI)
def kv_KV_Restore.L1b (k : Option Addr) (s : ByteArray) (r t ss : Nat) (n : Int) (before : ByteArray) (i : Int) (w : World)  (N1 : Option Addr → ByteArray → Nat → Nat → Nat → Int → ByteArray → Int → World → Prop) (R : Int → World → Prop) : Prop :=
  Bm (decide (i < n)) (
    kv_reader_str.Call (some ⟨r, 0, none⟩) (1 : Int) (2 : Int) w fun r32 w1 =>
    kv_reader_str.Call (some ⟨r, 0, none⟩) (0 : Int) (3 : Int) w1 fun r34 w2 =>
    LdB ⟨r, 2, none⟩ w2 fun x38 =>
    Bm x38 (
      kv_KV_Restore.B1 k s r t ss n i r32 r34 true w2 N1 R) (
      kv_KV_Restore.B1 k s r t ss n i r32 r34 (Op.bytesLess r32.toList before.toList || r32.toList == before.toList) w2 N1 R)) (
    kv_KV_Restore.L2 k s r t ss (0 : Int) w  R)
theorem kv_KV_Restore.L1b_eq (k : Option Addr) (s : ByteArray) (r t ss : Nat) (n : Int) (before : ByteArray) (i : Int) (w : World)  (N1 : Option Addr → ByteArray → Nat → Nat → Nat → Int → ByteArray → Int → World → Prop) (R : Int → World → Prop) (sB1 : Option Addr → ByteArray → Nat → Nat → Nat → Int → Int → ByteArray → ByteArray → Bool → World → Prop) (sL2 : Option Addr → ByteArray → Nat → Nat → Nat → Int → World → Prop) :
    (
  Bm (decide (i < n)) (
    kv_reader_str.Call (some ⟨r, 0, none⟩) (1 : Int) (2 : Int) w fun r32 w1 =>
    kv_reader_str.Call (some ⟨r, 0, none⟩) (0 : Int) (3 : Int) w1 fun r34 w2 =>
    LdB ⟨r, 2, none⟩ w2 fun x38 =>
    Bm x38 (
      sB1 k s r t ss n i r32 r34 true w2) (
      sB1 k s r t ss n i r32 r34 (Op.bytesLess r32.toList before.toList || r32.toList == before.toList) w2)) (
    sL2 k s r t ss (0 : Int) w)) = kstep Tryz.prog 118 Tryz.f114.results.toList (Tryz.f114.body.getD .skip) (kv_KV_Restore.RV R) (kvc Tryz.prog 118 Tryz.f114.results.toList (Tryz.f114.body.getD .skip) (kv_KV_Restore.RV R) [([(0, [1, 1, 1, 1, 1, 1, 1, 0, 1, 0, 0, 1, 0, 0, 1, 1, 0, 1]), (0, [1, 1, 1, 1, 1, 1, 1, 0, 1, 0, 0, 1, 0, 0, 1, 1, 1]), (1, [1]), (0, [1, 1, 1, 1, 1, 1, 1, 0, 1, 0, 0, 1, 1]), (2, [1, 1, 1, 1, 1, 1, 1, 0, 1, 0, 0]), (1, [0]), (0, [1, 1, 1, 1, 1, 1, 1, 1])], fun σ w => dP (slotOf σ 0) fun k_ => dS (slotOf σ 1) fun s_ => dK (slotOf σ 5) fun r_ => dK (slotOf σ 6) fun t_ => dK (slotOf σ 7) fun ss_ => dI .i64 (slotOf σ 8) fun n_ => dI .i64 (slotOf σ 10) fun i_ => dS (slotOf σ 11) fun key_ => dS (slotOf σ 12) fun val_ => dB (slotOf σ 43) fun t43_ => sB1 k_ s_ r_ t_ ss_ n_ i_ key_ val_ t43_ w),
    ([(0, [1, 1, 1, 1, 1, 1, 1, 1, 0, 1, 0, 0]), (2, [1, 1, 1, 1, 1, 1, 1, 1, 0, 1, 0, 0]), (1, [2]), (0, [1, 1, 1, 1, 1, 1, 1, 1, 1])], fun σ w => dP (slotOf σ 0) fun k_ => dS (slotOf σ 1) fun s_ => dK (slotOf σ 5) fun r_ => dK (slotOf σ 6) fun t_ => dK (slotOf σ 7) fun ss_ => dI .i64 (slotOf σ 13) fun c_ => sL2 k_ s_ r_ t_ ss_ c_ w)] 2000) [(0, [1, 1, 1, 1, 1, 1, 1, 0, 1, 0, 0]), (2, [1, 1, 1, 1, 1, 1, 1, 0, 1, 0, 0]), (1, [0]), (0, [1, 1, 1, 1, 1, 1, 1, 1])] [(0, .pointer k), (1, .string s), (5, .pointer (some ⟨r, 0, none⟩)), (6, .pointer (some ⟨t, 0, none⟩)), (7, .pointer (some ⟨ss, 0, none⟩)), (8, .int .i64 n), (9, .string before), (10, .int .i64 i)] w := by kernel_rfl
theorem kv_KV_Restore.L1b_sound {R : Int → World → Prop} {N1 : Option Addr → ByteArray → Nat → Nat → Nat → Int → ByteArray → Int → World → Prop} (hN1 : ∀ k s r t ss n before i w, N1 k s r t ss n before i w → KW Tryz.prog 114 118 (kv_KV_Restore.RV R) ([(0, [1, 1, 1, 1, 1, 1, 1, 0, 1, 0, 0]), (2, [1, 1, 1, 1, 1, 1, 1, 0, 1, 0, 0]), (1, [0]), (0, [1, 1, 1, 1, 1, 1, 1, 1])].map (toItem (Tryz.f114.body.getD .skip))) [(0, .pointer k), (1, .string s), (5, .pointer (some ⟨r, 0, none⟩)), (6, .pointer (some ⟨t, 0, none⟩)), (7, .pointer (some ⟨ss, 0, none⟩)), (8, .int .i64 n), (9, .string before), (10, .int .i64 i)] w) (k : Option Addr) (s : ByteArray) (r t ss : Nat) (n : Int) (before : ByteArray) (i : Int) (w : World) (h : kv_KV_Restore.L1b k s r t ss n before i w  N1 R) :
    KW Tryz.prog 114 118 (kv_KV_Restore.RV R) ([(0, [1, 1, 1, 1, 1, 1, 1, 0, 1, 0, 0]), (2, [1, 1, 1, 1, 1, 1, 1, 0, 1, 0, 0]), (1, [0]), (0, [1, 1, 1, 1, 1, 1, 1, 1])].map (toItem (Tryz.f114.body.getD .skip))) [(0, .pointer k), (1, .string s), (5, .pointer (some ⟨r, 0, none⟩)), (6, .pointer (some ⟨t, 0, none⟩)), (7, .pointer (some ⟨ss, 0, none⟩)), (8, .int .i64 n), (9, .string before), (10, .int .i64 i)] w := by
  exact block_spec Tryz.func114 Tryz.mixed (stops_cons (fun σ w h => by
      obtain ⟨k_, e0, h⟩ := dP_elim h
      obtain ⟨s_, e1, h⟩ := dS_elim h
      obtain ⟨r_, e2, h⟩ := dK_elim h
      obtain ⟨t_, e3, h⟩ := dK_elim h
      obtain ⟨ss_, e4, h⟩ := dK_elim h
      obtain ⟨n_, e5, h⟩ := dI_elim h
      obtain ⟨i_, e6, h⟩ := dI_elim h
      obtain ⟨key_, e7, h⟩ := dS_elim h
      obtain ⟨val_, e8, h⟩ := dS_elim h
      obtain ⟨t43_, e9, h⟩ := dB_elim h
      exact (kv_KV_Restore.B1_sound hN1 k_ s_ r_ t_ ss_ n_ i_ key_ val_ t43_ w h).weaken (Sub.cons (Sub.cons (Sub.cons (Sub.cons (Sub.cons (Sub.cons (Sub.cons (Sub.cons (Sub.cons (Sub.cons (Sub.nil _) e9) e8) e7) e6) e5) e4) e3) e2) e1) e0)) (stops_cons (fun σ w h => by
      obtain ⟨k_, e0, h⟩ := dP_elim h
      obtain ⟨s_, e1, h⟩ := dS_elim h
      obtain ⟨r_, e2, h⟩ := dK_elim h
      obtain ⟨t_, e3, h⟩ := dK_elim h
      obtain ⟨ss_, e4, h⟩ := dK_elim h
      obtain ⟨c_, e5, h⟩ := dI_elim h
      exact (kv_KV_Restore.L2_sound  k_ s_ r_ t_ ss_ c_ w h).weaken (Sub.cons (Sub.cons (Sub.cons (Sub.cons (Sub.cons (Sub.cons (Sub.nil _) e5) e4) e3) e2) e1) e0)) stops_nil)) (Eq.mp (kv_KV_Restore.L1b_eq k s r t ss n before i w  N1 R (fun k_ s_ r_ t_ ss_ n_ i_ key_ val_ t43_ w => kv_KV_Restore.B1 k_ s_ r_ t_ ss_ n_ i_ key_ val_ t43_ w N1 R) (fun k_ s_ r_ t_ ss_ c_ w => kv_KV_Restore.L2 k_ s_ r_ t_ ss_ c_ w  R)) h)
def kv_KV_Restore.L1 (k : Option Addr) (s : ByteArray) (r t ss : Nat) (n : Int) (before : ByteArray) (i : Int) (w : World)  (R : Int → World → Prop) : Prop :=
  ∃ (I : Nat → Option Addr → ByteArray → Nat → Nat → Nat → Int → ByteArray → Int → World → Prop) (m : Nat), I m k s r t ss n before i w ∧ ∀ m k s r t ss n before i w, I m k s r t ss n before i w → kv_KV_Restore.L1b k s r t ss n before i w  (fun k' s' r' t' ss' n' before' i' w' => ∃ m', m' < m ∧ I m' k' s' r' t' ss' n' before' i' w') R
theorem kv_KV_Restore.L1_sound {R : Int → World → Prop}  (k : Option Addr) (s : ByteArray) (r t ss : Nat) (n : Int) (before : ByteArray) (i : Int) (w : World) (h : kv_KV_Restore.L1 k s r t ss n before i w  R) :
    KW Tryz.prog 114 118 (kv_KV_Restore.RV R) ([(0, [1, 1, 1, 1, 1, 1, 1, 0, 1, 0, 0]), (2, [1, 1, 1, 1, 1, 1, 1, 0, 1, 0, 0]), (1, [0]), (0, [1, 1, 1, 1, 1, 1, 1, 1])].map (toItem (Tryz.f114.body.getD .skip))) [(0, .pointer k), (1, .string s), (5, .pointer (some ⟨r, 0, none⟩)), (6, .pointer (some ⟨t, 0, none⟩)), (7, .pointer (some ⟨ss, 0, none⟩)), (8, .int .i64 n), (9, .string before), (10, .int .i64 i)] w := by
  obtain ⟨I, m, hBase, hr⟩ := h
  refine KW.loop (fun m σ w => ∃ (k : Option Addr) (s : ByteArray) (r t ss : Nat) (n : Int) (before : ByteArray) (i : Int), σ = [(0, .pointer k), (1, .string s), (5, .pointer (some ⟨r, 0, none⟩)), (6, .pointer (some ⟨t, 0, none⟩)), (7, .pointer (some ⟨ss, 0, none⟩)), (8, .int .i64 n), (9, .string before), (10, .int .i64 i)] ∧ I m k s r t ss n before i w) ?_ m _ w ⟨k, s, r, t, ss, n, before, i, rfl, hBase⟩
  rintro m ih σ w ⟨k, s, r, t, ss, n, before, i, rfl, hI⟩
  exact kv_KV_Restore.L1b_sound  (N1 := fun k' s' r' t' ss' n' before' i' w' => ∃ m', m' < m ∧ I m' k' s' r' t' ss' n' before' i' w') (fun k' s' r' t' ss' n' before' i' w' hx => by obtain ⟨m', hlt, hI'⟩ := hx; exact ih m' hlt _ w' ⟨k', s', r', t', ss', n', before', i', rfl, hI'⟩) k s r t ss n before i w (hr m k s r t ss n before i w hI)
def kv_KV_Restore.B0 (k : Option Addr) (s : ByteArray) (w : World)   (R : Int → World → Prop) : Prop :=
  New (.cells #[.string s, .int .i64 (0 : Int), .bool false] 241) w fun b21 w1 =>
  New (.cells #[.int .i64 (0 : Int), .int .i64 (0 : Int), .int .u8 (0 : Int), .int .u8 (0 : Int), .int .i64 (0 : Int), .int .u8 (0 : Int), .int .u8 (0 : Int), .int .u8 (0 : Int), .int .i64 (0 : Int), .int .i64 (0 : Int), .int .u8 (0 : Int), .int .u8 (0 : Int), .int .i64 (0 : Int), .int .u8 (0 : Int), .int .u8 (0 : Int), .int .u8 (0 : Int), .int .i64 (0 : Int), .int .i64 (0 : Int), .int .u8 (0 : Int), .int .u8 (0 : Int), .int .i64 (0 : Int), .int .u8 (0 : Int), .int .u8 (0 : Int), .int .u8 (0 : Int), .int .i64 (0 : Int), .int .i64 (0 : Int), .int .u8 (0 : Int), .int .u8 (0 : Int), .int .i64 (0 : Int), .int .u8 (0 : Int), .int .u8 (0 : Int), .int .u8 (0 : Int), .int .i64 (0 : Int), .int .i64 (0 : Int), .int .u8 (0 : Int), .int .u8 (0 : Int), .int .i64 (0 : Int), .int .u8 (0 : Int), .int .u8 (0 : Int), .int .u8 (0 : Int), .int .i64 (0 : Int), .int .i64 (0 : Int), .int .u8 (0 : Int), .int .u8 (0 : Int), .int .i64 (0 : Int), .int .u8 (0 : Int), .int .u8 (0 : Int), .int .u8 (0 : Int), .int .i64 (0 : Int), .int .i64 (0 : Int), .int .u8 (0 : Int), .int .u8 (0 : Int), .int .i64 (0 : Int), .int .u8 (0 : Int), .int .u8 (0 : Int), .int .u8 (0 : Int), .int .i64 (0 : Int), .int .i64 (0 : Int), .int .u8 (0 : Int), .int .u8 (0 : Int), .int .i64 (0 : Int), .int .u8 (0 : Int), .int .u8 (0 : Int), .int .u8 (0 : Int), .int .i64 (0 : Int), .int .i64 (0 : Int)] 69) w1 fun t_ w2 =>
  New (.cells #[.int .i64 (0 : Int), .int .i64 (0 : Int), .int .i64 (0 : Int), .int .u8 (0 : Int), .int .u8 (0 : Int), .int .u8 (0 : Int), .int .i64 (0 : Int), .int .i64 (0 : Int), .int .i64 (0 : Int), .int .u8 (0 : Int), .int .u8 (0 : Int), .int .u8 (0 : Int), .int .i64 (0 : Int), .int .i64 (0 : Int), .int .i64 (0 : Int), .int .u8 (0 : Int), .int .u8 (0 : Int), .int .u8 (0 : Int)] 72) w2 fun ss_ w3 =>
  kv_reader_one.Call (some ⟨b21, 0, none⟩) w3 fun r23 w4 =>
  Bm (decide (r23 > (4 : Int))) (
    R (15 : Int) w4) (
    kv_KV_Restore.L1 k s b21 t_ ss_ r23 (ByteArray.mk #[]) (0 : Int) w4  R)
theorem kv_KV_Restore.B0_eq (k : Option Addr) (s : ByteArray) (w : World)   (R : Int → World → Prop) (sL1 : Option Addr → ByteArray → Nat → Nat → Nat → Int → ByteArray → Int → World → Prop) :
    (
  New (.cells #[.string s, .int .i64 (0 : Int), .bool false] 241) w fun b21 w1 =>
  New (.cells #[.int .i64 (0 : Int), .int .i64 (0 : Int), .int .u8 (0 : Int), .int .u8 (0 : Int), .int .i64 (0 : Int), .int .u8 (0 : Int), .int .u8 (0 : Int), .int .u8 (0 : Int), .int .i64 (0 : Int), .int .i64 (0 : Int), .int .u8 (0 : Int), .int .u8 (0 : Int), .int .i64 (0 : Int), .int .u8 (0 : Int), .int .u8 (0 : Int), .int .u8 (0 : Int), .int .i64 (0 : Int), .int .i64 (0 : Int), .int .u8 (0 : Int), .int .u8 (0 : Int), .int .i64 (0 : Int), .int .u8 (0 : Int), .int .u8 (0 : Int), .int .u8 (0 : Int), .int .i64 (0 : Int), .int .i64 (0 : Int), .int .u8 (0 : Int), .int .u8 (0 : Int), .int .i64 (0 : Int), .int .u8 (0 : Int), .int .u8 (0 : Int), .int .u8 (0 : Int), .int .i64 (0 : Int), .int .i64 (0 : Int), .int .u8 (0 : Int), .int .u8 (0 : Int), .int .i64 (0 : Int), .int .u8 (0 : Int), .int .u8 (0 : Int), .int .u8 (0 : Int), .int .i64 (0 : Int), .int .i64 (0 : Int), .int .u8 (0 : Int), .int .u8 (0 : Int), .int .i64 (0 : Int), .int .u8 (0 : Int), .int .u8 (0 : Int), .int .u8 (0 : Int), .int .i64 (0 : Int), .int .i64 (0 : Int), .int .u8 (0 : Int), .int .u8 (0 : Int), .int .i64 (0 : Int), .int .u8 (0 : Int), .int .u8 (0 : Int), .int .u8 (0 : Int), .int .i64 (0 : Int), .int .i64 (0 : Int), .int .u8 (0 : Int), .int .u8 (0 : Int), .int .i64 (0 : Int), .int .u8 (0 : Int), .int .u8 (0 : Int), .int .u8 (0 : Int), .int .i64 (0 : Int), .int .i64 (0 : Int)] 69) w1 fun t_ w2 =>
  New (.cells #[.int .i64 (0 : Int), .int .i64 (0 : Int), .int .i64 (0 : Int), .int .u8 (0 : Int), .int .u8 (0 : Int), .int .u8 (0 : Int), .int .i64 (0 : Int), .int .i64 (0 : Int), .int .i64 (0 : Int), .int .u8 (0 : Int), .int .u8 (0 : Int), .int .u8 (0 : Int), .int .i64 (0 : Int), .int .i64 (0 : Int), .int .i64 (0 : Int), .int .u8 (0 : Int), .int .u8 (0 : Int), .int .u8 (0 : Int)] 72) w2 fun ss_ w3 =>
  kv_reader_one.Call (some ⟨b21, 0, none⟩) w3 fun r23 w4 =>
  Bm (decide (r23 > (4 : Int))) (
    R (15 : Int) w4) (
    sL1 k s b21 t_ ss_ r23 (ByteArray.mk #[]) (0 : Int) w4)) = kstep Tryz.prog 118 Tryz.f114.results.toList (Tryz.f114.body.getD .skip) (kv_KV_Restore.RV R) (kvc Tryz.prog 118 Tryz.f114.results.toList (Tryz.f114.body.getD .skip) (kv_KV_Restore.RV R) [([(0, [1, 1, 1, 1, 1, 1, 1, 0, 1, 0, 0]), (2, [1, 1, 1, 1, 1, 1, 1, 0, 1, 0, 0]), (1, [0]), (0, [1, 1, 1, 1, 1, 1, 1, 1])], fun σ w => dP (slotOf σ 0) fun k_ => dS (slotOf σ 1) fun s_ => dK (slotOf σ 5) fun r_ => dK (slotOf σ 6) fun t_ => dK (slotOf σ 7) fun ss_ => dI .i64 (slotOf σ 8) fun n_ => dS (slotOf σ 9) fun before_ => dI .i64 (slotOf σ 10) fun i_ => sL1 k_ s_ r_ t_ ss_ n_ before_ i_ w)] 2000) [(0, [])] [(0, .pointer k), (1, .string s)] w := by kernel_rfl
theorem kv_KV_Restore.B0_sound {R : Int → World → Prop}  (k : Option Addr) (s : ByteArray) (w : World) (h : kv_KV_Restore.B0 k s w   R) :
    KW Tryz.prog 114 118 (kv_KV_Restore.RV R) ([(0, [])].map (toItem (Tryz.f114.body.getD .skip))) [(0, .pointer k), (1, .string s)] w := by
  exact block_spec Tryz.func114 Tryz.mixed (stops_cons (fun σ w h => by
      obtain ⟨k_, e0, h⟩ := dP_elim h
      obtain ⟨s_, e1, h⟩ := dS_elim h
      obtain ⟨r_, e2, h⟩ := dK_elim h
      obtain ⟨t_, e3, h⟩ := dK_elim h
      obtain ⟨ss_, e4, h⟩ := dK_elim h
      obtain ⟨n_, e5, h⟩ := dI_elim h
      obtain ⟨before_, e6, h⟩ := dS_elim h
      obtain ⟨i_, e7, h⟩ := dI_elim h
      exact (kv_KV_Restore.L1_sound  k_ s_ r_ t_ ss_ n_ before_ i_ w h).weaken (Sub.cons (Sub.cons (Sub.cons (Sub.cons (Sub.cons (Sub.cons (Sub.cons (Sub.cons (Sub.nil _) e7) e6) e5) e4) e3) e2) e1) e0)) stops_nil) (Eq.mp (kv_KV_Restore.B0_eq k s w   R (fun k_ s_ r_ t_ ss_ n_ before_ i_ w => kv_KV_Restore.L1 k_ s_ r_ t_ ss_ n_ before_ i_ w  R)) h)
theorem kv_KV_Restore.sound (k : Option Addr) (s : ByteArray) (w : World) (R : Int → World → Prop) (h : kv_KV_Restore.B0 k s w R) : kv_KV_Restore.Call k s w R := by
  have hc := calls_of_block (args := #[.pointer k, .string s]) Tryz.func114 (body := (Tryz.f114.body.getD .skip)) (by kernel_rfl) (by kernel_rfl) (args_slot _) (kv_KV_Restore.B0_sound k s w h)
  exact hc.mono fun e w' he => by
    obtain ⟨v, rfl, hv⟩ := he
    exact kv_KV_Restore.RV_elim hv
def rlogm_Log_Steps.B0 (l : Option Addr) (w : World)   (R : Int → World → Prop) : Prop :=
  Pn l fun a =>
  LdL (a.add 2) w fun x6_b x6_l x6_c =>
  R ((x6_l : Nat) : Int) w
theorem rlogm_Log_Steps.B0_eq (l : Option Addr) (w : World)   (R : Int → World → Prop)  :
    (
  Pn l fun a =>
  LdL (a.add 2) w fun x6_b x6_l x6_c =>
  R ((x6_l : Nat) : Int) w) = kstep Tryz.prog 8 Tryz.f115.results.toList (Tryz.f115.body.getD .skip) (rlogm_Log_Steps.RV R) (kvc Tryz.prog 8 Tryz.f115.results.toList (Tryz.f115.body.getD .skip) (rlogm_Log_Steps.RV R) [] 2000) [(0, [])] [(0, .pointer l)] w := by kernel_rfl
theorem rlogm_Log_Steps.B0_sound {R : Int → World → Prop}  (l : Option Addr) (w : World) (h : rlogm_Log_Steps.B0 l w   R) :
    KW Tryz.prog 115 8 (rlogm_Log_Steps.RV R) ([(0, [])].map (toItem (Tryz.f115.body.getD .skip))) [(0, .pointer l)] w := by
  exact block_spec Tryz.func115 Tryz.mixed stops_nil (Eq.mp (rlogm_Log_Steps.B0_eq l w   R ) h)
theorem rlogm_Log_Steps.sound (l : Option Addr) (w : World) (R : Int → World → Prop) (h : rlogm_Log_Steps.B0 l w R) : rlogm_Log_Steps.Call l w R := by
  have hc := calls_of_block (args := #[.pointer l]) Tryz.func115 (body := (Tryz.f115.body.getD .skip)) (by kernel_rfl) (by kernel_rfl) (args_slot _) (rlogm_Log_Steps.B0_sound l w h)
  exact hc.mono fun e w' he => by
    obtain ⟨v, rfl, hv⟩ := he
    exact rlogm_Log_Steps.RV_elim hv
def rlogm_Log_After.B2 (from0 : Option Addr) (w : World)   (R : Option Addr → World → Prop) : Prop :=
  New (.cells #[.pointer none, .pointer none, .slice none 0 0] 211) w fun b34 w1 =>
  rlogm_state_clone.Call from0 w1 fun r37 w2 =>
  Sts [.pointer r37] ⟨b34, 0, none⟩ 0 w2 fun w3 =>
  rlogm_state_clone.Call from0 w3 fun r42 w4 =>
  Sts [.pointer r42] ⟨b34, 1, none⟩ 0 w4 fun w5 =>
  R (some ⟨b34, 0, none⟩) w5
theorem rlogm_Log_After.B2_eq (from0 : Option Addr) (w : World)   (R : Option Addr → World → Prop)  :
    (
  New (.cells #[.pointer none, .pointer none, .slice none 0 0] 211) w fun b34 w1 =>
  rlogm_state_clone.Call from0 w1 fun r37 w2 =>
  Sts [.pointer r37] ⟨b34, 0, none⟩ 0 w2 fun w3 =>
  rlogm_state_clone.Call from0 w3 fun r42 w4 =>
  Sts [.pointer r42] ⟨b34, 1, none⟩ 0 w4 fun w5 =>
  R (some ⟨b34, 0, none⟩) w5) = kstep Tryz.prog 46 Tryz.f116.results.toList (Tryz.f116.body.getD .skip) (rlogm_Log_After.RV R) (kvc Tryz.prog 46 Tryz.f116.results.toList (Tryz.f116.body.getD .skip) (rlogm_Log_After.RV R) [] 2000) [(0, [1, 1, 1, 1])] [(5, .pointer from0)] w := by kernel_rfl
theorem rlogm_Log_After.B2_sound {R : Option Addr → World → Prop}  (from0 : Option Addr) (w : World) (h : rlogm_Log_After.B2 from0 w   R) :
    KW Tryz.prog 116 46 (rlogm_Log_After.RV R) ([(0, [1, 1, 1, 1])].map (toItem (Tryz.f116.body.getD .skip))) [(5, .pointer from0)] w := by
  exact block_spec Tryz.func116 Tryz.mixed stops_nil (Eq.mp (rlogm_Log_After.B2_eq from0 w   R ) h)
def rlogm_Log_After.B1 (l : Option Addr) (k : Int) (from0 : Option Addr) (w : World)   (R : Option Addr → World → Prop) : Prop :=
  Bm (decide (k > (0 : Int))) (
    Pn l fun a =>
    LdL (a.add 2) w fun x28_b x28_l x28_c =>
    Pn x28_b fun a_1 =>
    (0 ≤ (IntKind.i64.wrap (k - (1 : Int))) ∧ (IntKind.i64.wrap (k - (1 : Int))) < ((x28_l : Nat) : Int)) ∧
    LdP (Addr.add a_1 ((IntKind.i64.wrap (k - (1 : Int))).toNat * 1)) w fun x32 =>
    rlogm_Log_After.B2 x32 w  R) (
    rlogm_Log_After.B2 from0 w  R)
theorem rlogm_Log_After.B1_eq (l : Option Addr) (k : Int) (from0 : Option Addr) (w : World)   (R : Option Addr → World → Prop) (sB2 : Option Addr → World → Prop) :
    (
  Bm (decide (k > (0 : Int))) (
    Pn l fun a =>
    LdL (a.add 2) w fun x28_b x28_l x28_c =>
    Pn x28_b fun a_1 =>
    (0 ≤ (IntKind.i64.wrap (k - (1 : Int))) ∧ (IntKind.i64.wrap (k - (1 : Int))) < ((x28_l : Nat) : Int)) ∧
    LdP (Addr.add a_1 ((IntKind.i64.wrap (k - (1 : Int))).toNat * 1)) w fun x32 =>
    sB2 x32 w) (
    sB2 from0 w)) = kstep Tryz.prog 46 Tryz.f116.results.toList (Tryz.f116.body.getD .skip) (rlogm_Log_After.RV R) (kvc Tryz.prog 46 Tryz.f116.results.toList (Tryz.f116.body.getD .skip) (rlogm_Log_After.RV R) [([(0, [1, 1, 1, 1])], fun σ w => dP (slotOf σ 5) fun from0_ => sB2 from0_ w)] 2000) [(0, [1, 1, 1])] [(0, .pointer l), (1, .int .i64 k), (5, .pointer from0)] w := by kernel_rfl
theorem rlogm_Log_After.B1_sound {R : Option Addr → World → Prop}  (l : Option Addr) (k : Int) (from0 : Option Addr) (w : World) (h : rlogm_Log_After.B1 l k from0 w   R) :
    KW Tryz.prog 116 46 (rlogm_Log_After.RV R) ([(0, [1, 1, 1])].map (toItem (Tryz.f116.body.getD .skip))) [(0, .pointer l), (1, .int .i64 k), (5, .pointer from0)] w := by
  exact block_spec Tryz.func116 Tryz.mixed (stops_cons (fun σ w h => by
      obtain ⟨from0_, e0, h⟩ := dP_elim h
      exact (rlogm_Log_After.B2_sound  from0_ w h).weaken (Sub.cons (Sub.nil _) e0)) stops_nil) (Eq.mp (rlogm_Log_After.B1_eq l k from0 w   R (fun from0_ w => rlogm_Log_After.B2 from0_ w  R)) h)
def rlogm_Log_After.B0 (l : Option Addr) (k : Int) (w : World)   (R : Option Addr → World → Prop) : Prop :=
  Pn l fun a =>
  LdP (a.add 1) w fun x10 =>
  Pn l fun a_1 =>
  LdL (a_1.add 2) w fun x15_b x15_l x15_c =>
  Bm (decide (k > ((x15_l : Nat) : Int))) (
    Pn l fun a_2 =>
    LdL (a_2.add 2) w fun x21_b x21_l x21_c =>
    rlogm_Log_After.B1 l ((x21_l : Nat) : Int) x10 w  R) (
    rlogm_Log_After.B1 l k x10 w  R)
theorem rlogm_Log_After.B0_eq (l : Option Addr) (k : Int) (w : World)   (R : Option Addr → World → Prop) (sB1 : Option Addr → Int → Option Addr → World → Prop) :
    (
  Pn l fun a =>
  LdP (a.add 1) w fun x10 =>
  Pn l fun a_1 =>
  LdL (a_1.add 2) w fun x15_b x15_l x15_c =>
  Bm (decide (k > ((x15_l : Nat) : Int))) (
    Pn l fun a_2 =>
    LdL (a_2.add 2) w fun x21_b x21_l x21_c =>
    sB1 l ((x21_l : Nat) : Int) x10 w) (
    sB1 l k x10 w)) = kstep Tryz.prog 46 Tryz.f116.results.toList (Tryz.f116.body.getD .skip) (rlogm_Log_After.RV R) (kvc Tryz.prog 46 Tryz.f116.results.toList (Tryz.f116.body.getD .skip) (rlogm_Log_After.RV R) [([(0, [1, 1, 1])], fun σ w => dP (slotOf σ 0) fun l_ => dI .i64 (slotOf σ 1) fun k_ => dP (slotOf σ 5) fun from0_ => sB1 l_ k_ from0_ w)] 2000) [(0, [])] [(0, .pointer l), (1, .int .i64 k)] w := by kernel_rfl
theorem rlogm_Log_After.B0_sound {R : Option Addr → World → Prop}  (l : Option Addr) (k : Int) (w : World) (h : rlogm_Log_After.B0 l k w   R) :
    KW Tryz.prog 116 46 (rlogm_Log_After.RV R) ([(0, [])].map (toItem (Tryz.f116.body.getD .skip))) [(0, .pointer l), (1, .int .i64 k)] w := by
  exact block_spec Tryz.func116 Tryz.mixed (stops_cons (fun σ w h => by
      obtain ⟨l_, e0, h⟩ := dP_elim h
      obtain ⟨k_, e1, h⟩ := dI_elim h
      obtain ⟨from0_, e2, h⟩ := dP_elim h
      exact (rlogm_Log_After.B1_sound  l_ k_ from0_ w h).weaken (Sub.cons (Sub.cons (Sub.cons (Sub.nil _) e2) e1) e0)) stops_nil) (Eq.mp (rlogm_Log_After.B0_eq l k w   R (fun l_ k_ from0_ w => rlogm_Log_After.B1 l_ k_ from0_ w  R)) h)
theorem rlogm_Log_After.sound (l : Option Addr) (k : Int) (w : World) (R : Option Addr → World → Prop) (h : rlogm_Log_After.B0 l k w R) : rlogm_Log_After.Call l k w R := by
  have hc := calls_of_block (args := #[.pointer l, .int .i64 k]) Tryz.func116 (body := (Tryz.f116.body.getD .skip)) (by kernel_rfl) (by kernel_rfl) (args_slot _) (rlogm_Log_After.B0_sound l k w h)
  exact hc.mono fun e w' he => by
    obtain ⟨v, rfl, hv⟩ := he
    exact rlogm_Log_After.RV_elim hv
end Go.Proofs.Qxb6500430aGreat
