import Derived.Test.Qxb6500433aGreatSig
set_option maxRecDepth 100000
set_option linter.unusedVariables false
open Go.Vc
namespace Go.Proofs.Qxb6500433aGreat
def store_Store_DelRec.B1 (t : Option Addr) (slot : Int) (t11 : Bool) (w : World)   (R : Int → World → Prop) : Prop :=
  Bm t11 (
    R (1 : Int) w) (
    Pn t fun a =>
    (0 ≤ slot ∧ slot < ((6 : Nat) : Int)) ∧
    LdB (Addr.add (a.add 28) (slot.toNat * 1)) w fun x17 =>
    Bm (!x17) (
      R (2 : Int) w) (
      Pn t fun a_1 =>
      (0 ≤ slot ∧ slot < ((6 : Nat) : Int)) ∧
      Pn t fun a_2 =>
      Sts [.bool false] (Addr.add (a_1.add 28) (slot.toNat * 1)) 0 w.drew fun w1 =>
      (0 ≤ slot ∧ slot < ((6 : Nat) : Int)) ∧
      Sts [.int .i64 (0 : Int), .int .i64 (0 : Int), .string (ByteArray.mk #[])] (Addr.add (a_2.add 34) (slot.toNat * 3)) 0 w1 fun w2 =>
      Make 5 (.int .u8 (0 : Int)) 1 1 (64 : Int) (64 : Int) w2 fun b30 w3 =>
      store_Store_write.Call t (IntKind.i64.wrap ((8 : Int) + slot)) (some ⟨b30, 0, none⟩) 64 64 w3 fun w4 =>
      R (0 : Int) w4))
theorem store_Store_DelRec.B1_eq (t : Option Addr) (slot : Int) (t11 : Bool) (w : World)   (R : Int → World → Prop)  :
    (
  Bm t11 (
    R (1 : Int) w) (
    Pn t fun a =>
    (0 ≤ slot ∧ slot < ((6 : Nat) : Int)) ∧
    LdB (Addr.add (a.add 28) (slot.toNat * 1)) w fun x17 =>
    Bm (!x17) (
      R (2 : Int) w) (
      Pn t fun a_1 =>
      (0 ≤ slot ∧ slot < ((6 : Nat) : Int)) ∧
      Pn t fun a_2 =>
      Sts [.bool false] (Addr.add (a_1.add 28) (slot.toNat * 1)) 0 w.drew fun w1 =>
      (0 ≤ slot ∧ slot < ((6 : Nat) : Int)) ∧
      Sts [.int .i64 (0 : Int), .int .i64 (0 : Int), .string (ByteArray.mk #[])] (Addr.add (a_2.add 34) (slot.toNat * 3)) 0 w1 fun w2 =>
      Make 5 (.int .u8 (0 : Int)) 1 1 (64 : Int) (64 : Int) w2 fun b30 w3 =>
      store_Store_write.Call t (IntKind.i64.wrap ((8 : Int) + slot)) (some ⟨b30, 0, none⟩) 64 64 w3 fun w4 =>
      R (0 : Int) w4))) = kstep Tryz.prog 36 Tryz.f140.results.toList (Tryz.f140.body.getD .skip) (store_Store_DelRec.RV R) (kvc Tryz.prog 36 Tryz.f140.results.toList (Tryz.f140.body.getD .skip) (store_Store_DelRec.RV R) [] 2000) [(0, [1, 0, 1]), (0, [1, 1])] [(0, .pointer t), (1, .int .i64 slot), (11, .bool t11)] w := by kernel_rfl
theorem store_Store_DelRec.B1_sound {R : Int → World → Prop}  (t : Option Addr) (slot : Int) (t11 : Bool) (w : World) (h : store_Store_DelRec.B1 t slot t11 w   R) :
    KW Tryz.prog 140 36 (store_Store_DelRec.RV R) ([(0, [1, 0, 1]), (0, [1, 1])].map (toItem (Tryz.f140.body.getD .skip))) [(0, .pointer t), (1, .int .i64 slot), (11, .bool t11)] w := by
  exact block_spec Tryz.func140 Tryz.mixed stops_nil (Eq.mp (store_Store_DelRec.B1_eq t slot t11 w   R ) h)
def store_Store_DelRec.B0 (t : Option Addr) (slot : Int) (w : World)   (R : Int → World → Prop) : Prop :=
  Bm (decide (slot < (0 : Int))) (
    store_Store_DelRec.B1 t slot true w  R) (
    store_Store_DelRec.B1 t slot (decide (slot ≥ (6 : Int))) w  R)
theorem store_Store_DelRec.B0_eq (t : Option Addr) (slot : Int) (w : World)   (R : Int → World → Prop) (sB1 : Option Addr → Int → Bool → World → Prop) :
    (
  Bm (decide (slot < (0 : Int))) (
    sB1 t slot true w) (
    sB1 t slot (decide (slot ≥ (6 : Int))) w)) = kstep Tryz.prog 36 Tryz.f140.results.toList (Tryz.f140.body.getD .skip) (store_Store_DelRec.RV R) (kvc Tryz.prog 36 Tryz.f140.results.toList (Tryz.f140.body.getD .skip) (store_Store_DelRec.RV R) [([(0, [1, 0, 1]), (0, [1, 1])], fun σ w => dP (slotOf σ 0) fun t_ => dI .i64 (slotOf σ 1) fun slot_ => dB (slotOf σ 11) fun t11_ => sB1 t_ slot_ t11_ w)] 2000) [(0, [])] [(0, .pointer t), (1, .int .i64 slot)] w := by kernel_rfl
theorem store_Store_DelRec.B0_sound {R : Int → World → Prop}  (t : Option Addr) (slot : Int) (w : World) (h : store_Store_DelRec.B0 t slot w   R) :
    KW Tryz.prog 140 36 (store_Store_DelRec.RV R) ([(0, [])].map (toItem (Tryz.f140.body.getD .skip))) [(0, .pointer t), (1, .int .i64 slot)] w := by
  exact block_spec Tryz.func140 Tryz.mixed (stops_cons (fun σ w h => by
      obtain ⟨t_, e0, h⟩ := dP_elim h
      obtain ⟨slot_, e1, h⟩ := dI_elim h
      obtain ⟨t11_, e2, h⟩ := dB_elim h
      exact (store_Store_DelRec.B1_sound  t_ slot_ t11_ w h).weaken (Sub.cons (Sub.cons (Sub.cons (Sub.nil _) e2) e1) e0)) stops_nil) (Eq.mp (store_Store_DelRec.B0_eq t slot w   R (fun t_ slot_ t11_ w => store_Store_DelRec.B1 t_ slot_ t11_ w  R)) h)
theorem store_Store_DelRec.sound (t : Option Addr) (slot : Int) (w : World) (R : Int → World → Prop) (h : store_Store_DelRec.B0 t slot w R) : store_Store_DelRec.Call t slot w R := by
  have hc := calls_of_block (args := #[.pointer t, .int .i64 slot]) Tryz.func140 (body := (Tryz.f140.body.getD .skip)) (by kernel_rfl) (by kernel_rfl) (args_slot _) (store_Store_DelRec.B0_sound t slot w h)
  exact hc.mono fun e w' he => by
    obtain ⟨v, rfl, hv⟩ := he
    exact store_Store_DelRec.RV_elim hv
def elect_Elect_Leader.B0 (e : Option Addr) (w : World)   (R : Int → World → Prop) : Prop :=
  Pn e fun a =>
  LdI .i64 (a.add 2) w fun x6 =>
  0 ≤ (4 : Int) ∧
  R (IntKind.i64.wrap ((IntKind.i64.wrap (BitVec.ofInt IntKind.i64.bits (x6.fdiv (2 ^ (min (4 : Int).toNat IntKind.i64.bits))) &&& BitVec.ofInt IntKind.i64.bits (3 : Int)).toNat) - (1 : Int))) w
theorem elect_Elect_Leader.B0_eq (e : Option Addr) (w : World)   (R : Int → World → Prop)  :
    (
  Pn e fun a =>
  LdI .i64 (a.add 2) w fun x6 =>
  0 ≤ (4 : Int) ∧
  R (IntKind.i64.wrap ((IntKind.i64.wrap (BitVec.ofInt IntKind.i64.bits (x6.fdiv (2 ^ (min (4 : Int).toNat IntKind.i64.bits))) &&& BitVec.ofInt IntKind.i64.bits (3 : Int)).toNat) - (1 : Int))) w) = kstep Tryz.prog 10 Tryz.f141.results.toList (Tryz.f141.body.getD .skip) (elect_Elect_Leader.RV R) (kvc Tryz.prog 10 Tryz.f141.results.toList (Tryz.f141.body.getD .skip) (elect_Elect_Leader.RV R) [] 2000) [(0, [])] [(0, .pointer e)] w := by kernel_rfl
theorem elect_Elect_Leader.B0_sound {R : Int → World → Prop}  (e : Option Addr) (w : World) (h : elect_Elect_Leader.B0 e w   R) :
    KW Tryz.prog 141 10 (elect_Elect_Leader.RV R) ([(0, [])].map (toItem (Tryz.f141.body.getD .skip))) [(0, .pointer e)] w := by
  exact block_spec Tryz.func141 Tryz.mixed stops_nil (Eq.mp (elect_Elect_Leader.B0_eq e w   R ) h)
theorem elect_Elect_Leader.sound (e : Option Addr) (w : World) (R : Int → World → Prop) (h : elect_Elect_Leader.B0 e w R) : elect_Elect_Leader.Call e w R := by
  have hc := calls_of_block (args := #[.pointer e]) Tryz.func141 (body := (Tryz.f141.body.getD .skip)) (by kernel_rfl) (by kernel_rfl) (args_slot _) (elect_Elect_Leader.B0_sound e w h)
  exact hc.mono fun e w' he => by
    obtain ⟨v, rfl, hv⟩ := he
    exact elect_Elect_Leader.RV_elim hv
def elect_Elect_Clock.B0 (e : Option Addr) (w : World)   (R : Int → World → Prop) : Prop :=
  Pn e fun a =>
  LdI .i64 a w.drew fun x6 =>
  Pn e fun a_1 =>
  LdI .i64 (a_1.add 5) w.drew fun x11 =>
  Pn e fun a_2 =>
  LdI .i64 (a_2.add 4) w.drew fun x15 =>
  api_Timeout.Call x6 w.drew fun r7 w1 =>
  w1.cell? (a_2.add 4) = some (.int .i64 x15) ∧
  w1.cell? (a_1.add 5) = some (.int .i64 x11) ∧
  R (IntKind.i64.wrap (r7 - (IntKind.i64.wrap (x11 - x15)))) w1
theorem elect_Elect_Clock.B0_eq (e : Option Addr) (w : World)   (R : Int → World → Prop)  :
    (
  Pn e fun a =>
  LdI .i64 a w.drew fun x6 =>
  Pn e fun a_1 =>
  LdI .i64 (a_1.add 5) w.drew fun x11 =>
  Pn e fun a_2 =>
  LdI .i64 (a_2.add 4) w.drew fun x15 =>
  api_Timeout.Call x6 w.drew fun r7 w1 =>
  w1.cell? (a_2.add 4) = some (.int .i64 x15) ∧
  w1.cell? (a_1.add 5) = some (.int .i64 x11) ∧
  R (IntKind.i64.wrap (r7 - (IntKind.i64.wrap (x11 - x15)))) w1) = kstep Tryz.prog 18 Tryz.f142.results.toList (Tryz.f142.body.getD .skip) (elect_Elect_Clock.RV R) (kvc Tryz.prog 18 Tryz.f142.results.toList (Tryz.f142.body.getD .skip) (elect_Elect_Clock.RV R) [] 2000) [(0, [])] [(0, .pointer e)] w := by kernel_rfl
theorem elect_Elect_Clock.B0_sound {R : Int → World → Prop}  (e : Option Addr) (w : World) (h : elect_Elect_Clock.B0 e w   R) :
    KW Tryz.prog 142 18 (elect_Elect_Clock.RV R) ([(0, [])].map (toItem (Tryz.f142.body.getD .skip))) [(0, .pointer e)] w := by
  exact block_spec Tryz.func142 Tryz.mixed stops_nil (Eq.mp (elect_Elect_Clock.B0_eq e w   R ) h)
theorem elect_Elect_Clock.sound (e : Option Addr) (w : World) (R : Int → World → Prop) (h : elect_Elect_Clock.B0 e w R) : elect_Elect_Clock.Call e w R := by
  have hc := calls_of_block (args := #[.pointer e]) Tryz.func142 (body := (Tryz.f142.body.getD .skip)) (by kernel_rfl) (by kernel_rfl) (args_slot _) (elect_Elect_Clock.B0_sound e w h)
  exact hc.mono fun e w' he => by
    obtain ⟨v, rfl, hv⟩ := he
    exact elect_Elect_Clock.RV_elim hv
def elect_Elect_Got.B0 (e : Option Addr) (p : Int) (w : World)   (R : Bool → World → Prop) : Prop :=
  Bm (decide (p ≥ (0 : Int))) (
    Bm (decide (p < (3 : Int))) (
      Pn e fun a =>
      LdI .i64 (a.add 3) w.drew fun x15 =>
      elect_bit.Call p w.drew fun r17 w1 =>
      w1.cell? (a.add 3) = some (.int .i64 x15) ∧
      R ((IntKind.i64.wrap (BitVec.ofInt IntKind.i64.bits x15 &&& BitVec.ofInt IntKind.i64.bits r17).toNat) != (0 : Int)) w1) (
      R false w.drew)) (
    R false w.drew)
theorem elect_Elect_Got.B0_eq (e : Option Addr) (p : Int) (w : World)   (R : Bool → World → Prop)  :
    (
  Bm (decide (p ≥ (0 : Int))) (
    Bm (decide (p < (3 : Int))) (
      Pn e fun a =>
      LdI .i64 (a.add 3) w.drew fun x15 =>
      elect_bit.Call p w.drew fun r17 w1 =>
      w1.cell? (a.add 3) = some (.int .i64 x15) ∧
      R ((IntKind.i64.wrap (BitVec.ofInt IntKind.i64.bits x15 &&& BitVec.ofInt IntKind.i64.bits r17).toNat) != (0 : Int)) w1) (
      R false w.drew)) (
    R false w.drew)) = kstep Tryz.prog 21 Tryz.f143.results.toList (Tryz.f143.body.getD .skip) (elect_Elect_Got.RV R) (kvc Tryz.prog 21 Tryz.f143.results.toList (Tryz.f143.body.getD .skip) (elect_Elect_Got.RV R) [] 2000) [(0, [])] [(0, .pointer e), (1, .int .i64 p)] w := by kernel_rfl
theorem elect_Elect_Got.B0_sound {R : Bool → World → Prop}  (e : Option Addr) (p : Int) (w : World) (h : elect_Elect_Got.B0 e p w   R) :
    KW Tryz.prog 143 21 (elect_Elect_Got.RV R) ([(0, [])].map (toItem (Tryz.f143.body.getD .skip))) [(0, .pointer e), (1, .int .i64 p)] w := by
  exact block_spec Tryz.func143 Tryz.mixed stops_nil (Eq.mp (elect_Elect_Got.B0_eq e p w   R ) h)
theorem elect_Elect_Got.sound (e : Option Addr) (p : Int) (w : World) (R : Bool → World → Prop) (h : elect_Elect_Got.B0 e p w R) : elect_Elect_Got.Call e p w R := by
  have hc := calls_of_block (args := #[.pointer e, .int .i64 p]) Tryz.func143 (body := (Tryz.f143.body.getD .skip)) (by kernel_rfl) (by kernel_rfl) (args_slot _) (elect_Elect_Got.B0_sound e p w h)
  exact hc.mono fun e w' he => by
    obtain ⟨v, rfl, hv⟩ := he
    exact elect_Elect_Got.RV_elim hv
def rlog_Log_BaseTerm.B0 (l : Option Addr) (w : World)   (R : Int → World → Prop) : Prop :=
  Pn l fun a =>
  LdI .i64 (a.add 4) w fun x6 =>
  R x6 w
theorem rlog_Log_BaseTerm.B0_eq (l : Option Addr) (w : World)   (R : Int → World → Prop)  :
    (
  Pn l fun a =>
  LdI .i64 (a.add 4) w fun x6 =>
  R x6 w) = kstep Tryz.prog 7 Tryz.f144.results.toList (Tryz.f144.body.getD .skip) (rlog_Log_BaseTerm.RV R) (kvc Tryz.prog 7 Tryz.f144.results.toList (Tryz.f144.body.getD .skip) (rlog_Log_BaseTerm.RV R) [] 2000) [(0, [])] [(0, .pointer l)] w := by kernel_rfl
theorem rlog_Log_BaseTerm.B0_sound {R : Int → World → Prop}  (l : Option Addr) (w : World) (h : rlog_Log_BaseTerm.B0 l w   R) :
    KW Tryz.prog 144 7 (rlog_Log_BaseTerm.RV R) ([(0, [])].map (toItem (Tryz.f144.body.getD .skip))) [(0, .pointer l)] w := by
  exact block_spec Tryz.func144 Tryz.mixed stops_nil (Eq.mp (rlog_Log_BaseTerm.B0_eq l w   R ) h)
theorem rlog_Log_BaseTerm.sound (l : Option Addr) (w : World) (R : Int → World → Prop) (h : rlog_Log_BaseTerm.B0 l w R) : rlog_Log_BaseTerm.Call l w R := by
  have hc := calls_of_block (args := #[.pointer l]) Tryz.func144 (body := (Tryz.f144.body.getD .skip)) (by kernel_rfl) (by kernel_rfl) (args_slot _) (rlog_Log_BaseTerm.B0_sound l w h)
  exact hc.mono fun e w' he => by
    obtain ⟨v, rfl, hv⟩ := he
    exact rlog_Log_BaseTerm.RV_elim hv
def rlog_Log_Snap.B0 (l : Option Addr) (w : World)   (R : ByteArray → World → Prop) : Prop :=
  Pn l fun a =>
  LdS (a.add 5) w fun x6 =>
  R x6 w
theorem rlog_Log_Snap.B0_eq (l : Option Addr) (w : World)   (R : ByteArray → World → Prop)  :
    (
  Pn l fun a =>
  LdS (a.add 5) w fun x6 =>
  R x6 w) = kstep Tryz.prog 7 Tryz.f145.results.toList (Tryz.f145.body.getD .skip) (rlog_Log_Snap.RV R) (kvc Tryz.prog 7 Tryz.f145.results.toList (Tryz.f145.body.getD .skip) (rlog_Log_Snap.RV R) [] 2000) [(0, [])] [(0, .pointer l)] w := by kernel_rfl
theorem rlog_Log_Snap.B0_sound {R : ByteArray → World → Prop}  (l : Option Addr) (w : World) (h : rlog_Log_Snap.B0 l w   R) :
    KW Tryz.prog 145 7 (rlog_Log_Snap.RV R) ([(0, [])].map (toItem (Tryz.f145.body.getD .skip))) [(0, .pointer l)] w := by
  exact block_spec Tryz.func145 Tryz.mixed stops_nil (Eq.mp (rlog_Log_Snap.B0_eq l w   R ) h)
theorem rlog_Log_Snap.sound (l : Option Addr) (w : World) (R : ByteArray → World → Prop) (h : rlog_Log_Snap.B0 l w R) : rlog_Log_Snap.Call l w R := by
  have hc := calls_of_block (args := #[.pointer l]) Tryz.func145 (body := (Tryz.f145.body.getD .skip)) (by kernel_rfl) (by kernel_rfl) (args_slot _) (rlog_Log_Snap.B0_sound l w h)
  exact hc.mono fun e w' he => by
    obtain ⟨v, rfl, hv⟩ := he
    exact rlog_Log_Snap.RV_elim hv
def rlogm_Log_At.B0 (l : Option Addr) (i : Int) (w : World)   (R : Int → ByteArray → Int → World → Prop) : Prop :=
  New (.cells #[.int .i64 (0 : Int), .string (ByteArray.mk #[])] 103) w fun b4 w1 =>
  Pn l fun a =>
  LdP a w1 fun x10 =>
  Pn x10 fun a_1 =>
  LdI .i64 (a_1.add 2) w1 fun x13 =>
  Bm (decide (i ≤ x13)) (
    Sts [.int .i64 (0 : Int), .string (ByteArray.mk #[])] ⟨b4, 0, none⟩ 0 w1 fun w2 =>
    LdI .i64 ⟨b4, 0, none⟩ w2 fun r_0 =>
    LdS ⟨b4, 1, none⟩ w2 fun r_1 =>
    R r_0 r_1 (7 : Int) w2) (
    rlogm_Log_Last.Call l w1 fun r18 w3 =>
    Bm (decide (i > r18)) (
      Sts [.int .i64 (0 : Int), .string (ByteArray.mk #[])] ⟨b4, 0, none⟩ 0 w3 fun w4 =>
      LdI .i64 ⟨b4, 0, none⟩ w4 fun r_0_1 =>
      LdS ⟨b4, 1, none⟩ w4 fun r_1_1 =>
      R r_0_1 r_1_1 (2 : Int) w4) (
      Pn l fun a_2 =>
      LdP a_2 w3.drew fun x24 =>
      Pn l fun a_3 =>
      LdP a_3 w3.drew fun x29 =>
      Pn x29 fun a_4 =>
      LdI .i64 (a_4.add 2) w3.drew fun x32 =>
      Pn x24 fun a_5 =>
      (0 ≤ (IntKind.i64.wrap ((IntKind.i64.wrap (i - x32)) - (1 : Int))) ∧ (IntKind.i64.wrap ((IntKind.i64.wrap (i - x32)) - (1 : Int))) < ((6 : Nat) : Int)) ∧
      LdI .i64 (Addr.add (a_5.add 6) ((IntKind.i64.wrap ((IntKind.i64.wrap (i - x32)) - (1 : Int))).toNat * 2)) w3.drew fun x38_0 =>
      LdS ((Addr.add (a_5.add 6) ((IntKind.i64.wrap ((IntKind.i64.wrap (i - x32)) - (1 : Int))).toNat * 2)).add 1) w3.drew fun x38_1 =>
      Sts [.int .i64 x38_0, .string x38_1] ⟨b4, 0, none⟩ 0 w3.drew fun w5 =>
      LdI .i64 ⟨b4, 0, none⟩ w5 fun r_0_2 =>
      LdS ⟨b4, 1, none⟩ w5 fun r_1_2 =>
      R r_0_2 r_1_2 (0 : Int) w5))
theorem rlogm_Log_At.B0_eq (l : Option Addr) (i : Int) (w : World)   (R : Int → ByteArray → Int → World → Prop)  :
    (
  New (.cells #[.int .i64 (0 : Int), .string (ByteArray.mk #[])] 103) w fun b4 w1 =>
  Pn l fun a =>
  LdP a w1 fun x10 =>
  Pn x10 fun a_1 =>
  LdI .i64 (a_1.add 2) w1 fun x13 =>
  Bm (decide (i ≤ x13)) (
    Sts [.int .i64 (0 : Int), .string (ByteArray.mk #[])] ⟨b4, 0, none⟩ 0 w1 fun w2 =>
    LdI .i64 ⟨b4, 0, none⟩ w2 fun r_0 =>
    LdS ⟨b4, 1, none⟩ w2 fun r_1 =>
    R r_0 r_1 (7 : Int) w2) (
    rlogm_Log_Last.Call l w1 fun r18 w3 =>
    Bm (decide (i > r18)) (
      Sts [.int .i64 (0 : Int), .string (ByteArray.mk #[])] ⟨b4, 0, none⟩ 0 w3 fun w4 =>
      LdI .i64 ⟨b4, 0, none⟩ w4 fun r_0_1 =>
      LdS ⟨b4, 1, none⟩ w4 fun r_1_1 =>
      R r_0_1 r_1_1 (2 : Int) w4) (
      Pn l fun a_2 =>
      LdP a_2 w3.drew fun x24 =>
      Pn l fun a_3 =>
      LdP a_3 w3.drew fun x29 =>
      Pn x29 fun a_4 =>
      LdI .i64 (a_4.add 2) w3.drew fun x32 =>
      Pn x24 fun a_5 =>
      (0 ≤ (IntKind.i64.wrap ((IntKind.i64.wrap (i - x32)) - (1 : Int))) ∧ (IntKind.i64.wrap ((IntKind.i64.wrap (i - x32)) - (1 : Int))) < ((6 : Nat) : Int)) ∧
      LdI .i64 (Addr.add (a_5.add 6) ((IntKind.i64.wrap ((IntKind.i64.wrap (i - x32)) - (1 : Int))).toNat * 2)) w3.drew fun x38_0 =>
      LdS ((Addr.add (a_5.add 6) ((IntKind.i64.wrap ((IntKind.i64.wrap (i - x32)) - (1 : Int))).toNat * 2)).add 1) w3.drew fun x38_1 =>
      Sts [.int .i64 x38_0, .string x38_1] ⟨b4, 0, none⟩ 0 w3.drew fun w5 =>
      LdI .i64 ⟨b4, 0, none⟩ w5 fun r_0_2 =>
      LdS ⟨b4, 1, none⟩ w5 fun r_1_2 =>
      R r_0_2 r_1_2 (0 : Int) w5))) = kstep Tryz.prog 39 Tryz.f146.results.toList (Tryz.f146.body.getD .skip) (rlogm_Log_At.RV R) (kvc Tryz.prog 39 Tryz.f146.results.toList (Tryz.f146.body.getD .skip) (rlogm_Log_At.RV R) [] 2000) [(0, [])] [(0, .pointer l), (1, .int .i64 i)] w := by kernel_rfl
theorem rlogm_Log_At.B0_sound {R : Int → ByteArray → Int → World → Prop}  (l : Option Addr) (i : Int) (w : World) (h : rlogm_Log_At.B0 l i w   R) :
    KW Tryz.prog 146 39 (rlogm_Log_At.RV R) ([(0, [])].map (toItem (Tryz.f146.body.getD .skip))) [(0, .pointer l), (1, .int .i64 i)] w := by
  exact block_spec Tryz.func146 Tryz.mixed stops_nil (Eq.mp (rlogm_Log_At.B0_eq l i w   R ) h)
theorem rlogm_Log_At.sound (l : Option Addr) (i : Int) (w : World) (R : Int → ByteArray → Int → World → Prop) (h : rlogm_Log_At.B0 l i w R) : rlogm_Log_At.Call l i w R := by
  have hc := calls_of_block (args := #[.pointer l, .int .i64 i]) Tryz.func146 (body := (Tryz.f146.body.getD .skip)) (by kernel_rfl) (by kernel_rfl) (args_slot _) (rlogm_Log_At.B0_sound l i w h)
  exact hc.mono fun e w' he => by
    obtain ⟨v, rfl, hv⟩ := he
    exact rlogm_Log_At.RV_elim hv
def elect_turn.B1 (t11 : Bool) (w : World)   (R : Int → World → Prop) : Prop :=
  Bm t11 (
    R (0 : Int) w) (
    R (-1 : Int) w)
theorem elect_turn.B1_eq (t11 : Bool) (w : World)   (R : Int → World → Prop)  :
    (
  Bm t11 (
    R (0 : Int) w) (
    R (-1 : Int) w)) = kstep Tryz.prog 29 Tryz.f147.results.toList (Tryz.f147.body.getD .skip) (elect_turn.RV R) (kvc Tryz.prog 29 Tryz.f147.results.toList (Tryz.f147.body.getD .skip) (elect_turn.RV R) [] 2000) [(0, [1, 0, 1, 0, 1, 0, 1, 0, 1, 1, 1]), (1, [1]), (1, [0]), (0, [1, 1])] [(11, .bool t11)] w := by kernel_rfl
theorem elect_turn.B1_sound {R : Int → World → Prop}  (t11 : Bool) (w : World) (h : elect_turn.B1 t11 w   R) :
    KW Tryz.prog 147 29 (elect_turn.RV R) ([(0, [1, 0, 1, 0, 1, 0, 1, 0, 1, 1, 1]), (1, [1]), (1, [0]), (0, [1, 1])].map (toItem (Tryz.f147.body.getD .skip))) [(11, .bool t11)] w := by
  exact block_spec Tryz.func147 Tryz.mixed stops_nil (Eq.mp (elect_turn.B1_eq t11 w   R ) h)
def elect_turn.B3 (t16 : Int) (t20 : Bool) (w : World)   (R : Int → World → Prop) : Prop :=
  Bm t20 (
    R (0 : Int) w) (
    Bm (t16 == (3 : Int)) (
      R (2 : Int) w) (
      R (-1 : Int) w))
theorem elect_turn.B3_eq (t16 : Int) (t20 : Bool) (w : World)   (R : Int → World → Prop)  :
    (
  Bm t20 (
    R (0 : Int) w) (
    Bm (t16 == (3 : Int)) (
      R (2 : Int) w) (
      R (-1 : Int) w))) = kstep Tryz.prog 29 Tryz.f147.results.toList (Tryz.f147.body.getD .skip) (elect_turn.RV R) (kvc Tryz.prog 29 Tryz.f147.results.toList (Tryz.f147.body.getD .skip) (elect_turn.RV R) [] 2000) [(0, [1, 0, 1, 0, 1, 1, 1, 0, 1, 0, 1, 1, 1]), (1, [2]), (1, [0]), (0, [1, 1])] [(16, .int .i64 t16), (20, .bool t20)] w := by kernel_rfl
theorem elect_turn.B3_sound {R : Int → World → Prop}  (t16 : Int) (t20 : Bool) (w : World) (h : elect_turn.B3 t16 t20 w   R) :
    KW Tryz.prog 147 29 (elect_turn.RV R) ([(0, [1, 0, 1, 0, 1, 1, 1, 0, 1, 0, 1, 1, 1]), (1, [2]), (1, [0]), (0, [1, 1])].map (toItem (Tryz.f147.body.getD .skip))) [(16, .int .i64 t16), (20, .bool t20)] w := by
  exact block_spec Tryz.func147 Tryz.mixed stops_nil (Eq.mp (elect_turn.B3_eq t16 t20 w   R ) h)
def elect_turn.B2 (t16 : Int) (t17 : Bool) (w : World)   (R : Int → World → Prop) : Prop :=
  Bm t17 (
    R (1 : Int) w) (
    Bm (t16 == (1 : Int)) (
      elect_turn.B3 t16 (t16 == (1 : Int)) w  R) (
      elect_turn.B3 t16 (t16 == (4 : Int)) w  R))
theorem elect_turn.B2_eq (t16 : Int) (t17 : Bool) (w : World)   (R : Int → World → Prop) (sB3 : Int → Bool → World → Prop) :
    (
  Bm t17 (
    R (1 : Int) w) (
    Bm (t16 == (1 : Int)) (
      sB3 t16 (t16 == (1 : Int)) w) (
      sB3 t16 (t16 == (4 : Int)) w))) = kstep Tryz.prog 29 Tryz.f147.results.toList (Tryz.f147.body.getD .skip) (elect_turn.RV R) (kvc Tryz.prog 29 Tryz.f147.results.toList (Tryz.f147.body.getD .skip) (elect_turn.RV R) [([(0, [1, 0, 1, 0, 1, 1, 1, 0, 1, 0, 1, 1, 1]), (1, [2]), (1, [0]), (0, [1, 1])], fun σ w => dI .i64 (slotOf σ 16) fun t16_ => dB (slotOf σ 20) fun t20_ => sB3 t16_ t20_ w)] 2000) [(0, [1, 0, 1, 0, 1, 1, 1, 0, 1, 0, 1]), (1, [2]), (1, [0]), (0, [1, 1])] [(16, .int .i64 t16), (17, .bool t17)] w := by kernel_rfl
theorem elect_turn.B2_sound {R : Int → World → Prop}  (t16 : Int) (t17 : Bool) (w : World) (h : elect_turn.B2 t16 t17 w   R) :
    KW Tryz.prog 147 29 (elect_turn.RV R) ([(0, [1, 0, 1, 0, 1, 1, 1, 0, 1, 0, 1]), (1, [2]), (1, [0]), (0, [1, 1])].map (toItem (Tryz.f147.body.getD .skip))) [(16, .int .i64 t16), (17, .bool t17)] w := by
  exact block_spec Tryz.func147 Tryz.mixed (stops_cons (fun σ w h => by
      obtain ⟨t16_, e0, h⟩ := dI_elim h
      obtain ⟨t20_, e1, h⟩ := dB_elim h
      exact (elect_turn.B3_sound  t16_ t20_ w h).weaken (Sub.cons (Sub.cons (Sub.nil _) e1) e0)) stops_nil) (Eq.mp (elect_turn.B2_eq t16 t17 w   R (fun t16_ t20_ w => elect_turn.B3 t16_ t20_ w  R)) h)
def elect_turn.B0 (role ev : Int) (w : World)   (R : Int → World → Prop) : Prop :=
  Bm (role == (0 : Int)) (
    Bm (ev == (0 : Int)) (
      R (1 : Int) w) (
      Bm (ev == (1 : Int)) (
        elect_turn.B1 (ev == (1 : Int)) w  R) (
        elect_turn.B1 (ev == (4 : Int)) w  R))) (
    Bm (role == (1 : Int)) (
      Bm (ev == (0 : Int)) (
        elect_turn.B2 ev (ev == (0 : Int)) w  R) (
        elect_turn.B2 ev (ev == (2 : Int)) w  R)) (
      Bm (role == (2 : Int)) (
        Bm (ev == (1 : Int)) (
          R (0 : Int) w) (
          R (-1 : Int) w)) (
        R (-1 : Int) w)))
theorem elect_turn.B0_eq (role ev : Int) (w : World)   (R : Int → World → Prop) (sB1 : Bool → World → Prop) (sB2 : Int → Bool → World → Prop) :
    (
  Bm (role == (0 : Int)) (
    Bm (ev == (0 : Int)) (
      R (1 : Int) w) (
      Bm (ev == (1 : Int)) (
        sB1 (ev == (1 : Int)) w) (
        sB1 (ev == (4 : Int)) w))) (
    Bm (role == (1 : Int)) (
      Bm (ev == (0 : Int)) (
        sB2 ev (ev == (0 : Int)) w) (
        sB2 ev (ev == (2 : Int)) w)) (
      Bm (role == (2 : Int)) (
        Bm (ev == (1 : Int)) (
          R (0 : Int) w) (
          R (-1 : Int) w)) (
        R (-1 : Int) w)))) = kstep Tryz.prog 29 Tryz.f147.results.toList (Tryz.f147.body.getD .skip) (elect_turn.RV R) (kvc Tryz.prog 29 Tryz.f147.results.toList (Tryz.f147.body.getD .skip) (elect_turn.RV R) [([(0, [1, 0, 1, 0, 1, 0, 1, 0, 1, 1, 1]), (1, [1]), (1, [0]), (0, [1, 1])], fun σ w => dB (slotOf σ 11) fun t11_ => sB1 t11_ w),
    ([(0, [1, 0, 1, 0, 1, 1, 1, 0, 1, 0, 1]), (1, [2]), (1, [0]), (0, [1, 1])], fun σ w => dI .i64 (slotOf σ 16) fun t16_ => dB (slotOf σ 17) fun t17_ => sB2 t16_ t17_ w)] 2000) [(0, [])] [(0, .int .i64 role), (1, .int .i64 ev)] w := by kernel_rfl
theorem elect_turn.B0_sound {R : Int → World → Prop}  (role ev : Int) (w : World) (h : elect_turn.B0 role ev w   R) :
    KW Tryz.prog 147 29 (elect_turn.RV R) ([(0, [])].map (toItem (Tryz.f147.body.getD .skip))) [(0, .int .i64 role), (1, .int .i64 ev)] w := by
  exact block_spec Tryz.func147 Tryz.mixed (stops_cons (fun σ w h => by
      obtain ⟨t11_, e0, h⟩ := dB_elim h
      exact (elect_turn.B1_sound  t11_ w h).weaken (Sub.cons (Sub.nil _) e0)) (stops_cons (fun σ w h => by
      obtain ⟨t16_, e0, h⟩ := dI_elim h
      obtain ⟨t17_, e1, h⟩ := dB_elim h
      exact (elect_turn.B2_sound  t16_ t17_ w h).weaken (Sub.cons (Sub.cons (Sub.nil _) e1) e0)) stops_nil)) (Eq.mp (elect_turn.B0_eq role ev w   R (fun t11_ w => elect_turn.B1 t11_ w  R) (fun t16_ t17_ w => elect_turn.B2 t16_ t17_ w  R)) h)
theorem elect_turn.sound (role ev : Int) (w : World) (R : Int → World → Prop) (h : elect_turn.B0 role ev w R) : elect_turn.Call role ev w R := by
  have hc := calls_of_block (args := #[.int .i64 role, .int .i64 ev]) Tryz.func147 (body := (Tryz.f147.body.getD .skip)) (by kernel_rfl) (by kernel_rfl) (args_slot _) (elect_turn.B0_sound role ev w h)
  exact hc.mono fun e w' he => by
    obtain ⟨v, rfl, hv⟩ := he
    exact elect_turn.RV_elim hv
def elect_bit.L1b (p b i : Int) (w : World)  (N1 : Int → Int → Int → World → Prop) (R : Int → World → Prop) : Prop :=
  Bm (decide (i < p)) (
    0 ≤ (1 : Int) ∧
    N1 p (IntKind.i64.wrap (b * 2 ^ (min (1 : Int).toNat IntKind.i64.bits))) (IntKind.i64.wrap (i + (1 : Int))) w) (
    R b w)
theorem elect_bit.L1b_eq (p b i : Int) (w : World)  (N1 : Int → Int → Int → World → Prop) (R : Int → World → Prop)  :
    (
  Bm (decide (i < p)) (
    0 ≤ (1 : Int) ∧
    N1 p (IntKind.i64.wrap (b * 2 ^ (min (1 : Int).toNat IntKind.i64.bits))) (IntKind.i64.wrap (i + (1 : Int))) w) (
    R b w)) = kstep Tryz.prog 13 Tryz.f148.results.toList (Tryz.f148.body.getD .skip) (elect_bit.RV R) (kvc Tryz.prog 13 Tryz.f148.results.toList (Tryz.f148.body.getD .skip) (elect_bit.RV R) [([(0, [1, 1, 0, 1, 0, 0]), (2, [1, 1, 0, 1, 0, 0]), (1, [0]), (0, [1, 1, 1])], fun σ w => dI .i64 (slotOf σ 0) fun p_ => dI .i64 (slotOf σ 3) fun b_ => dI .i64 (slotOf σ 4) fun i_ => N1 p_ b_ i_ w)] 2000) [(0, [1, 1, 0, 1, 0, 0]), (2, [1, 1, 0, 1, 0, 0]), (1, [0]), (0, [1, 1, 1])] [(0, .int .i64 p), (3, .int .i64 b), (4, .int .i64 i)] w := by kernel_rfl
theorem elect_bit.L1b_sound {R : Int → World → Prop} {N1 : Int → Int → Int → World → Prop} (hN1 : ∀ p b i w, N1 p b i w → KW Tryz.prog 148 13 (elect_bit.RV R) ([(0, [1, 1, 0, 1, 0, 0]), (2, [1, 1, 0, 1, 0, 0]), (1, [0]), (0, [1, 1, 1])].map (toItem (Tryz.f148.body.getD .skip))) [(0, .int .i64 p), (3, .int .i64 b), (4, .int .i64 i)] w) (p b i : Int) (w : World) (h : elect_bit.L1b p b i w  N1 R) :
    KW Tryz.prog 148 13 (elect_bit.RV R) ([(0, [1, 1, 0, 1, 0, 0]), (2, [1, 1, 0, 1, 0, 0]), (1, [0]), (0, [1, 1, 1])].map (toItem (Tryz.f148.body.getD .skip))) [(0, .int .i64 p), (3, .int .i64 b), (4, .int .i64 i)] w := by
  exact block_spec Tryz.func148 Tryz.mixed (stops_cons (fun σ w h => by
      obtain ⟨p_, e0, h⟩ := dI_elim h
      obtain ⟨b_, e1, h⟩ := dI_elim h
      obtain ⟨i_, e2, h⟩ := dI_elim h
      exact (hN1 p_ b_ i_ w h).weaken (Sub.cons (Sub.cons (Sub.cons (Sub.nil _) e2) e1) e0)) stops_nil) (Eq.mp (elect_bit.L1b_eq p b i w  N1 R ) h)
def elect_bit.L1 (p b i : Int) (w : World)  (R : Int → World → Prop) : Prop :=
  ∃ (I : Nat → Int → Int → Int → World → Prop) (m : Nat), I m p b i w ∧ ∀ m p b i w, I m p b i w → elect_bit.L1b p b i w  (fun p' b' i' w' => ∃ m', m' < m ∧ I m' p' b' i' w') R
theorem elect_bit.L1_sound {R : Int → World → Prop}  (p b i : Int) (w : World) (h : elect_bit.L1 p b i w  R) :
    KW Tryz.prog 148 13 (elect_bit.RV R) ([(0, [1, 1, 0, 1, 0, 0]), (2, [1, 1, 0, 1, 0, 0]), (1, [0]), (0, [1, 1, 1])].map (toItem (Tryz.f148.body.getD .skip))) [(0, .int .i64 p), (3, .int .i64 b), (4, .int .i64 i)] w := by
  obtain ⟨I, m, hBase, hr⟩ := h
  refine KW.loop (fun m σ w => ∃ (p b i : Int), σ = [(0, .int .i64 p), (3, .int .i64 b), (4, .int .i64 i)] ∧ I m p b i w) ?_ m _ w ⟨p, b, i, rfl, hBase⟩
  rintro m ih σ w ⟨p, b, i, rfl, hI⟩
  exact elect_bit.L1b_sound  (N1 := fun p' b' i' w' => ∃ m', m' < m ∧ I m' p' b' i' w') (fun p' b' i' w' hx => by obtain ⟨m', hlt, hI'⟩ := hx; exact ih m' hlt _ w' ⟨p', b', i', rfl, hI'⟩) p b i w (hr m p b i w hI)
def elect_bit.B0 (p : Int) (w : World)   (R : Int → World → Prop) : Prop :=
  elect_bit.L1 p (1 : Int) (0 : Int) w  R
theorem elect_bit.B0_eq (p : Int) (w : World)   (R : Int → World → Prop) (sL1 : Int → Int → Int → World → Prop) :
    (
  sL1 p (1 : Int) (0 : Int) w) = kstep Tryz.prog 13 Tryz.f148.results.toList (Tryz.f148.body.getD .skip) (elect_bit.RV R) (kvc Tryz.prog 13 Tryz.f148.results.toList (Tryz.f148.body.getD .skip) (elect_bit.RV R) [([(0, [1, 1, 0, 1, 0, 0]), (2, [1, 1, 0, 1, 0, 0]), (1, [0]), (0, [1, 1, 1])], fun σ w => dI .i64 (slotOf σ 0) fun p_ => dI .i64 (slotOf σ 3) fun b_ => dI .i64 (slotOf σ 4) fun i_ => sL1 p_ b_ i_ w)] 2000) [(0, [])] [(0, .int .i64 p)] w := by kernel_rfl
theorem elect_bit.B0_sound {R : Int → World → Prop}  (p : Int) (w : World) (h : elect_bit.B0 p w   R) :
    KW Tryz.prog 148 13 (elect_bit.RV R) ([(0, [])].map (toItem (Tryz.f148.body.getD .skip))) [(0, .int .i64 p)] w := by
  exact block_spec Tryz.func148 Tryz.mixed (stops_cons (fun σ w h => by
      obtain ⟨p_, e0, h⟩ := dI_elim h
      obtain ⟨b_, e1, h⟩ := dI_elim h
      obtain ⟨i_, e2, h⟩ := dI_elim h
      exact (elect_bit.L1_sound  p_ b_ i_ w h).weaken (Sub.cons (Sub.cons (Sub.cons (Sub.nil _) e2) e1) e0)) stops_nil) (Eq.mp (elect_bit.B0_eq p w   R (fun p_ b_ i_ w => elect_bit.L1 p_ b_ i_ w  R)) h)
theorem elect_bit.sound (p : Int) (w : World) (R : Int → World → Prop) (h : elect_bit.B0 p w R) : elect_bit.Call p w R := by
  have hc := calls_of_block (args := #[.int .i64 p]) Tryz.func148 (body := (Tryz.f148.body.getD .skip)) (by kernel_rfl) (by kernel_rfl) (args_slot _) (elect_bit.B0_sound p w h)
  exact hc.mono fun e w' he => by
    obtain ⟨v, rfl, hv⟩ := he
    exact elect_bit.RV_elim hv
def rlog_Log_SetTerm.B1 (l : Option Addr) (term vote : Int) (t21 : Bool) (w : World)   (R : Int → World → Prop) : Prop :=
  Bm t21 (
    R (1 : Int) w) (
    Pn l fun a =>
    LdP a w fun x25 =>
    store_Store_SetMeta.Call x25 term vote w fun r28 w1 =>
    Bm (r28 != (0 : Int)) (
      R r28 w1) (
      Pn l fun a_1 =>
      Sts [.int .i64 term] (a_1.add 1) 0 w1 fun w2 =>
      Pn l fun a_2 =>
      Sts [.int .i64 vote] (a_2.add 2) 0 w2 fun w3 =>
      R (0 : Int) w3))
theorem rlog_Log_SetTerm.B1_eq (l : Option Addr) (term vote : Int) (t21 : Bool) (w : World)   (R : Int → World → Prop)  :
    (
  Bm t21 (
    R (1 : Int) w) (
    Pn l fun a =>
    LdP a w fun x25 =>
    store_Store_SetMeta.Call x25 term vote w fun r28 w1 =>
    Bm (r28 != (0 : Int)) (
      R r28 w1) (
      Pn l fun a_1 =>
      Sts [.int .i64 term] (a_1.add 1) 0 w1 fun w2 =>
      Pn l fun a_2 =>
      Sts [.int .i64 vote] (a_2.add 2) 0 w2 fun w3 =>
      R (0 : Int) w3))) = kstep Tryz.prog 40 Tryz.f149.results.toList (Tryz.f149.body.getD .skip) (rlog_Log_SetTerm.RV R) (kvc Tryz.prog 40 Tryz.f149.results.toList (Tryz.f149.body.getD .skip) (rlog_Log_SetTerm.RV R) [] 2000) [(0, [1, 0, 1]), (0, [1, 1])] [(0, .pointer l), (1, .int .i64 term), (2, .int .i64 vote), (21, .bool t21)] w := by kernel_rfl
theorem rlog_Log_SetTerm.B1_sound {R : Int → World → Prop}  (l : Option Addr) (term vote : Int) (t21 : Bool) (w : World) (h : rlog_Log_SetTerm.B1 l term vote t21 w   R) :
    KW Tryz.prog 149 40 (rlog_Log_SetTerm.RV R) ([(0, [1, 0, 1]), (0, [1, 1])].map (toItem (Tryz.f149.body.getD .skip))) [(0, .pointer l), (1, .int .i64 term), (2, .int .i64 vote), (21, .bool t21)] w := by
  exact block_spec Tryz.func149 Tryz.mixed stops_nil (Eq.mp (rlog_Log_SetTerm.B1_eq l term vote t21 w   R ) h)
def rlog_Log_SetTerm.B0 (l : Option Addr) (term vote : Int) (w : World)   (R : Int → World → Prop) : Prop :=
  Bm (decide (term < (0 : Int))) (
    rlog_Log_SetTerm.B1 l term vote true w  R) (
    Bm (decide (term > (72057594037927936 : Int))) (
      rlog_Log_SetTerm.B1 l term vote true w  R) (
      Bm (decide (vote < (-1 : Int))) (
        rlog_Log_SetTerm.B1 l term vote true w  R) (
        rlog_Log_SetTerm.B1 l term vote (decide (vote ≥ (3 : Int))) w  R)))
theorem rlog_Log_SetTerm.B0_eq (l : Option Addr) (term vote : Int) (w : World)   (R : Int → World → Prop) (sB1 : Option Addr → Int → Int → Bool → World → Prop) :
    (
  Bm (decide (term < (0 : Int))) (
    sB1 l term vote true w) (
    Bm (decide (term > (72057594037927936 : Int))) (
      sB1 l term vote true w) (
      Bm (decide (vote < (-1 : Int))) (
        sB1 l term vote true w) (
        sB1 l term vote (decide (vote ≥ (3 : Int))) w)))) = kstep Tryz.prog 40 Tryz.f149.results.toList (Tryz.f149.body.getD .skip) (rlog_Log_SetTerm.RV R) (kvc Tryz.prog 40 Tryz.f149.results.toList (Tryz.f149.body.getD .skip) (rlog_Log_SetTerm.RV R) [([(0, [1, 0, 1]), (0, [1, 1])], fun σ w => dP (slotOf σ 0) fun l_ => dI .i64 (slotOf σ 1) fun term_ => dI .i64 (slotOf σ 2) fun vote_ => dB (slotOf σ 21) fun t21_ => sB1 l_ term_ vote_ t21_ w)] 2000) [(0, [])] [(0, .pointer l), (1, .int .i64 term), (2, .int .i64 vote)] w := by kernel_rfl
theorem rlog_Log_SetTerm.B0_sound {R : Int → World → Prop}  (l : Option Addr) (term vote : Int) (w : World) (h : rlog_Log_SetTerm.B0 l term vote w   R) :
    KW Tryz.prog 149 40 (rlog_Log_SetTerm.RV R) ([(0, [])].map (toItem (Tryz.f149.body.getD .skip))) [(0, .pointer l), (1, .int .i64 term), (2, .int .i64 vote)] w := by
  exact block_spec Tryz.func149 Tryz.mixed (stops_cons (fun σ w h => by
      obtain ⟨l_, e0, h⟩ := dP_elim h
      obtain ⟨term_, e1, h⟩ := dI_elim h
      obtain ⟨vote_, e2, h⟩ := dI_elim h
      obtain ⟨t21_, e3, h⟩ := dB_elim h
      exact (rlog_Log_SetTerm.B1_sound  l_ term_ vote_ t21_ w h).weaken (Sub.cons (Sub.cons (Sub.cons (Sub.cons (Sub.nil _) e3) e2) e1) e0)) stops_nil) (Eq.mp (rlog_Log_SetTerm.B0_eq l term vote w   R (fun l_ term_ vote_ t21_ w => rlog_Log_SetTerm.B1 l_ term_ vote_ t21_ w  R)) h)
theorem rlog_Log_SetTerm.sound (l : Option Addr) (term vote : Int) (w : World) (R : Int → World → Prop) (h : rlog_Log_SetTerm.B0 l term vote w R) : rlog_Log_SetTerm.Call l term vote w R := by
  have hc := calls_of_block (args := #[.pointer l, .int .i64 term, .int .i64 vote]) Tryz.func149 (body := (Tryz.f149.body.getD .skip)) (by kernel_rfl) (by kernel_rfl) (args_slot _) (rlog_Log_SetTerm.B0_sound l term vote w h)
  exact hc.mono fun e w' he => by
    obtain ⟨v, rfl, hv⟩ := he
    exact rlog_Log_SetTerm.RV_elim hv
def sync_Sync_send.L1b (s : Option Addr) (from0 : Int) (m0 : Nat) (n k : Int) (w : World)  (N1 : Option Addr → Int → Nat → Int → Int → World → Prop) (R : World → Prop) : Prop :=
  Bm (decide (k < n)) (
    Pn s fun a =>
    LdP a w fun x105 =>
    rlog_Log_At.Call x105 (IntKind.i64.wrap (from0 + k)) w fun r109_0_0 r109_0_1 r109_1 w1 =>
    New (.cells #[.int .i64 (0 : Int), .string (ByteArray.mk #[])] 103) w1 fun e_ w2 =>
    Sts [.int .i64 r109_0_0, .string r109_0_1] ⟨e_, 0, none⟩ 0 w2 fun w3 =>
    LdL ⟨m0, 8, none⟩ w3 fun x113_b x113_l x113_c =>
    LdI .i64 ⟨e_, 0, none⟩ w3 fun x115_0 =>
    LdS ⟨e_, 1, none⟩ w3 fun x115_1 =>
    Pn x113_b fun a_1 =>
    (0 ≤ k ∧ k < ((x113_l : Nat) : Int)) ∧
    Sts [.int .i64 x115_0, .string x115_1] (Addr.add a_1 (k.toNat * 2)) 0 w3 fun w4 =>
    N1 s from0 m0 n (IntKind.i64.wrap (k + (1 : Int))) w4) (
    LdI .i64 ⟨m0, 0, none⟩ w fun x118_0 =>
    LdI .i64 ⟨m0, 1, none⟩ w fun x118_1 =>
    LdI .i64 ⟨m0, 2, none⟩ w fun x118_2 =>
    LdI .i64 ⟨m0, 3, none⟩ w fun x118_3 =>
    LdI .i64 ⟨m0, 4, none⟩ w fun x118_4 =>
    LdI .i64 ⟨m0, 5, none⟩ w fun x118_5 =>
    LdI .i64 ⟨m0, 6, none⟩ w fun x118_6 =>
    LdB ⟨m0, 7, none⟩ w fun x118_7 =>
    LdL ⟨m0, 8, none⟩ w fun x118_8_b x118_8_l x118_8_c =>
    LdS ⟨m0, 9, none⟩ w fun x118_9 =>
    sync_Sync_post.Call s x118_0 x118_1 x118_2 x118_3 x118_4 x118_5 x118_6 x118_7 x118_8_b x118_8_l x118_8_c x118_9 w fun w5 =>
    R  w5)
theorem sync_Sync_send.L1b_eq (s : Option Addr) (from0 : Int) (m0 : Nat) (n k : Int) (w : World)  (N1 : Option Addr → Int → Nat → Int → Int → World → Prop) (R : World → Prop)  :
    (
  Bm (decide (k < n)) (
    Pn s fun a =>
    LdP a w fun x105 =>
    rlog_Log_At.Call x105 (IntKind.i64.wrap (from0 + k)) w fun r109_0_0 r109_0_1 r109_1 w1 =>
    New (.cells #[.int .i64 (0 : Int), .string (ByteArray.mk #[])] 103) w1 fun e_ w2 =>
    Sts [.int .i64 r109_0_0, .string r109_0_1] ⟨e_, 0, none⟩ 0 w2 fun w3 =>
    LdL ⟨m0, 8, none⟩ w3 fun x113_b x113_l x113_c =>
    LdI .i64 ⟨e_, 0, none⟩ w3 fun x115_0 =>
    LdS ⟨e_, 1, none⟩ w3 fun x115_1 =>
    Pn x113_b fun a_1 =>
    (0 ≤ k ∧ k < ((x113_l : Nat) : Int)) ∧
    Sts [.int .i64 x115_0, .string x115_1] (Addr.add a_1 (k.toNat * 2)) 0 w3 fun w4 =>
    N1 s from0 m0 n (IntKind.i64.wrap (k + (1 : Int))) w4) (
    LdI .i64 ⟨m0, 0, none⟩ w fun x118_0 =>
    LdI .i64 ⟨m0, 1, none⟩ w fun x118_1 =>
    LdI .i64 ⟨m0, 2, none⟩ w fun x118_2 =>
    LdI .i64 ⟨m0, 3, none⟩ w fun x118_3 =>
    LdI .i64 ⟨m0, 4, none⟩ w fun x118_4 =>
    LdI .i64 ⟨m0, 5, none⟩ w fun x118_5 =>
    LdI .i64 ⟨m0, 6, none⟩ w fun x118_6 =>
    LdB ⟨m0, 7, none⟩ w fun x118_7 =>
    LdL ⟨m0, 8, none⟩ w fun x118_8_b x118_8_l x118_8_c =>
    LdS ⟨m0, 9, none⟩ w fun x118_9 =>
    sync_Sync_post.Call s x118_0 x118_1 x118_2 x118_3 x118_4 x118_5 x118_6 x118_7 x118_8_b x118_8_l x118_8_c x118_9 w fun w5 =>
    R  w5)) = kstep Tryz.prog 120 Tryz.f150.results.toList (Tryz.f150.body.getD .skip) (sync_Sync_send.RV R) (kvc Tryz.prog 120 Tryz.f150.results.toList (Tryz.f150.body.getD .skip) (sync_Sync_send.RV R) [([(0, [1, 1, 1, 1, 1, 1, 1, 1, 1, 1, 1, 1, 1, 0, 1, 0, 1, 1, 0, 0]), (2, [1, 1, 1, 1, 1, 1, 1, 1, 1, 1, 1, 1, 1, 0, 1, 0, 1, 1, 0, 0]), (1, [0]), (0, [1, 1, 1, 1, 1, 1, 1, 1, 1, 1, 1, 1, 1, 1])], fun σ w => dP (slotOf σ 0) fun s_ => dI .i64 (slotOf σ 7) fun from0_ => dK (slotOf σ 8) fun m0_ => dI .i64 (slotOf σ 11) fun n_ => dI .i64 (slotOf σ 12) fun k_ => N1 s_ from0_ m0_ n_ k_ w)] 2000) [(0, [1, 1, 1, 1, 1, 1, 1, 1, 1, 1, 1, 1, 1, 0, 1, 0, 1, 1, 0, 0]), (2, [1, 1, 1, 1, 1, 1, 1, 1, 1, 1, 1, 1, 1, 0, 1, 0, 1, 1, 0, 0]), (1, [0]), (0, [1, 1, 1, 1, 1, 1, 1, 1, 1, 1, 1, 1, 1, 1])] [(0, .pointer s), (7, .int .i64 from0), (8, .pointer (some ⟨m0, 0, none⟩)), (11, .int .i64 n), (12, .int .i64 k)] w := by kernel_rfl
theorem sync_Sync_send.L1b_sound {R : World → Prop} {N1 : Option Addr → Int → Nat → Int → Int → World → Prop} (hN1 : ∀ s from0 m0 n k w, N1 s from0 m0 n k w → KW Tryz.prog 150 120 (sync_Sync_send.RV R) ([(0, [1, 1, 1, 1, 1, 1, 1, 1, 1, 1, 1, 1, 1, 0, 1, 0, 1, 1, 0, 0]), (2, [1, 1, 1, 1, 1, 1, 1, 1, 1, 1, 1, 1, 1, 0, 1, 0, 1, 1, 0, 0]), (1, [0]), (0, [1, 1, 1, 1, 1, 1, 1, 1, 1, 1, 1, 1, 1, 1])].map (toItem (Tryz.f150.body.getD .skip))) [(0, .pointer s), (7, .int .i64 from0), (8, .pointer (some ⟨m0, 0, none⟩)), (11, .int .i64 n), (12, .int .i64 k)] w) (s : Option Addr) (from0 : Int) (m0 : Nat) (n k : Int) (w : World) (h : sync_Sync_send.L1b s from0 m0 n k w  N1 R) :
    KW Tryz.prog 150 120 (sync_Sync_send.RV R) ([(0, [1, 1, 1, 1, 1, 1, 1, 1, 1, 1, 1, 1, 1, 0, 1, 0, 1, 1, 0, 0]), (2, [1, 1, 1, 1, 1, 1, 1, 1, 1, 1, 1, 1, 1, 0, 1, 0, 1, 1, 0, 0]), (1, [0]), (0, [1, 1, 1, 1, 1, 1, 1, 1, 1, 1, 1, 1, 1, 1])].map (toItem (Tryz.f150.body.getD .skip))) [(0, .pointer s), (7, .int .i64 from0), (8, .pointer (some ⟨m0, 0, none⟩)), (11, .int .i64 n), (12, .int .i64 k)] w := by
  exact block_spec Tryz.func150 Tryz.mixed (stops_cons (fun σ w h => by
      obtain ⟨s_, e0, h⟩ := dP_elim h
      obtain ⟨from0_, e1, h⟩ := dI_elim h
      obtain ⟨m0_, e2, h⟩ := dK_elim h
      obtain ⟨n_, e3, h⟩ := dI_elim h
      obtain ⟨k_, e4, h⟩ := dI_elim h
      exact (hN1 s_ from0_ m0_ n_ k_ w h).weaken (Sub.cons (Sub.cons (Sub.cons (Sub.cons (Sub.cons (Sub.nil _) e4) e3) e2) e1) e0)) stops_nil) (Eq.mp (sync_Sync_send.L1b_eq s from0 m0 n k w  N1 R ) h)
def sync_Sync_send.L1 (s : Option Addr) (from0 : Int) (m0 : Nat) (n k : Int) (w : World)  (R : World → Prop) : Prop :=
  ∃ (I : Nat → Option Addr → Int → Nat → Int → Int → World → Prop) (m : Nat), I m s from0 m0 n k w ∧ ∀ m s from0 m0 n k w, I m s from0 m0 n k w → sync_Sync_send.L1b s from0 m0 n k w  (fun s' from0' m0' n' k' w' => ∃ m', m' < m ∧ I m' s' from0' m0' n' k' w') R
theorem sync_Sync_send.L1_sound {R : World → Prop}  (s : Option Addr) (from0 : Int) (m0 : Nat) (n k : Int) (w : World) (h : sync_Sync_send.L1 s from0 m0 n k w  R) :
    KW Tryz.prog 150 120 (sync_Sync_send.RV R) ([(0, [1, 1, 1, 1, 1, 1, 1, 1, 1, 1, 1, 1, 1, 0, 1, 0, 1, 1, 0, 0]), (2, [1, 1, 1, 1, 1, 1, 1, 1, 1, 1, 1, 1, 1, 0, 1, 0, 1, 1, 0, 0]), (1, [0]), (0, [1, 1, 1, 1, 1, 1, 1, 1, 1, 1, 1, 1, 1, 1])].map (toItem (Tryz.f150.body.getD .skip))) [(0, .pointer s), (7, .int .i64 from0), (8, .pointer (some ⟨m0, 0, none⟩)), (11, .int .i64 n), (12, .int .i64 k)] w := by
  obtain ⟨I, m, hBase, hr⟩ := h
  refine KW.loop (fun m σ w => ∃ (s : Option Addr) (from0 : Int) (m0 : Nat) (n k : Int), σ = [(0, .pointer s), (7, .int .i64 from0), (8, .pointer (some ⟨m0, 0, none⟩)), (11, .int .i64 n), (12, .int .i64 k)] ∧ I m s from0 m0 n k w) ?_ m _ w ⟨s, from0, m0, n, k, rfl, hBase⟩
  rintro m ih σ w ⟨s, from0, m0, n, k, rfl, hI⟩
  exact sync_Sync_send.L1b_sound  (N1 := fun s' from0' m0' n' k' w' => ∃ m', m' < m ∧ I m' s' from0' m0' n' k' w') (fun s' from0' m0' n' k' w' hx => by obtain ⟨m', hlt, hI'⟩ := hx; exact ih m' hlt _ w' ⟨s', from0', m0', n', k', rfl, hI'⟩) s from0 m0 n k w (hr m s from0 m0 n k w hI)
def sync_Sync_send.B1 (s : Option Addr) (from0 : Int) (m0 : Nat) (n : Int) (w : World)   (R : World → Prop) : Prop :=
  Bm (decide (n > (0 : Int))) (
    Make 103 (.agg #[.int .i64 (0 : Int), .string (ByteArray.mk #[])]) 2 24 n n w fun b94 w1 =>
    Sts [.slice (some ⟨b94, 0, none⟩) n.toNat n.toNat] ⟨m0, 8, none⟩ 0 w1 fun w2 =>
    sync_Sync_send.L1 s from0 m0 n (0 : Int) w2  R) (
    LdI .i64 ⟨m0, 0, none⟩ w fun x118_0 =>
    LdI .i64 ⟨m0, 1, none⟩ w fun x118_1 =>
    LdI .i64 ⟨m0, 2, none⟩ w fun x118_2 =>
    LdI .i64 ⟨m0, 3, none⟩ w fun x118_3 =>
    LdI .i64 ⟨m0, 4, none⟩ w fun x118_4 =>
    LdI .i64 ⟨m0, 5, none⟩ w fun x118_5 =>
    LdI .i64 ⟨m0, 6, none⟩ w fun x118_6 =>
    LdB ⟨m0, 7, none⟩ w fun x118_7 =>
    LdL ⟨m0, 8, none⟩ w fun x118_8_b x118_8_l x118_8_c =>
    LdS ⟨m0, 9, none⟩ w fun x118_9 =>
    sync_Sync_post.Call s x118_0 x118_1 x118_2 x118_3 x118_4 x118_5 x118_6 x118_7 x118_8_b x118_8_l x118_8_c x118_9 w fun w3 =>
    R  w3)
theorem sync_Sync_send.B1_eq (s : Option Addr) (from0 : Int) (m0 : Nat) (n : Int) (w : World)   (R : World → Prop) (sL1 : Option Addr → Int → Nat → Int → Int → World → Prop) :
    (
  Bm (decide (n > (0 : Int))) (
    Make 103 (.agg #[.int .i64 (0 : Int), .string (ByteArray.mk #[])]) 2 24 n n w fun b94 w1 =>
    Sts [.slice (some ⟨b94, 0, none⟩) n.toNat n.toNat] ⟨m0, 8, none⟩ 0 w1 fun w2 =>
    sL1 s from0 m0 n (0 : Int) w2) (
    LdI .i64 ⟨m0, 0, none⟩ w fun x118_0 =>
    LdI .i64 ⟨m0, 1, none⟩ w fun x118_1 =>
    LdI .i64 ⟨m0, 2, none⟩ w fun x118_2 =>
    LdI .i64 ⟨m0, 3, none⟩ w fun x118_3 =>
    LdI .i64 ⟨m0, 4, none⟩ w fun x118_4 =>
    LdI .i64 ⟨m0, 5, none⟩ w fun x118_5 =>
    LdI .i64 ⟨m0, 6, none⟩ w fun x118_6 =>
    LdB ⟨m0, 7, none⟩ w fun x118_7 =>
    LdL ⟨m0, 8, none⟩ w fun x118_8_b x118_8_l x118_8_c =>
    LdS ⟨m0, 9, none⟩ w fun x118_9 =>
    sync_Sync_post.Call s x118_0 x118_1 x118_2 x118_3 x118_4 x118_5 x118_6 x118_7 x118_8_b x118_8_l x118_8_c x118_9 w fun w3 =>
    R  w3)) = kstep Tryz.prog 120 Tryz.f150.results.toList (Tryz.f150.body.getD .skip) (sync_Sync_send.RV R) (kvc Tryz.prog 120 Tryz.f150.results.toList (Tryz.f150.body.getD .skip) (sync_Sync_send.RV R) [([(0, [1, 1, 1, 1, 1, 1, 1, 1, 1, 1, 1, 1, 1, 0, 1, 0, 1, 1, 0, 0]), (2, [1, 1, 1, 1, 1, 1, 1, 1, 1, 1, 1, 1, 1, 0, 1, 0, 1, 1, 0, 0]), (1, [0]), (0, [1, 1, 1, 1, 1, 1, 1, 1, 1, 1, 1, 1, 1, 1])], fun σ w => dP (slotOf σ 0) fun s_ => dI .i64 (slotOf σ 7) fun from0_ => dK (slotOf σ 8) fun m0_ => dI .i64 (slotOf σ 11) fun n_ => dI .i64 (slotOf σ 12) fun k_ => sL1 s_ from0_ m0_ n_ k_ w)] 2000) [(0, [1, 1, 1, 1, 1, 1, 1, 1, 1, 1, 1, 1, 1])] [(0, .pointer s), (7, .int .i64 from0), (8, .pointer (some ⟨m0, 0, none⟩)), (11, .int .i64 n)] w := by kernel_rfl
theorem sync_Sync_send.B1_sound {R : World → Prop}  (s : Option Addr) (from0 : Int) (m0 : Nat) (n : Int) (w : World) (h : sync_Sync_send.B1 s from0 m0 n w   R) :
    KW Tryz.prog 150 120 (sync_Sync_send.RV R) ([(0, [1, 1, 1, 1, 1, 1, 1, 1, 1, 1, 1, 1, 1])].map (toItem (Tryz.f150.body.getD .skip))) [(0, .pointer s), (7, .int .i64 from0), (8, .pointer (some ⟨m0, 0, none⟩)), (11, .int .i64 n)] w := by
  exact block_spec Tryz.func150 Tryz.mixed (stops_cons (fun σ w h => by
      obtain ⟨s_, e0, h⟩ := dP_elim h
      obtain ⟨from0_, e1, h⟩ := dI_elim h
      obtain ⟨m0_, e2, h⟩ := dK_elim h
      obtain ⟨n_, e3, h⟩ := dI_elim h
      obtain ⟨k_, e4, h⟩ := dI_elim h
      exact (sync_Sync_send.L1_sound  s_ from0_ m0_ n_ k_ w h).weaken (Sub.cons (Sub.cons (Sub.cons (Sub.cons (Sub.cons (Sub.nil _) e4) e3) e2) e1) e0)) stops_nil) (Eq.mp (sync_Sync_send.B1_eq s from0 m0 n w   R (fun s_ from0_ m0_ n_ k_ w => sync_Sync_send.L1 s_ from0_ m0_ n_ k_ w  R)) h)
def sync_Sync_send.B0 (s : Option Addr) (p : Int) (w : World)   (R : World → Prop) : Prop :=
  Pn s fun a =>
  LdP (a.add 1) w fun x18 =>
  elect_Elect_Id.Call x18 w fun r19 w1 =>
  Pn s fun a_1 =>
  LdP (a_1.add 1) w1 fun x23 =>
  elect_Elect_Term.Call x23 w1 fun r24 w2 =>
  Pn s fun a_2 =>
  LdP a_2 w2 fun x28 =>
  rlog_Log_Base.Call x28 w2 fun r29 w3 =>
  Pn s fun a_3 =>
  (0 ≤ p ∧ p < ((3 : Nat) : Int)) ∧
  LdI .i64 (Addr.add (a_3.add 3) (p.toNat * 1)) w3 fun x35 =>
  New (.cells #[.int .i64 (0 : Int), .int .i64 (0 : Int), .int .i64 (0 : Int), .int .i64 (0 : Int), .int .i64 (0 : Int), .int .i64 (0 : Int), .int .i64 (0 : Int), .bool false, .slice none 0 0, .string (ByteArray.mk #[])] 40) w3 fun m0_ w4 =>
  Sts [.int .i64 (0 : Int), .int .i64 r19, .int .i64 p, .int .i64 r24, .int .i64 (0 : Int), .int .i64 (0 : Int), .int .i64 (0 : Int), .bool false, .slice none 0 0, .string (ByteArray.mk #[])] ⟨m0_, 0, none⟩ 0 w4 fun w5 =>
  Bm (decide (x35 ≤ r29)) (
    Sts [.int .i64 (5 : Int)] ⟨m0_, 0, none⟩ 0 w5 fun w6 =>
    Sts [.int .i64 r29] ⟨m0_, 4, none⟩ 0 w6 fun w7 =>
    Pn s fun a_4 =>
    LdP a_4 w7 fun x49 =>
    rlog_Log_BaseTerm.Call x49 w7 fun r50 w8 =>
    Sts [.int .i64 r50] ⟨m0_, 5, none⟩ 0 w8 fun w9 =>
    Pn s fun a_5 =>
    LdP a_5 w9 fun x55 =>
    rlog_Log_Snap.Call x55 w9 fun r56 w10 =>
    Sts [.string r56] ⟨m0_, 9, none⟩ 0 w10 fun w11 =>
    LdI .i64 ⟨m0_, 0, none⟩ w11 fun x59_0 =>
    LdI .i64 ⟨m0_, 1, none⟩ w11 fun x59_1 =>
    LdI .i64 ⟨m0_, 2, none⟩ w11 fun x59_2 =>
    LdI .i64 ⟨m0_, 3, none⟩ w11 fun x59_3 =>
    LdI .i64 ⟨m0_, 4, none⟩ w11 fun x59_4 =>
    LdI .i64 ⟨m0_, 5, none⟩ w11 fun x59_5 =>
    LdI .i64 ⟨m0_, 6, none⟩ w11 fun x59_6 =>
    LdB ⟨m0_, 7, none⟩ w11 fun x59_7 =>
    LdL ⟨m0_, 8, none⟩ w11 fun x59_8_b x59_8_l x59_8_c =>
    LdS ⟨m0_, 9, none⟩ w11 fun x59_9 =>
    sync_Sync_post.Call s x59_0 x59_1 x59_2 x59_3 x59_4 x59_5 x59_6 x59_7 x59_8_b x59_8_l x59_8_c x59_9 w11 fun w12 =>
    R  w12) (
    Sts [.int .i64 (3 : Int)] ⟨m0_, 0, none⟩ 0 w5 fun w13 =>
    Sts [.int .i64 (IntKind.i64.wrap (x35 - (1 : Int)))] ⟨m0_, 4, none⟩ 0 w13 fun w14 =>
    Pn s fun a_6 =>
    LdI .i64 (a_6.add 2) w14 fun x68 =>
    Sts [.int .i64 x68] ⟨m0_, 6, none⟩ 0 w14 fun w15 =>
    Pn s fun a_7 =>
    LdP a_7 w15 fun x74 =>
    rlog_Log_TermAt.Call x74 (IntKind.i64.wrap (x35 - (1 : Int))) w15 fun r77_0 r77_1 w16 =>
    Sts [.int .i64 r77_0] ⟨m0_, 5, none⟩ 0 w16 fun w17 =>
    Pn s fun a_8 =>
    LdI .i64 (a_8.add 9) w17 fun x85 =>
    Bm (decide ((IntKind.i64.wrap ((IntKind.i64.wrap (x85 - x35)) + (1 : Int))) > (2 : Int))) (
      sync_Sync_send.B1 s x35 m0_ (2 : Int) w17  R) (
      sync_Sync_send.B1 s x35 m0_ (IntKind.i64.wrap ((IntKind.i64.wrap (x85 - x35)) + (1 : Int))) w17  R))
theorem sync_Sync_send.B0_eq (s : Option Addr) (p : Int) (w : World)   (R : World → Prop) (sB1 : Option Addr → Int → Nat → Int → World → Prop) :
    (
  Pn s fun a =>
  LdP (a.add 1) w fun x18 =>
  elect_Elect_Id.Call x18 w fun r19 w1 =>
  Pn s fun a_1 =>
  LdP (a_1.add 1) w1 fun x23 =>
  elect_Elect_Term.Call x23 w1 fun r24 w2 =>
  Pn s fun a_2 =>
  LdP a_2 w2 fun x28 =>
  rlog_Log_Base.Call x28 w2 fun r29 w3 =>
  Pn s fun a_3 =>
  (0 ≤ p ∧ p < ((3 : Nat) : Int)) ∧
  LdI .i64 (Addr.add (a_3.add 3) (p.toNat * 1)) w3 fun x35 =>
  New (.cells #[.int .i64 (0 : Int), .int .i64 (0 : Int), .int .i64 (0 : Int), .int .i64 (0 : Int), .int .i64 (0 : Int), .int .i64 (0 : Int), .int .i64 (0 : Int), .bool false, .slice none 0 0, .string (ByteArray.mk #[])] 40) w3 fun m0_ w4 =>
  Sts [.int .i64 (0 : Int), .int .i64 r19, .int .i64 p, .int .i64 r24, .int .i64 (0 : Int), .int .i64 (0 : Int), .int .i64 (0 : Int), .bool false, .slice none 0 0, .string (ByteArray.mk #[])] ⟨m0_, 0, none⟩ 0 w4 fun w5 =>
  Bm (decide (x35 ≤ r29)) (
    Sts [.int .i64 (5 : Int)] ⟨m0_, 0, none⟩ 0 w5 fun w6 =>
    Sts [.int .i64 r29] ⟨m0_, 4, none⟩ 0 w6 fun w7 =>
    Pn s fun a_4 =>
    LdP a_4 w7 fun x49 =>
    rlog_Log_BaseTerm.Call x49 w7 fun r50 w8 =>
    Sts [.int .i64 r50] ⟨m0_, 5, none⟩ 0 w8 fun w9 =>
    Pn s fun a_5 =>
    LdP a_5 w9 fun x55 =>
    rlog_Log_Snap.Call x55 w9 fun r56 w10 =>
    Sts [.string r56] ⟨m0_, 9, none⟩ 0 w10 fun w11 =>
    LdI .i64 ⟨m0_, 0, none⟩ w11 fun x59_0 =>
    LdI .i64 ⟨m0_, 1, none⟩ w11 fun x59_1 =>
    LdI .i64 ⟨m0_, 2, none⟩ w11 fun x59_2 =>
    LdI .i64 ⟨m0_, 3, none⟩ w11 fun x59_3 =>
    LdI .i64 ⟨m0_, 4, none⟩ w11 fun x59_4 =>
    LdI .i64 ⟨m0_, 5, none⟩ w11 fun x59_5 =>
    LdI .i64 ⟨m0_, 6, none⟩ w11 fun x59_6 =>
    LdB ⟨m0_, 7, none⟩ w11 fun x59_7 =>
    LdL ⟨m0_, 8, none⟩ w11 fun x59_8_b x59_8_l x59_8_c =>
    LdS ⟨m0_, 9, none⟩ w11 fun x59_9 =>
    sync_Sync_post.Call s x59_0 x59_1 x59_2 x59_3 x59_4 x59_5 x59_6 x59_7 x59_8_b x59_8_l x59_8_c x59_9 w11 fun w12 =>
    R  w12) (
    Sts [.int .i64 (3 : Int)] ⟨m0_, 0, none⟩ 0 w5 fun w13 =>
    Sts [.int .i64 (IntKind.i64.wrap (x35 - (1 : Int)))] ⟨m0_, 4, none⟩ 0 w13 fun w14 =>
    Pn s fun a_6 =>
    LdI .i64 (a_6.add 2) w14 fun x68 =>
    Sts [.int .i64 x68] ⟨m0_, 6, none⟩ 0 w14 fun w15 =>
    Pn s fun a_7 =>
    LdP a_7 w15 fun x74 =>
    rlog_Log_TermAt.Call x74 (IntKind.i64.wrap (x35 - (1 : Int))) w15 fun r77_0 r77_1 w16 =>
    Sts [.int .i64 r77_0] ⟨m0_, 5, none⟩ 0 w16 fun w17 =>
    Pn s fun a_8 =>
    LdI .i64 (a_8.add 9) w17 fun x85 =>
    Bm (decide ((IntKind.i64.wrap ((IntKind.i64.wrap (x85 - x35)) + (1 : Int))) > (2 : Int))) (
      sB1 s x35 m0_ (2 : Int) w17) (
      sB1 s x35 m0_ (IntKind.i64.wrap ((IntKind.i64.wrap (x85 - x35)) + (1 : Int))) w17))) = kstep Tryz.prog 120 Tryz.f150.results.toList (Tryz.f150.body.getD .skip) (sync_Sync_send.RV R) (kvc Tryz.prog 120 Tryz.f150.results.toList (Tryz.f150.body.getD .skip) (sync_Sync_send.RV R) [([(0, [1, 1, 1, 1, 1, 1, 1, 1, 1, 1, 1, 1, 1])], fun σ w => dP (slotOf σ 0) fun s_ => dI .i64 (slotOf σ 7) fun from0_ => dK (slotOf σ 8) fun m0_ => dI .i64 (slotOf σ 11) fun n_ => sB1 s_ from0_ m0_ n_ w)] 2000) [(0, [])] [(0, .pointer s), (1, .int .i64 p)] w := by kernel_rfl
theorem sync_Sync_send.B0_sound {R : World → Prop}  (s : Option Addr) (p : Int) (w : World) (h : sync_Sync_send.B0 s p w   R) :
    KW Tryz.prog 150 120 (sync_Sync_send.RV R) ([(0, [])].map (toItem (Tryz.f150.body.getD .skip))) [(0, .pointer s), (1, .int .i64 p)] w := by
  exact block_spec Tryz.func150 Tryz.mixed (stops_cons (fun σ w h => by
      obtain ⟨s_, e0, h⟩ := dP_elim h
      obtain ⟨from0_, e1, h⟩ := dI_elim h
      obtain ⟨m0_, e2, h⟩ := dK_elim h
      obtain ⟨n_, e3, h⟩ := dI_elim h
      exact (sync_Sync_send.B1_sound  s_ from0_ m0_ n_ w h).weaken (Sub.cons (Sub.cons (Sub.cons (Sub.cons (Sub.nil _) e3) e2) e1) e0)) stops_nil) (Eq.mp (sync_Sync_send.B0_eq s p w   R (fun s_ from0_ m0_ n_ w => sync_Sync_send.B1 s_ from0_ m0_ n_ w  R)) h)
theorem sync_Sync_send.sound (s : Option Addr) (p : Int) (w : World) (R : World → Prop) (h : sync_Sync_send.B0 s p w R) : sync_Sync_send.Call s p w R := by
  have hc := calls_of_block (args := #[.pointer s, .int .i64 p]) Tryz.func150 (body := (Tryz.f150.body.getD .skip)) (by kernel_rfl) (by kernel_rfl) (args_slot _) (sync_Sync_send.B0_sound s p w h)
  exact hc.mono fun e w' he => by
    obtain ⟨v, rfl, hv⟩ := he
    exact sync_Sync_send.RV_elim hv
def rlogm_Log_SetTerm.B1 (l : Option Addr) (term vote : Int) (t20 : Bool) (w : World)   (R : Int → World → Prop) : Prop :=
  Bm t20 (
    R (1 : Int) w) (
    Pn l fun a =>
    LdP a w.drew fun x24 =>
    Pn l fun a_1 =>
    LdP a_1 w.drew fun x28 =>
    Pn x24 fun a_2 =>
    Sts [.int .i64 term] a_2 0 w.drew fun w1 =>
    Pn x28 fun a_3 =>
    Sts [.int .i64 vote] (a_3.add 1) 0 w1 fun w2 =>
    rlogm_Log_step.Call l w2 fun w3 =>
    R (0 : Int) w3)
theorem rlogm_Log_SetTerm.B1_eq (l : Option Addr) (term vote : Int) (t20 : Bool) (w : World)   (R : Int → World → Prop)  :
    (
  Bm t20 (
    R (1 : Int) w) (
    Pn l fun a =>
    LdP a w.drew fun x24 =>
    Pn l fun a_1 =>
    LdP a_1 w.drew fun x28 =>
    Pn x24 fun a_2 =>
    Sts [.int .i64 term] a_2 0 w.drew fun w1 =>
    Pn x28 fun a_3 =>
    Sts [.int .i64 vote] (a_3.add 1) 0 w1 fun w2 =>
    rlogm_Log_step.Call l w2 fun w3 =>
    R (0 : Int) w3)) = kstep Tryz.prog 37 Tryz.f151.results.toList (Tryz.f151.body.getD .skip) (rlogm_Log_SetTerm.RV R) (kvc Tryz.prog 37 Tryz.f151.results.toList (Tryz.f151.body.getD .skip) (rlogm_Log_SetTerm.RV R) [] 2000) [(0, [1, 0, 1]), (0, [1, 1])] [(0, .pointer l), (1, .int .i64 term), (2, .int .i64 vote), (20, .bool t20)] w := by kernel_rfl
theorem rlogm_Log_SetTerm.B1_sound {R : Int → World → Prop}  (l : Option Addr) (term vote : Int) (t20 : Bool) (w : World) (h : rlogm_Log_SetTerm.B1 l term vote t20 w   R) :
    KW Tryz.prog 151 37 (rlogm_Log_SetTerm.RV R) ([(0, [1, 0, 1]), (0, [1, 1])].map (toItem (Tryz.f151.body.getD .skip))) [(0, .pointer l), (1, .int .i64 term), (2, .int .i64 vote), (20, .bool t20)] w := by
  exact block_spec Tryz.func151 Tryz.mixed stops_nil (Eq.mp (rlogm_Log_SetTerm.B1_eq l term vote t20 w   R ) h)
def rlogm_Log_SetTerm.B0 (l : Option Addr) (term vote : Int) (w : World)   (R : Int → World → Prop) : Prop :=
  Bm (decide (term < (0 : Int))) (
    rlogm_Log_SetTerm.B1 l term vote true w  R) (
    Bm (decide (term > (72057594037927936 : Int))) (
      rlogm_Log_SetTerm.B1 l term vote true w  R) (
      Bm (decide (vote < (-1 : Int))) (
        rlogm_Log_SetTerm.B1 l term vote true w  R) (
        rlogm_Log_SetTerm.B1 l term vote (decide (vote ≥ (3 : Int))) w  R)))
theorem rlogm_Log_SetTerm.B0_eq (l : Option Addr) (term vote : Int) (w : World)   (R : Int → World → Prop) (sB1 : Option Addr → Int → Int → Bool → World → Prop) :
    (
  Bm (decide (term < (0 : Int))) (
    sB1 l term vote true w) (
    Bm (decide (term > (72057594037927936 : Int))) (
      sB1 l term vote true w) (
      Bm (decide (vote < (-1 : Int))) (
        sB1 l term vote true w) (
        sB1 l term vote (decide (vote ≥ (3 : Int))) w)))) = kstep Tryz.prog 37 Tryz.f151.results.toList (Tryz.f151.body.getD .skip) (rlogm_Log_SetTerm.RV R) (kvc Tryz.prog 37 Tryz.f151.results.toList (Tryz.f151.body.getD .skip) (rlogm_Log_SetTerm.RV R) [([(0, [1, 0, 1]), (0, [1, 1])], fun σ w => dP (slotOf σ 0) fun l_ => dI .i64 (slotOf σ 1) fun term_ => dI .i64 (slotOf σ 2) fun vote_ => dB (slotOf σ 20) fun t20_ => sB1 l_ term_ vote_ t20_ w)] 2000) [(0, [])] [(0, .pointer l), (1, .int .i64 term), (2, .int .i64 vote)] w := by kernel_rfl
theorem rlogm_Log_SetTerm.B0_sound {R : Int → World → Prop}  (l : Option Addr) (term vote : Int) (w : World) (h : rlogm_Log_SetTerm.B0 l term vote w   R) :
    KW Tryz.prog 151 37 (rlogm_Log_SetTerm.RV R) ([(0, [])].map (toItem (Tryz.f151.body.getD .skip))) [(0, .pointer l), (1, .int .i64 term), (2, .int .i64 vote)] w := by
  exact block_spec Tryz.func151 Tryz.mixed (stops_cons (fun σ w h => by
      obtain ⟨l_, e0, h⟩ := dP_elim h
      obtain ⟨term_, e1, h⟩ := dI_elim h
      obtain ⟨vote_, e2, h⟩ := dI_elim h
      obtain ⟨t20_, e3, h⟩ := dB_elim h
      exact (rlogm_Log_SetTerm.B1_sound  l_ term_ vote_ t20_ w h).weaken (Sub.cons (Sub.cons (Sub.cons (Sub.cons (Sub.nil _) e3) e2) e1) e0)) stops_nil) (Eq.mp (rlogm_Log_SetTerm.B0_eq l term vote w   R (fun l_ term_ vote_ t20_ w => rlogm_Log_SetTerm.B1 l_ term_ vote_ t20_ w  R)) h)
theorem rlogm_Log_SetTerm.sound (l : Option Addr) (term vote : Int) (w : World) (R : Int → World → Prop) (h : rlogm_Log_SetTerm.B0 l term vote w R) : rlogm_Log_SetTerm.Call l term vote w R := by
  have hc := calls_of_block (args := #[.pointer l, .int .i64 term, .int .i64 vote]) Tryz.func151 (body := (Tryz.f151.body.getD .skip)) (by kernel_rfl) (by kernel_rfl) (args_slot _) (rlogm_Log_SetTerm.B0_sound l term vote w h)
  exact hc.mono fun e w' he => by
    obtain ⟨v, rfl, hv⟩ := he
    exact rlogm_Log_SetTerm.RV_elim hv
def elect_Elect_AskedVote.B2 (e : Option Addr) (from0 : Int) (t43 : Bool) (w : World)   (R : Bool → World → Prop) : Prop :=
  Bm t43 (
    R false w) (
    elect_Elect_Role.Call e w fun r45 w1 =>
    elect_Elect_Leader.Call e w1 fun r47 w2 =>
    elect_Elect_put.Call e r45 from0 r47 w2 fun w3 =>
    elect_Elect_wind.Call e w3 fun w4 =>
    R true w4)
theorem elect_Elect_AskedVote.B2_eq (e : Option Addr) (from0 : Int) (t43 : Bool) (w : World)   (R : Bool → World → Prop)  :
    (
  Bm t43 (
    R false w) (
    elect_Elect_Role.Call e w fun r45 w1 =>
    elect_Elect_Leader.Call e w1 fun r47 w2 =>
    elect_Elect_put.Call e r45 from0 r47 w2 fun w3 =>
    elect_Elect_wind.Call e w3 fun w4 =>
    R true w4)) = kstep Tryz.prog 55 Tryz.f152.results.toList (Tryz.f152.body.getD .skip) (elect_Elect_AskedVote.RV R) (kvc Tryz.prog 55 Tryz.f152.results.toList (Tryz.f152.body.getD .skip) (elect_Elect_AskedVote.RV R) [] 2000) [(0, [1, 1, 1, 1, 0, 1]), (0, [1, 1, 1, 1, 1])] [(0, .pointer e), (1, .int .i64 from0), (43, .bool t43)] w := by kernel_rfl
theorem elect_Elect_AskedVote.B2_sound {R : Bool → World → Prop}  (e : Option Addr) (from0 : Int) (t43 : Bool) (w : World) (h : elect_Elect_AskedVote.B2 e from0 t43 w   R) :
    KW Tryz.prog 152 55 (elect_Elect_AskedVote.RV R) ([(0, [1, 1, 1, 1, 0, 1]), (0, [1, 1, 1, 1, 1])].map (toItem (Tryz.f152.body.getD .skip))) [(0, .pointer e), (1, .int .i64 from0), (43, .bool t43)] w := by
  exact block_spec Tryz.func152 Tryz.mixed stops_nil (Eq.mp (elect_Elect_AskedVote.B2_eq e from0 t43 w   R ) h)
def elect_Elect_AskedVote.B1 (e : Option Addr) (from0 term : Int) (upToDate t19 : Bool) (w : World)   (R : Bool → World → Prop) : Prop :=
  Bm t19 (
    R false w) (
    elect_Elect_See.Call e term w fun r22 w1 =>
    elect_Elect_Vote.Call e w1 fun r24 w2 =>
    Pn e fun a =>
    LdI .i64 (a.add 1) w2 fun x29 =>
    Bm (decide (term < x29)) (
      elect_Elect_AskedVote.B2 e from0 true w2  R) (
      Bm (!upToDate) (
        elect_Elect_AskedVote.B2 e from0 true w2  R) (
        Bm (r24 != (-1 : Int)) (
          elect_Elect_AskedVote.B2 e from0 (r24 != from0) w2  R) (
          elect_Elect_AskedVote.B2 e from0 false w2  R))))
theorem elect_Elect_AskedVote.B1_eq (e : Option Addr) (from0 term : Int) (upToDate t19 : Bool) (w : World)   (R : Bool → World → Prop) (sB2 : Option Addr → Int → Bool → World → Prop) :
    (
  Bm t19 (
    R false w) (
    elect_Elect_See.Call e term w fun r22 w1 =>
    elect_Elect_Vote.Call e w1 fun r24 w2 =>
    Pn e fun a =>
    LdI .i64 (a.add 1) w2 fun x29 =>
    Bm (decide (term < x29)) (
      sB2 e from0 true w2) (
      Bm (!upToDate) (
        sB2 e from0 true w2) (
        Bm (r24 != (-1 : Int)) (
          sB2 e from0 (r24 != from0) w2) (
          sB2 e from0 false w2))))) = kstep Tryz.prog 55 Tryz.f152.results.toList (Tryz.f152.body.getD .skip) (elect_Elect_AskedVote.RV R) (kvc Tryz.prog 55 Tryz.f152.results.toList (Tryz.f152.body.getD .skip) (elect_Elect_AskedVote.RV R) [([(0, [1, 1, 1, 1, 0, 1]), (0, [1, 1, 1, 1, 1])], fun σ w => dP (slotOf σ 0) fun e_ => dI .i64 (slotOf σ 1) fun from0_ => dB (slotOf σ 43) fun t43_ => sB2 e_ from0_ t43_ w)] 2000) [(0, [1, 0, 1]), (0, [1, 1])] [(0, .pointer e), (1, .int .i64 from0), (2, .int .i64 term), (3, .bool upToDate), (19, .bool t19)] w := by kernel_rfl
theorem elect_Elect_AskedVote.B1_sound {R : Bool → World → Prop}  (e : Option Addr) (from0 term : Int) (upToDate t19 : Bool) (w : World) (h : elect_Elect_AskedVote.B1 e from0 term upToDate t19 w   R) :
    KW Tryz.prog 152 55 (elect_Elect_AskedVote.RV R) ([(0, [1, 0, 1]), (0, [1, 1])].map (toItem (Tryz.f152.body.getD .skip))) [(0, .pointer e), (1, .int .i64 from0), (2, .int .i64 term), (3, .bool upToDate), (19, .bool t19)] w := by
  exact block_spec Tryz.func152 Tryz.mixed (stops_cons (fun σ w h => by
      obtain ⟨e_, e0, h⟩ := dP_elim h
      obtain ⟨from0_, e1, h⟩ := dI_elim h
      obtain ⟨t43_, e2, h⟩ := dB_elim h
      exact (elect_Elect_AskedVote.B2_sound  e_ from0_ t43_ w h).weaken (Sub.cons (Sub.cons (Sub.cons (Sub.nil _) e2) e1) e0)) stops_nil) (Eq.mp (elect_Elect_AskedVote.B1_eq e from0 term upToDate t19 w   R (fun e_ from0_ t43_ w => elect_Elect_AskedVote.B2 e_ from0_ t43_ w  R)) h)
def elect_Elect_AskedVote.B0 (e : Option Addr) (from0 term : Int) (upToDate : Bool) (w : World)   (R : Bool → World → Prop) : Prop :=
  elect_Elect_peer.Call e from0 w fun r14 w1 =>
  Bm (!r14) (
    elect_Elect_AskedVote.B1 e from0 term upToDate true w1  R) (
    elect_Elect_AskedVote.B1 e from0 term upToDate (decide (term > (72057594037927936 : Int))) w1  R)
theorem elect_Elect_AskedVote.B0_eq (e : Option Addr) (from0 term : Int) (upToDate : Bool) (w : World)   (R : Bool → World → Prop) (sB1 : Option Addr → Int → Int → Bool → Bool → World → Prop) :
    (
  elect_Elect_peer.Call e from0 w fun r14 w1 =>
  Bm (!r14) (
    sB1 e from0 term upToDate true w1) (
    sB1 e from0 term upToDate (decide (term > (72057594037927936 : Int))) w1)) = kstep Tryz.prog 55 Tryz.f152.results.toList (Tryz.f152.body.getD .skip) (elect_Elect_AskedVote.RV R) (kvc Tryz.prog 55 Tryz.f152.results.toList (Tryz.f152.body.getD .skip) (elect_Elect_AskedVote.RV R) [([(0, [1, 0, 1]), (0, [1, 1])], fun σ w => dP (slotOf σ 0) fun e_ => dI .i64 (slotOf σ 1) fun from0_ => dI .i64 (slotOf σ 2) fun term_ => dB (slotOf σ 3) fun upToDate_ => dB (slotOf σ 19) fun t19_ => sB1 e_ from0_ term_ upToDate_ t19_ w)] 2000) [(0, [])] [(0, .pointer e), (1, .int .i64 from0), (2, .int .i64 term), (3, .bool upToDate)] w := by kernel_rfl
theorem elect_Elect_AskedVote.B0_sound {R : Bool → World → Prop}  (e : Option Addr) (from0 term : Int) (upToDate : Bool) (w : World) (h : elect_Elect_AskedVote.B0 e from0 term upToDate w   R) :
    KW Tryz.prog 152 55 (elect_Elect_AskedVote.RV R) ([(0, [])].map (toItem (Tryz.f152.body.getD .skip))) [(0, .pointer e), (1, .int .i64 from0), (2, .int .i64 term), (3, .bool upToDate)] w := by
  exact block_spec Tryz.func152 Tryz.mixed (stops_cons (fun σ w h => by
      obtain ⟨e_, e0, h⟩ := dP_elim h
      obtain ⟨from0_, e1, h⟩ := dI_elim h
      obtain ⟨term_, e2, h⟩ := dI_elim h
      obtain ⟨upToDate_, e3, h⟩ := dB_elim h
      obtain ⟨t19_, e4, h⟩ := dB_elim h
      exact (elect_Elect_AskedVote.B1_sound  e_ from0_ term_ upToDate_ t19_ w h).weaken (Sub.cons (Sub.cons (Sub.cons (Sub.cons (Sub.cons (Sub.nil _) e4) e3) e2) e1) e0)) stops_nil) (Eq.mp (elect_Elect_AskedVote.B0_eq e from0 term upToDate w   R (fun e_ from0_ term_ upToDate_ t19_ w => elect_Elect_AskedVote.B1 e_ from0_ term_ upToDate_ t19_ w  R)) h)
theorem elect_Elect_AskedVote.sound (e : Option Addr) (from0 term : Int) (upToDate : Bool) (w : World) (R : Bool → World → Prop) (h : elect_Elect_AskedVote.B0 e from0 term upToDate w R) : elect_Elect_AskedVote.Call e from0 term upToDate w R := by
  have hc := calls_of_block (args := #[.pointer e, .int .i64 from0, .int .i64 term, .bool upToDate]) Tryz.func152 (body := (Tryz.f152.body.getD .skip)) (by kernel_rfl) (by kernel_rfl) (args_slot _) (elect_Elect_AskedVote.B0_sound e from0 term upToDate w h)
  exact hc.mono fun e w' he => by
    obtain ⟨v, rfl, hv⟩ := he
    exact elect_Elect_AskedVote.RV_elim hv
end Go.Proofs.Qxb6500433aGreat
