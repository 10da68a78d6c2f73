import Derived.Test.Qxb6500430aGreatSig
set_option maxRecDepth 100000
set_option linter.unusedVariables false
open Go.Vc
namespace Go.Proofs.Qxb6500430aGreat
def rlog_Log_Append.B2 (l : Option Addr) (e : Nat) (t38 : Bool) (w : World)   (R : Int → World → Prop) : Prop :=
  Bm t38 (
    R (6 : Int) w) (
    Pn l fun a =>
    LdI .i64 (a.add 6) w fun x42 =>
    rlog_slotOf.Call (IntKind.i64.wrap (x42 + (1 : Int))) w fun r45 w1 =>
    Pn l fun a_1 =>
    LdP a_1 w1.drew fun x49 =>
    LdI .i64 ⟨e, 0, none⟩ w1.drew fun x53 =>
    LdS ⟨e, 1, none⟩ w1.drew fun x55 =>
    store_Store_PutRec.Call x49 r45 (IntKind.i64.wrap (x42 + (1 : Int))) x53 x55 w1.drew fun r57 w2 =>
    Bm (r57 != (0 : Int)) (
      R r57 w2) (
      LdI .i64 ⟨e, 0, none⟩ w2.drew fun x65 =>
      Pn l fun a_2 =>
      rlog_slotOf.Call (IntKind.i64.wrap (x42 + (1 : Int))) w2.drew fun r63 w3 =>
      w3.cell? ⟨e, 0, none⟩ = some (.int .i64 x65) ∧
      (0 ≤ r63 ∧ r63 < ((6 : Nat) : Int)) ∧
      Sts [.int .i64 x65] (Addr.add (a_2.add 7) (r63.toNat * 1)) 0 w3 fun w4 =>
      LdS ⟨e, 1, none⟩ w4.drew fun x73 =>
      Pn l fun a_3 =>
      rlog_slotOf.Call (IntKind.i64.wrap (x42 + (1 : Int))) w4.drew fun r71 w5 =>
      w5.cell? ⟨e, 1, none⟩ = some (.string x73) ∧
      (0 ≤ r71 ∧ r71 < ((6 : Nat) : Int)) ∧
      Sts [.string x73] (Addr.add (a_3.add 13) (r71.toNat * 1)) 0 w5 fun w6 =>
      Pn l fun a_4 =>
      Sts [.int .i64 (IntKind.i64.wrap (x42 + (1 : Int)))] (a_4.add 6) 0 w6 fun w7 =>
      R (0 : Int) w7))
theorem rlog_Log_Append.B2_eq (l : Option Addr) (e : Nat) (t38 : Bool) (w : World)   (R : Int → World → Prop)  :
    (
  Bm t38 (
    R (6 : Int) w) (
    Pn l fun a =>
    LdI .i64 (a.add 6) w fun x42 =>
    rlog_slotOf.Call (IntKind.i64.wrap (x42 + (1 : Int))) w fun r45 w1 =>
    Pn l fun a_1 =>
    LdP a_1 w1.drew fun x49 =>
    LdI .i64 ⟨e, 0, none⟩ w1.drew fun x53 =>
    LdS ⟨e, 1, none⟩ w1.drew fun x55 =>
    store_Store_PutRec.Call x49 r45 (IntKind.i64.wrap (x42 + (1 : Int))) x53 x55 w1.drew fun r57 w2 =>
    Bm (r57 != (0 : Int)) (
      R r57 w2) (
      LdI .i64 ⟨e, 0, none⟩ w2.drew fun x65 =>
      Pn l fun a_2 =>
      rlog_slotOf.Call (IntKind.i64.wrap (x42 + (1 : Int))) w2.drew fun r63 w3 =>
      w3.cell? ⟨e, 0, none⟩ = some (.int .i64 x65) ∧
      (0 ≤ r63 ∧ r63 < ((6 : Nat) : Int)) ∧
      Sts [.int .i64 x65] (Addr.add (a_2.add 7) (r63.toNat * 1)) 0 w3 fun w4 =>
      LdS ⟨e, 1, none⟩ w4.drew fun x73 =>
      Pn l fun a_3 =>
      rlog_slotOf.Call (IntKind.i64.wrap (x42 + (1 : Int))) w4.drew fun r71 w5 =>
      w5.cell? ⟨e, 1, none⟩ = some (.string x73) ∧
      (0 ≤ r71 ∧ r71 < ((6 : Nat) : Int)) ∧
      Sts [.string x73] (Addr.add (a_3.add 13) (r71.toNat * 1)) 0 w5 fun w6 =>
      Pn l fun a_4 =>
      Sts [.int .i64 (IntKind.i64.wrap (x42 + (1 : Int)))] (a_4.add 6) 0 w6 fun w7 =>
      R (0 : Int) w7))) = kstep Tryz.prog 81 Tryz.f237.results.toList (Tryz.f237.body.getD .skip) (rlog_Log_Append.RV R) (kvc Tryz.prog 81 Tryz.f237.results.toList (Tryz.f237.body.getD .skip) (rlog_Log_Append.RV R) [] 2000) [(0, [1, 1, 0, 1]), (0, [1, 1, 1])] [(0, .pointer l), (3, .pointer (some ⟨e, 0, none⟩)), (38, .bool t38)] w := by kernel_rfl
theorem rlog_Log_Append.B2_sound {R : Int → World → Prop}  (l : Option Addr) (e : Nat) (t38 : Bool) (w : World) (h : rlog_Log_Append.B2 l e t38 w   R) :
    KW Tryz.prog 237 81 (rlog_Log_Append.RV R) ([(0, [1, 1, 0, 1]), (0, [1, 1, 1])].map (toItem (Tryz.f237.body.getD .skip))) [(0, .pointer l), (3, .pointer (some ⟨e, 0, none⟩)), (38, .bool t38)] w := by
  exact block_spec Tryz.func237 Tryz.mixed stops_nil (Eq.mp (rlog_Log_Append.B2_eq l e t38 w   R ) h)
def rlog_Log_Append.B1 (l : Option Addr) (e : Nat) (t21 : Bool) (w : World)   (R : Int → World → Prop) : Prop :=
  Bm t21 (
    R (4 : Int) w) (
    Pn l fun a =>
    LdI .i64 (a.add 6) w.drew fun x25 =>
    Pn l fun a_1 =>
    LdI .i64 (a_1.add 3) w.drew fun x29 =>
    Bm (decide ((IntKind.i64.wrap (x25 - x29)) ≥ (6 : Int))) (
      rlog_Log_Append.B2 l e true w.drew  R) (
      Pn l fun a_2 =>
      LdI .i64 (a_2.add 6) w.drew fun x36 =>
      rlog_Log_Append.B2 l e (decide (x36 ≥ (72057594037927936 : Int))) w.drew  R))
theorem rlog_Log_Append.B1_eq (l : Option Addr) (e : Nat) (t21 : Bool) (w : World)   (R : Int → World → Prop) (sB2 : Option Addr → Nat → Bool → World → Prop) :
    (
  Bm t21 (
    R (4 : Int) w) (
    Pn l fun a =>
    LdI .i64 (a.add 6) w.drew fun x25 =>
    Pn l fun a_1 =>
    LdI .i64 (a_1.add 3) w.drew fun x29 =>
    Bm (decide ((IntKind.i64.wrap (x25 - x29)) ≥ (6 : Int))) (
      sB2 l e true w.drew) (
      Pn l fun a_2 =>
      LdI .i64 (a_2.add 6) w.drew fun x36 =>
      sB2 l e (decide (x36 ≥ (72057594037927936 : Int))) w.drew))) = kstep Tryz.prog 81 Tryz.f237.results.toList (Tryz.f237.body.getD .skip) (rlog_Log_Append.RV R) (kvc Tryz.prog 81 Tryz.f237.results.toList (Tryz.f237.body.getD .skip) (rlog_Log_Append.RV R) [([(0, [1, 1, 0, 1]), (0, [1, 1, 1])], fun σ w => dP (slotOf σ 0) fun l_ => dK (slotOf σ 3) fun e_ => dB (slotOf σ 38) fun t38_ => sB2 l_ e_ t38_ w)] 2000) [(0, [1, 0, 1]), (0, [1, 1])] [(0, .pointer l), (3, .pointer (some ⟨e, 0, none⟩)), (21, .bool t21)] w := by kernel_rfl
theorem rlog_Log_Append.B1_sound {R : Int → World → Prop}  (l : Option Addr) (e : Nat) (t21 : Bool) (w : World) (h : rlog_Log_Append.B1 l e t21 w   R) :
    KW Tryz.prog 237 81 (rlog_Log_Append.RV R) ([(0, [1, 0, 1]), (0, [1, 1])].map (toItem (Tryz.f237.body.getD .skip))) [(0, .pointer l), (3, .pointer (some ⟨e, 0, none⟩)), (21, .bool t21)] w := by
  exact block_spec Tryz.func237 Tryz.mixed (stops_cons (fun σ w h => by
      obtain ⟨l_, e0, h⟩ := dP_elim h
      obtain ⟨e_, e1, h⟩ := dK_elim h
      obtain ⟨t38_, e2, h⟩ := dB_elim h
      exact (rlog_Log_Append.B2_sound  l_ e_ t38_ w h).weaken (Sub.cons (Sub.cons (Sub.cons (Sub.nil _) e2) e1) e0)) stops_nil) (Eq.mp (rlog_Log_Append.B1_eq l e t21 w   R (fun l_ e_ t38_ w => rlog_Log_Append.B2 l_ e_ t38_ w  R)) h)
def rlog_Log_Append.B0 (l : Option Addr) (e_0 : Int) (e_1 : ByteArray) (w : World)   (R : Int → World → Prop) : Prop :=
  New (.cells #[.int .i64 e_0, .string e_1] 155) w fun e_ w1 =>
  LdI .i64 ⟨e_, 0, none⟩ w1 fun x9 =>
  Bm (decide (x9 < (0 : Int))) (
    rlog_Log_Append.B1 l e_ true w1  R) (
    LdI .i64 ⟨e_, 0, none⟩ w1 fun x13 =>
    Bm (decide (x13 > (72057594037927936 : Int))) (
      rlog_Log_Append.B1 l e_ true w1  R) (
      LdS ⟨e_, 1, none⟩ w1 fun x18 =>
      rlog_Log_Append.B1 l e_ (decide (((x18.size : Nat) : Int) > (24 : Int))) w1  R))
theorem rlog_Log_Append.B0_eq (l : Option Addr) (e_0 : Int) (e_1 : ByteArray) (w : World)   (R : Int → World → Prop) (sB1 : Option Addr → Nat → Bool → World → Prop) :
    (
  New (.cells #[.int .i64 e_0, .string e_1] 155) w fun e_ w1 =>
  LdI .i64 ⟨e_, 0, none⟩ w1 fun x9 =>
  Bm (decide (x9 < (0 : Int))) (
    sB1 l e_ true w1) (
    LdI .i64 ⟨e_, 0, none⟩ w1 fun x13 =>
    Bm (decide (x13 > (72057594037927936 : Int))) (
      sB1 l e_ true w1) (
      LdS ⟨e_, 1, none⟩ w1 fun x18 =>
      sB1 l e_ (decide (((x18.size : Nat) : Int) > (24 : Int))) w1))) = kstep Tryz.prog 81 Tryz.f237.results.toList (Tryz.f237.body.getD .skip) (rlog_Log_Append.RV R) (kvc Tryz.prog 81 Tryz.f237.results.toList (Tryz.f237.body.getD .skip) (rlog_Log_Append.RV R) [([(0, [1, 0, 1]), (0, [1, 1])], fun σ w => dP (slotOf σ 0) fun l_ => dK (slotOf σ 3) fun e_ => dB (slotOf σ 21) fun t21_ => sB1 l_ e_ t21_ w)] 2000) [(0, [])] [(0, .pointer l), (1, .agg #[.int .i64 e_0, .string e_1])] w := by kernel_rfl
theorem rlog_Log_Append.B0_sound {R : Int → World → Prop}  (l : Option Addr) (e_0 : Int) (e_1 : ByteArray) (w : World) (h : rlog_Log_Append.B0 l e_0 e_1 w   R) :
    KW Tryz.prog 237 81 (rlog_Log_Append.RV R) ([(0, [])].map (toItem (Tryz.f237.body.getD .skip))) [(0, .pointer l), (1, .agg #[.int .i64 e_0, .string e_1])] w := by
  exact block_spec Tryz.func237 Tryz.mixed (stops_cons (fun σ w h => by
      obtain ⟨l_, e0, h⟩ := dP_elim h
      obtain ⟨e_, e1, h⟩ := dK_elim h
      obtain ⟨t21_, e2, h⟩ := dB_elim h
      exact (rlog_Log_Append.B1_sound  l_ e_ t21_ w h).weaken (Sub.cons (Sub.cons (Sub.cons (Sub.nil _) e2) e1) e0)) stops_nil) (Eq.mp (rlog_Log_Append.B0_eq l e_0 e_1 w   R (fun l_ e_ t21_ w => rlog_Log_Append.B1 l_ e_ t21_ w  R)) h)
theorem rlog_Log_Append.sound (l : Option Addr) (e_0 : Int) (e_1 : ByteArray) (w : World) (R : Int → World → Prop) (h : rlog_Log_Append.B0 l e_0 e_1 w R) : rlog_Log_Append.Call l e_0 e_1 w R := by
  have hc := calls_of_block (args := #[.pointer l, .agg #[.int .i64 e_0, .string e_1]]) Tryz.func237 (body := (Tryz.f237.body.getD .skip)) (by kernel_rfl) (by kernel_rfl) (args_slot _) (rlog_Log_Append.B0_sound l e_0 e_1 w h)
  exact hc.mono fun e w' he => by
    obtain ⟨v, rfl, hv⟩ := he
    exact rlog_Log_Append.RV_elim hv
def rlogm_Log_SetTerm.B1 (l : Option Addr) (term vote : Int) (t20 : Bool) (w : World)   (R : Int → World → Prop) : Prop :=
  Bm t20 (
    R (1 : Int) w) (
    Pn l fun a =>
    LdP a w.drew fun x24 =>
    Pn l fun a_1 =>
    LdP a_1 w.drew fun x28 =>
    Pn x24 fun a_2 =>
    Sts [.int .i64 term] a_2 0 w.drew fun w1 =>
    Pn x28 fun a_3 =>
    Sts [.int .i64 vote] (a_3.add 1) 0 w1 fun w2 =>
    rlogm_Log_step.Call l w2 fun w3 =>
    R (0 : Int) w3)
theorem rlogm_Log_SetTerm.B1_eq (l : Option Addr) (term vote : Int) (t20 : Bool) (w : World)   (R : Int → World → Prop)  :
    (
  Bm t20 (
    R (1 : Int) w) (
    Pn l fun a =>
    LdP a w.drew fun x24 =>
    Pn l fun a_1 =>
    LdP a_1 w.drew fun x28 =>
    Pn x24 fun a_2 =>
    Sts [.int .i64 term] a_2 0 w.drew fun w1 =>
    Pn x28 fun a_3 =>
    Sts [.int .i64 vote] (a_3.add 1) 0 w1 fun w2 =>
    rlogm_Log_step.Call l w2 fun w3 =>
    R (0 : Int) w3)) = kstep Tryz.prog 37 Tryz.f238.results.toList (Tryz.f238.body.getD .skip) (rlogm_Log_SetTerm.RV R) (kvc Tryz.prog 37 Tryz.f238.results.toList (Tryz.f238.body.getD .skip) (rlogm_Log_SetTerm.RV R) [] 2000) [(0, [1, 0, 1]), (0, [1, 1])] [(0, .pointer l), (1, .int .i64 term), (2, .int .i64 vote), (20, .bool t20)] w := by kernel_rfl
theorem rlogm_Log_SetTerm.B1_sound {R : Int → World → Prop}  (l : Option Addr) (term vote : Int) (t20 : Bool) (w : World) (h : rlogm_Log_SetTerm.B1 l term vote t20 w   R) :
    KW Tryz.prog 238 37 (rlogm_Log_SetTerm.RV R) ([(0, [1, 0, 1]), (0, [1, 1])].map (toItem (Tryz.f238.body.getD .skip))) [(0, .pointer l), (1, .int .i64 term), (2, .int .i64 vote), (20, .bool t20)] w := by
  exact block_spec Tryz.func238 Tryz.mixed stops_nil (Eq.mp (rlogm_Log_SetTerm.B1_eq l term vote t20 w   R ) h)
def rlogm_Log_SetTerm.B0 (l : Option Addr) (term vote : Int) (w : World)   (R : Int → World → Prop) : Prop :=
  Bm (decide (term < (0 : Int))) (
    rlogm_Log_SetTerm.B1 l term vote true w  R) (
    Bm (decide (term > (72057594037927936 : Int))) (
      rlogm_Log_SetTerm.B1 l term vote true w  R) (
      Bm (decide (vote < (-1 : Int))) (
        rlogm_Log_SetTerm.B1 l term vote true w  R) (
        rlogm_Log_SetTerm.B1 l term vote (decide (vote ≥ (3 : Int))) w  R)))
theorem rlogm_Log_SetTerm.B0_eq (l : Option Addr) (term vote : Int) (w : World)   (R : Int → World → Prop) (sB1 : Option Addr → Int → Int → Bool → World → Prop) :
    (
  Bm (decide (term < (0 : Int))) (
    sB1 l term vote true w) (
    Bm (decide (term > (72057594037927936 : Int))) (
      sB1 l term vote true w) (
      Bm (decide (vote < (-1 : Int))) (
        sB1 l term vote true w) (
        sB1 l term vote (decide (vote ≥ (3 : Int))) w)))) = kstep Tryz.prog 37 Tryz.f238.results.toList (Tryz.f238.body.getD .skip) (rlogm_Log_SetTerm.RV R) (kvc Tryz.prog 37 Tryz.f238.results.toList (Tryz.f238.body.getD .skip) (rlogm_Log_SetTerm.RV R) [([(0, [1, 0, 1]), (0, [1, 1])], fun σ w => dP (slotOf σ 0) fun l_ => dI .i64 (slotOf σ 1) fun term_ => dI .i64 (slotOf σ 2) fun vote_ => dB (slotOf σ 20) fun t20_ => sB1 l_ term_ vote_ t20_ w)] 2000) [(0, [])] [(0, .pointer l), (1, .int .i64 term), (2, .int .i64 vote)] w := by kernel_rfl
theorem rlogm_Log_SetTerm.B0_sound {R : Int → World → Prop}  (l : Option Addr) (term vote : Int) (w : World) (h : rlogm_Log_SetTerm.B0 l term vote w   R) :
    KW Tryz.prog 238 37 (rlogm_Log_SetTerm.RV R) ([(0, [])].map (toItem (Tryz.f238.body.getD .skip))) [(0, .pointer l), (1, .int .i64 term), (2, .int .i64 vote)] w := by
  exact block_spec Tryz.func238 Tryz.mixed (stops_cons (fun σ w h => by
      obtain ⟨l_, e0, h⟩ := dP_elim h
      obtain ⟨term_, e1, h⟩ := dI_elim h
      obtain ⟨vote_, e2, h⟩ := dI_elim h
      obtain ⟨t20_, e3, h⟩ := dB_elim h
      exact (rlogm_Log_SetTerm.B1_sound  l_ term_ vote_ t20_ w h).weaken (Sub.cons (Sub.cons (Sub.cons (Sub.cons (Sub.nil _) e3) e2) e1) e0)) stops_nil) (Eq.mp (rlogm_Log_SetTerm.B0_eq l term vote w   R (fun l_ term_ vote_ t20_ w => rlogm_Log_SetTerm.B1 l_ term_ vote_ t20_ w  R)) h)
theorem rlogm_Log_SetTerm.sound (l : Option Addr) (term vote : Int) (w : World) (R : Int → World → Prop) (h : rlogm_Log_SetTerm.B0 l term vote w R) : rlogm_Log_SetTerm.Call l term vote w R := by
  have hc := calls_of_block (args := #[.pointer l, .int .i64 term, .int .i64 vote]) Tryz.func238 (body := (Tryz.f238.body.getD .skip)) (by kernel_rfl) (by kernel_rfl) (args_slot _) (rlogm_Log_SetTerm.B0_sound l term vote w h)
  exact hc.mono fun e w' he => by
    obtain ⟨v, rfl, hv⟩ := he
    exact rlogm_Log_SetTerm.RV_elim hv
def rlogm_Log_At.B0 (l : Option Addr) (i : Int) (w : World)   (R : Int → ByteArray → Int → World → Prop) : Prop :=
  New (.cells #[.int .i64 (0 : Int), .string (ByteArray.mk #[])] 155) w fun b4 w1 =>
  Pn l fun a =>
  LdP a w1 fun x10 =>
  Pn x10 fun a_1 =>
  LdI .i64 (a_1.add 2) w1 fun x13 =>
  Bm (decide (i ≤ x13)) (
    Sts [.int .i64 (0 : Int), .string (ByteArray.mk #[])] ⟨b4, 0, none⟩ 0 w1 fun w2 =>
    LdI .i64 ⟨b4, 0, none⟩ w2 fun r_0 =>
    LdS ⟨b4, 1, none⟩ w2 fun r_1 =>
    R r_0 r_1 (7 : Int) w2) (
    rlogm_Log_Last.Call l w1 fun r18 w3 =>
    Bm (decide (i > r18)) (
      Sts [.int .i64 (0 : Int), .string (ByteArray.mk #[])] ⟨b4, 0, none⟩ 0 w3 fun w4 =>
      LdI .i64 ⟨b4, 0, none⟩ w4 fun r_0_1 =>
      LdS ⟨b4, 1, none⟩ w4 fun r_1_1 =>
      R r_0_1 r_1_1 (2 : Int) w4) (
      Pn l fun a_2 =>
      LdP a_2 w3.drew fun x24 =>
      Pn l fun a_3 =>
      LdP a_3 w3.drew fun x29 =>
      Pn x29 fun a_4 =>
      LdI .i64 (a_4.add 2) w3.drew fun x32 =>
      Pn x24 fun a_5 =>
      (0 ≤ (IntKind.i64.wrap ((IntKind.i64.wrap (i - x32)) - (1 : Int))) ∧ (IntKind.i64.wrap ((IntKind.i64.wrap (i - x32)) - (1 : Int))) < ((6 : Nat) : Int)) ∧
      LdI .i64 (Addr.add (a_5.add 6) ((IntKind.i64.wrap ((IntKind.i64.wrap (i - x32)) - (1 : Int))).toNat * 2)) w3.drew fun x38_0 =>
      LdS ((Addr.add (a_5.add 6) ((IntKind.i64.wrap ((IntKind.i64.wrap (i - x32)) - (1 : Int))).toNat * 2)).add 1) w3.drew fun x38_1 =>
      Sts [.int .i64 x38_0, .string x38_1] ⟨b4, 0, none⟩ 0 w3.drew fun w5 =>
      LdI .i64 ⟨b4, 0, none⟩ w5 fun r_0_2 =>
      LdS ⟨b4, 1, none⟩ w5 fun r_1_2 =>
      R r_0_2 r_1_2 (0 : Int) w5))
theorem rlogm_Log_At.B0_eq (l : Option Addr) (i : Int) (w : World)   (R : Int → ByteArray → Int → World → Prop)  :
    (
  New (.cells #[.int .i64 (0 : Int), .string (ByteArray.mk #[])] 155) w fun b4 w1 =>
  Pn l fun a =>
  LdP a w1 fun x10 =>
  Pn x10 fun a_1 =>
  LdI .i64 (a_1.add 2) w1 fun x13 =>
  Bm (decide (i ≤ x13)) (
    Sts [.int .i64 (0 : Int), .string (ByteArray.mk #[])] ⟨b4, 0, none⟩ 0 w1 fun w2 =>
    LdI .i64 ⟨b4, 0, none⟩ w2 fun r_0 =>
    LdS ⟨b4, 1, none⟩ w2 fun r_1 =>
    R r_0 r_1 (7 : Int) w2) (
    rlogm_Log_Last.Call l w1 fun r18 w3 =>
    Bm (decide (i > r18)) (
      Sts [.int .i64 (0 : Int), .string (ByteArray.mk #[])] ⟨b4, 0, none⟩ 0 w3 fun w4 =>
      LdI .i64 ⟨b4, 0, none⟩ w4 fun r_0_1 =>
      LdS ⟨b4, 1, none⟩ w4 fun r_1_1 =>
      R r_0_1 r_1_1 (2 : Int) w4) (
      Pn l fun a_2 =>
      LdP a_2 w3.drew fun x24 =>
      Pn l fun a_3 =>
      LdP a_3 w3.drew fun x29 =>
      Pn x29 fun a_4 =>
      LdI .i64 (a_4.add 2) w3.drew fun x32 =>
      Pn x24 fun a_5 =>
      (0 ≤ (IntKind.i64.wrap ((IntKind.i64.wrap (i - x32)) - (1 : Int))) ∧ (IntKind.i64.wrap ((IntKind.i64.wrap (i - x32)) - (1 : Int))) < ((6 : Nat) : Int)) ∧
      LdI .i64 (Addr.add (a_5.add 6) ((IntKind.i64.wrap ((IntKind.i64.wrap (i - x32)) - (1 : Int))).toNat * 2)) w3.drew fun x38_0 =>
      LdS ((Addr.add (a_5.add 6) ((IntKind.i64.wrap ((IntKind.i64.wrap (i - x32)) - (1 : Int))).toNat * 2)).add 1) w3.drew fun x38_1 =>
      Sts [.int .i64 x38_0, .string x38_1] ⟨b4, 0, none⟩ 0 w3.drew fun w5 =>
      LdI .i64 ⟨b4, 0, none⟩ w5 fun r_0_2 =>
      LdS ⟨b4, 1, none⟩ w5 fun r_1_2 =>
      R r_0_2 r_1_2 (0 : Int) w5))) = kstep Tryz.prog 39 Tryz.f239.results.toList (Tryz.f239.body.getD .skip) (rlogm_Log_At.RV R) (kvc Tryz.prog 39 Tryz.f239.results.toList (Tryz.f239.body.getD .skip) (rlogm_Log_At.RV R) [] 2000) [(0, [])] [(0, .pointer l), (1, .int .i64 i)] w := by kernel_rfl
theorem rlogm_Log_At.B0_sound {R : Int → ByteArray → Int → World → Prop}  (l : Option Addr) (i : Int) (w : World) (h : rlogm_Log_At.B0 l i w   R) :
    KW Tryz.prog 239 39 (rlogm_Log_At.RV R) ([(0, [])].map (toItem (Tryz.f239.body.getD .skip))) [(0, .pointer l), (1, .int .i64 i)] w := by
  exact block_spec Tryz.func239 Tryz.mixed stops_nil (Eq.mp (rlogm_Log_At.B0_eq l i w   R ) h)
theorem rlogm_Log_At.sound (l : Option Addr) (i : Int) (w : World) (R : Int → ByteArray → Int → World → Prop) (h : rlogm_Log_At.B0 l i w R) : rlogm_Log_At.Call l i w R := by
  have hc := calls_of_block (args := #[.pointer l, .int .i64 i]) Tryz.func239 (body := (Tryz.f239.body.getD .skip)) (by kernel_rfl) (by kernel_rfl) (args_slot _) (rlogm_Log_At.B0_sound l i w h)
  exact hc.mono fun e w' he => by
    obtain ⟨v, rfl, hv⟩ := he
    exact rlogm_Log_At.RV_elim hv
def kvm_str.L1b (b_b : Option Addr) (b_l b_c : Nat) (s : ByteArray) (i : Int) (w : World)  (N1 : Option Addr → Nat → Nat → ByteArray → Int → World → Prop) (R : Option Addr → Nat → Nat → World → Prop) : Prop :=
  Bm (decide (i < ((s.size : Nat) : Int))) (
    (0 ≤ i ∧ i < ((s.size : Nat) : Int)) ∧
    New (.cells #[.int .u8 (byteAt s i)] 5) w fun b22 w1 =>
    Append 5 (.int .u8 (0 : Int)) 1 1 b_b b_l b_c (some ⟨b22, 0, none⟩) 1 w1 fun b23 c23 w2 =>
    N1 b23 (b_l + 1) c23 s (IntKind.i64.wrap (i + (1 : Int))) w2) (
    R b_b b_l b_c w)
theorem kvm_str.L1b_eq (b_b : Option Addr) (b_l b_c : Nat) (s : ByteArray) (i : Int) (w : World)  (N1 : Option Addr → Nat → Nat → ByteArray → Int → World → Prop) (R : Option Addr → Nat → Nat → World → Prop)  :
    (
  Bm (decide (i < ((s.size : Nat) : Int))) (
    (0 ≤ i ∧ i < ((s.size : Nat) : Int)) ∧
    New (.cells #[.int .u8 (byteAt s i)] 5) w fun b22 w1 =>
    Append 5 (.int .u8 (0 : Int)) 1 1 b_b b_l b_c (some ⟨b22, 0, none⟩) 1 w1 fun b23 c23 w2 =>
    N1 b23 (b_l + 1) c23 s (IntKind.i64.wrap (i + (1 : Int))) w2) (
    R b_b b_l b_c w)) = kstep Tryz.prog 25 Tryz.f240.results.toList (Tryz.f240.body.getD .skip) (kvm_str.RV R) (kvc Tryz.prog 25 Tryz.f240.results.toList (Tryz.f240.body.getD .skip) (kvm_str.RV R) [([(0, [1, 1, 0, 1, 0, 0]), (2, [1, 1, 0, 1, 0, 0]), (1, [0]), (0, [1, 1, 1])], fun σ w => dL (slotOf σ 0) fun b_b_ b_l_ b_c_ => dS (slotOf σ 1) fun s_ => dI .i64 (slotOf σ 5) fun i_ => N1 b_b_ b_l_ b_c_ s_ i_ w)] 2000) [(0, [1, 1, 0, 1, 0, 0]), (2, [1, 1, 0, 1, 0, 0]), (1, [0]), (0, [1, 1, 1])] [(0, .slice b_b b_l b_c), (1, .string s), (5, .int .i64 i)] w := by kernel_rfl
theorem kvm_str.L1b_sound {R : Option Addr → Nat → Nat → World → Prop} {N1 : Option Addr → Nat → Nat → ByteArray → Int → World → Prop} (hN1 : ∀ b_b b_l b_c s i w, N1 b_b b_l b_c s i w → KW Tryz.prog 240 25 (kvm_str.RV R) ([(0, [1, 1, 0, 1, 0, 0]), (2, [1, 1, 0, 1, 0, 0]), (1, [0]), (0, [1, 1, 1])].map (toItem (Tryz.f240.body.getD .skip))) [(0, .slice b_b b_l b_c), (1, .string s), (5, .int .i64 i)] w) (b_b : Option Addr) (b_l b_c : Nat) (s : ByteArray) (i : Int) (w : World) (h : kvm_str.L1b b_b b_l b_c s i w  N1 R) :
    KW Tryz.prog 240 25 (kvm_str.RV R) ([(0, [1, 1, 0, 1, 0, 0]), (2, [1, 1, 0, 1, 0, 0]), (1, [0]), (0, [1, 1, 1])].map (toItem (Tryz.f240.body.getD .skip))) [(0, .slice b_b b_l b_c), (1, .string s), (5, .int .i64 i)] w := by
  exact block_spec Tryz.func240 Tryz.mixed (stops_cons (fun σ w h => by
      obtain ⟨b_b_, b_l_, b_c_, e0, h⟩ := dL_elim h
      obtain ⟨s_, e1, h⟩ := dS_elim h
      obtain ⟨i_, e2, h⟩ := dI_elim h
      exact (hN1 b_b_ b_l_ b_c_ s_ i_ w h).weaken (Sub.cons (Sub.cons (Sub.cons (Sub.nil _) e2) e1) e0)) stops_nil) (Eq.mp (kvm_str.L1b_eq b_b b_l b_c s i w  N1 R ) h)
def kvm_str.L1 (b_b : Option Addr) (b_l b_c : Nat) (s : ByteArray) (i : Int) (w : World)  (R : Option Addr → Nat → Nat → World → Prop) : Prop :=
  ∃ (I : Nat → Option Addr → Nat → Nat → ByteArray → Int → World → Prop) (m : Nat), I m b_b b_l b_c s i w ∧ ∀ m b_b b_l b_c s i w, I m b_b b_l b_c s i w → kvm_str.L1b b_b b_l b_c s i w  (fun b_b' b_l' b_c' s' i' w' => ∃ m', m' < m ∧ I m' b_b' b_l' b_c' s' i' w') R
theorem kvm_str.L1_sound {R : Option Addr → Nat → Nat → World → Prop}  (b_b : Option Addr) (b_l b_c : Nat) (s : ByteArray) (i : Int) (w : World) (h : kvm_str.L1 b_b b_l b_c s i w  R) :
    KW Tryz.prog 240 25 (kvm_str.RV R) ([(0, [1, 1, 0, 1, 0, 0]), (2, [1, 1, 0, 1, 0, 0]), (1, [0]), (0, [1, 1, 1])].map (toItem (Tryz.f240.body.getD .skip))) [(0, .slice b_b b_l b_c), (1, .string s), (5, .int .i64 i)] w := by
  obtain ⟨I, m, hBase, hr⟩ := h
  refine KW.loop (fun m σ w => ∃ (b_b : Option Addr) (b_l b_c : Nat) (s : ByteArray) (i : Int), σ = [(0, .slice b_b b_l b_c), (1, .string s), (5, .int .i64 i)] ∧ I m b_b b_l b_c s i w) ?_ m _ w ⟨b_b, b_l, b_c, s, i, rfl, hBase⟩
  rintro m ih σ w ⟨b_b, b_l, b_c, s, i, rfl, hI⟩
  exact kvm_str.L1b_sound  (N1 := fun b_b' b_l' b_c' s' i' w' => ∃ m', m' < m ∧ I m' b_b' b_l' b_c' s' i' w') (fun b_b' b_l' b_c' s' i' w' hx => by obtain ⟨m', hlt, hI'⟩ := hx; exact ih m' hlt _ w' ⟨b_b', b_l', b_c', s', i', rfl, hI'⟩) b_b b_l b_c s i w (hr m b_b b_l b_c s i w hI)
def kvm_str.B0 (b_b : Option Addr) (b_l b_c : Nat) (s : ByteArray) (w : World)   (R : Option Addr → Nat → Nat → World → Prop) : Prop :=
  New (.cells #[.int .u8 (IntKind.u8.wrap ((s.size : Nat) : Int))] 5) w fun b10 w1 =>
  Append 5 (.int .u8 (0 : Int)) 1 1 b_b b_l b_c (some ⟨b10, 0, none⟩) 1 w1 fun b11 c11 w2 =>
  kvm_str.L1 b11 (b_l + 1) c11 s (0 : Int) w2  R
theorem kvm_str.B0_eq (b_b : Option Addr) (b_l b_c : Nat) (s : ByteArray) (w : World)   (R : Option Addr → Nat → Nat → World → Prop) (sL1 : Option Addr → Nat → Nat → ByteArray → Int → World → Prop) :
    (
  New (.cells #[.int .u8 (IntKind.u8.wrap ((s.size : Nat) : Int))] 5) w fun b10 w1 =>
  Append 5 (.int .u8 (0 : Int)) 1 1 b_b b_l b_c (some ⟨b10, 0, none⟩) 1 w1 fun b11 c11 w2 =>
  sL1 b11 (b_l + 1) c11 s (0 : Int) w2) = kstep Tryz.prog 25 Tryz.f240.results.toList (Tryz.f240.body.getD .skip) (kvm_str.RV R) (kvc Tryz.prog 25 Tryz.f240.results.toList (Tryz.f240.body.getD .skip) (kvm_str.RV R) [([(0, [1, 1, 0, 1, 0, 0]), (2, [1, 1, 0, 1, 0, 0]), (1, [0]), (0, [1, 1, 1])], fun σ w => dL (slotOf σ 0) fun b_b_ b_l_ b_c_ => dS (slotOf σ 1) fun s_ => dI .i64 (slotOf σ 5) fun i_ => sL1 b_b_ b_l_ b_c_ s_ i_ w)] 2000) [(0, [])] [(0, .slice b_b b_l b_c), (1, .string s)] w := by kernel_rfl
theorem kvm_str.B0_sound {R : Option Addr → Nat → Nat → World → Prop}  (b_b : Option Addr) (b_l b_c : Nat) (s : ByteArray) (w : World) (h : kvm_str.B0 b_b b_l b_c s w   R) :
    KW Tryz.prog 240 25 (kvm_str.RV R) ([(0, [])].map (toItem (Tryz.f240.body.getD .skip))) [(0, .slice b_b b_l b_c), (1, .string s)] w := by
  exact block_spec Tryz.func240 Tryz.mixed (stops_cons (fun σ w h => by
      obtain ⟨b_b_, b_l_, b_c_, e0, h⟩ := dL_elim h
      obtain ⟨s_, e1, h⟩ := dS_elim h
      obtain ⟨i_, e2, h⟩ := dI_elim h
      exact (kvm_str.L1_sound  b_b_ b_l_ b_c_ s_ i_ w h).weaken (Sub.cons (Sub.cons (Sub.cons (Sub.nil _) e2) e1) e0)) stops_nil) (Eq.mp (kvm_str.B0_eq b_b b_l b_c s w   R (fun b_b_ b_l_ b_c_ s_ i_ w => kvm_str.L1 b_b_ b_l_ b_c_ s_ i_ w  R)) h)
theorem kvm_str.sound (b_b : Option Addr) (b_l b_c : Nat) (s : ByteArray) (w : World) (R : Option Addr → Nat → Nat → World → Prop) (h : kvm_str.B0 b_b b_l b_c s w R) : kvm_str.Call b_b b_l b_c s w R := by
  have hc := calls_of_block (args := #[.slice b_b b_l b_c, .string s]) Tryz.func240 (body := (Tryz.f240.body.getD .skip)) (by kernel_rfl) (by kernel_rfl) (args_slot _) (kvm_str.B0_sound b_b b_l b_c s w h)
  exact hc.mono fun e w' he => by
    obtain ⟨v, rfl, hv⟩ := he
    exact kvm_str.RV_elim hv
def rlogm_Log_Compact.B0 (l : Option Addr) (upTo : Int) (snap : ByteArray) (w : World)   (R : Int → World → Prop) : Prop :=
  Bm (decide (((snap.size : Nat) : Int) > (128 : Int))) (
    R (5 : Int) w) (
    Pn l fun a =>
    LdP a w fun x16 =>
    Pn x16 fun a_1 =>
    LdI .i64 (a_1.add 2) w fun x19 =>
    Bm (decide (upTo ≤ x19)) (
      R (7 : Int) w) (
      rlogm_Log_Last.Call l w fun r23 w1 =>
      Bm (decide (upTo > r23)) (
        R (2 : Int) w1) (
        rlogm_Log_TermAt.Call l upTo w1 fun r28_0 r28_1 w2 =>
        rlogm_Log_rebase.Call l upTo r28_0 snap w2 fun w3 =>
        R (0 : Int) w3)))
theorem rlogm_Log_Compact.B0_eq (l : Option Addr) (upTo : Int) (snap : ByteArray) (w : World)   (R : Int → World → Prop)  :
    (
  Bm (decide (((snap.size : Nat) : Int) > (128 : Int))) (
    R (5 : Int) w) (
    Pn l fun a =>
    LdP a w fun x16 =>
    Pn x16 fun a_1 =>
    LdI .i64 (a_1.add 2) w fun x19 =>
    Bm (decide (upTo ≤ x19)) (
      R (7 : Int) w) (
      rlogm_Log_Last.Call l w fun r23 w1 =>
      Bm (decide (upTo > r23)) (
        R (2 : Int) w1) (
        rlogm_Log_TermAt.Call l upTo w1 fun r28_0 r28_1 w2 =>
        rlogm_Log_rebase.Call l upTo r28_0 snap w2 fun w3 =>
        R (0 : Int) w3)))) = kstep Tryz.prog 36 Tryz.f241.results.toList (Tryz.f241.body.getD .skip) (rlogm_Log_Compact.RV R) (kvc Tryz.prog 36 Tryz.f241.results.toList (Tryz.f241.body.getD .skip) (rlogm_Log_Compact.RV R) [] 2000) [(0, [])] [(0, .pointer l), (1, .int .i64 upTo), (2, .string snap)] w := by kernel_rfl
theorem rlogm_Log_Compact.B0_sound {R : Int → World → Prop}  (l : Option Addr) (upTo : Int) (snap : ByteArray) (w : World) (h : rlogm_Log_Compact.B0 l upTo snap w   R) :
    KW Tryz.prog 241 36 (rlogm_Log_Compact.RV R) ([(0, [])].map (toItem (Tryz.f241.body.getD .skip))) [(0, .pointer l), (1, .int .i64 upTo), (2, .string snap)] w := by
  exact block_spec Tryz.func241 Tryz.mixed stops_nil (Eq.mp (rlogm_Log_Compact.B0_eq l upTo snap w   R ) h)
theorem rlogm_Log_Compact.sound (l : Option Addr) (upTo : Int) (snap : ByteArray) (w : World) (R : Int → World → Prop) (h : rlogm_Log_Compact.B0 l upTo snap w R) : rlogm_Log_Compact.Call l upTo snap w R := by
  have hc := calls_of_block (args := #[.pointer l, .int .i64 upTo, .string snap]) Tryz.func241 (body := (Tryz.f241.body.getD .skip)) (by kernel_rfl) (by kernel_rfl) (args_slot _) (rlogm_Log_Compact.B0_sound l upTo snap w h)
  exact hc.mono fun e w' he => by
    obtain ⟨v, rfl, hv⟩ := he
    exact rlogm_Log_Compact.RV_elim hv
def kvm_KV_run.L1b (k : Option Addr) (t4 : Nat) (old : ByteArray) (j : Int) (w : World)  (N1 : Option Addr → Nat → ByteArray → Int → World → Prop) (R : Int → ByteArray → World → Prop) : Prop :=
  Pn k fun a =>
  LdI .i64 a w fun x45 =>
  Bm (decide ((IntKind.i64.wrap (j + (1 : Int))) < x45)) (
    Pn k fun a_1 =>
    (0 ≤ (IntKind.i64.wrap (j + (1 : Int))) ∧ (IntKind.i64.wrap (j + (1 : Int))) < ((4 : Nat) : Int)) ∧
    LdS (Addr.add (a_1.add 1) ((IntKind.i64.wrap (j + (1 : Int))).toNat * 1)) w.drew fun x59 =>
    Pn k fun a_2 =>
    (0 ≤ (IntKind.i64.wrap (j + (1 : Int))) ∧ (IntKind.i64.wrap (j + (1 : Int))) < ((4 : Nat) : Int)) ∧
    LdS (Addr.add (a_2.add 5) ((IntKind.i64.wrap (j + (1 : Int))).toNat * 1)) w.drew fun x66 =>
    Pn k fun a_3 =>
    (0 ≤ j ∧ j < ((4 : Nat) : Int)) ∧
    Pn k fun a_4 =>
    Sts [.string x59] (Addr.add (a_3.add 1) (j.toNat * 1)) 0 w.drew fun w1 =>
    (0 ≤ j ∧ j < ((4 : Nat) : Int)) ∧
    Sts [.string x66] (Addr.add (a_4.add 5) (j.toNat * 1)) 0 w1 fun w2 =>
    N1 k t4 old (IntKind.i64.wrap (j + (1 : Int))) w2) (
    Pn k fun a_5 =>
    LdI .i64 a_5 w fun x76 =>
    Pn k fun a_6 =>
    Sts [.int .i64 (IntKind.i64.wrap (x76 - (1 : Int)))] a_6 0 w fun w3 =>
    Pn k fun a_7 =>
    LdI .i64 a_7 w3.drew fun x84 =>
    Pn k fun a_8 =>
    LdI .i64 a_8 w3.drew fun x89 =>
    Pn k fun a_9 =>
    (0 ≤ x84 ∧ x84 < ((4 : Nat) : Int)) ∧
    Pn k fun a_10 =>
    Sts [.string (ByteArray.mk #[])] (Addr.add (a_9.add 1) (x84.toNat * 1)) 0 w3.drew fun w4 =>
    (0 ≤ x89 ∧ x89 < ((4 : Nat) : Int)) ∧
    Sts [.string (ByteArray.mk #[])] (Addr.add (a_10.add 5) (x89.toNat * 1)) 0 w4 fun w5 =>
    Sts [.int .i64 (0 : Int), .string old] ⟨t4, 0, none⟩ 0 w5 fun w6 =>
    LdI .i64 ⟨t4, 0, none⟩ w6 fun r_0 =>
    LdS ⟨t4, 1, none⟩ w6 fun r_1 =>
    R r_0 r_1 w6)
theorem kvm_KV_run.L1b_eq (k : Option Addr) (t4 : Nat) (old : ByteArray) (j : Int) (w : World)  (N1 : Option Addr → Nat → ByteArray → Int → World → Prop) (R : Int → ByteArray → World → Prop)  :
    (
  Pn k fun a =>
  LdI .i64 a w fun x45 =>
  Bm (decide ((IntKind.i64.wrap (j + (1 : Int))) < x45)) (
    Pn k fun a_1 =>
    (0 ≤ (IntKind.i64.wrap (j + (1 : Int))) ∧ (IntKind.i64.wrap (j + (1 : Int))) < ((4 : Nat) : Int)) ∧
    LdS (Addr.add (a_1.add 1) ((IntKind.i64.wrap (j + (1 : Int))).toNat * 1)) w.drew fun x59 =>
    Pn k fun a_2 =>
    (0 ≤ (IntKind.i64.wrap (j + (1 : Int))) ∧ (IntKind.i64.wrap (j + (1 : Int))) < ((4 : Nat) : Int)) ∧
    LdS (Addr.add (a_2.add 5) ((IntKind.i64.wrap (j + (1 : Int))).toNat * 1)) w.drew fun x66 =>
    Pn k fun a_3 =>
    (0 ≤ j ∧ j < ((4 : Nat) : Int)) ∧
    Pn k fun a_4 =>
    Sts [.string x59] (Addr.add (a_3.add 1) (j.toNat * 1)) 0 w.drew fun w1 =>
    (0 ≤ j ∧ j < ((4 : Nat) : Int)) ∧
    Sts [.string x66] (Addr.add (a_4.add 5) (j.toNat * 1)) 0 w1 fun w2 =>
    N1 k t4 old (IntKind.i64.wrap (j + (1 : Int))) w2) (
    Pn k fun a_5 =>
    LdI .i64 a_5 w fun x76 =>
    Pn k fun a_6 =>
    Sts [.int .i64 (IntKind.i64.wrap (x76 - (1 : Int)))] a_6 0 w fun w3 =>
    Pn k fun a_7 =>
    LdI .i64 a_7 w3.drew fun x84 =>
    Pn k fun a_8 =>
    LdI .i64 a_8 w3.drew fun x89 =>
    Pn k fun a_9 =>
    (0 ≤ x84 ∧ x84 < ((4 : Nat) : Int)) ∧
    Pn k fun a_10 =>
    Sts [.string (ByteArray.mk #[])] (Addr.add (a_9.add 1) (x84.toNat * 1)) 0 w3.drew fun w4 =>
    (0 ≤ x89 ∧ x89 < ((4 : Nat) : Int)) ∧
    Sts [.string (ByteArray.mk #[])] (Addr.add (a_10.add 5) (x89.toNat * 1)) 0 w4 fun w5 =>
    Sts [.int .i64 (0 : Int), .string old] ⟨t4, 0, none⟩ 0 w5 fun w6 =>
    LdI .i64 ⟨t4, 0, none⟩ w6 fun r_0 =>
    LdS ⟨t4, 1, none⟩ w6 fun r_1 =>
    R r_0 r_1 w6)) = kstep Tryz.prog 112 Tryz.f242.results.toList (Tryz.f242.body.getD .skip) (kvm_KV_run.RV R) (kvc Tryz.prog 112 Tryz.f242.results.toList (Tryz.f242.body.getD .skip) (kvm_KV_run.RV R) [([(0, [1, 1, 1, 1, 1, 1, 0, 1, 0, 0, 1, 0, 0]), (2, [1, 1, 1, 1, 1, 1, 0, 1, 0, 0, 1, 0, 0]), (1, [0]), (0, [1, 1, 1, 1, 1, 1, 0, 1, 0, 1]), (0, [1, 1, 1, 1, 1, 1, 1])], fun σ w => dP (slotOf σ 0) fun k_ => dK (slotOf σ 4) fun t4_ => dS (slotOf σ 6) fun old_ => dI .i64 (slotOf σ 7) fun j_ => N1 k_ t4_ old_ j_ w)] 2000) [(0, [1, 1, 1, 1, 1, 1, 0, 1, 0, 0, 1, 0, 0]), (2, [1, 1, 1, 1, 1, 1, 0, 1, 0, 0, 1, 0, 0]), (1, [0]), (0, [1, 1, 1, 1, 1, 1, 0, 1, 0, 1]), (0, [1, 1, 1, 1, 1, 1, 1])] [(0, .pointer k), (4, .pointer (some ⟨t4, 0, none⟩)), (6, .string old), (7, .int .i64 j)] w := by kernel_rfl
theorem kvm_KV_run.L1b_sound {R : Int → ByteArray → World → Prop} {N1 : Option Addr → Nat → ByteArray → Int → World → Prop} (hN1 : ∀ k t4 old j w, N1 k t4 old j w → KW Tryz.prog 242 112 (kvm_KV_run.RV R) ([(0, [1, 1, 1, 1, 1, 1, 0, 1, 0, 0, 1, 0, 0]), (2, [1, 1, 1, 1, 1, 1, 0, 1, 0, 0, 1, 0, 0]), (1, [0]), (0, [1, 1, 1, 1, 1, 1, 0, 1, 0, 1]), (0, [1, 1, 1, 1, 1, 1, 1])].map (toItem (Tryz.f242.body.getD .skip))) [(0, .pointer k), (4, .pointer (some ⟨t4, 0, none⟩)), (6, .string old), (7, .int .i64 j)] w) (k : Option Addr) (t4 : Nat) (old : ByteArray) (j : Int) (w : World) (h : kvm_KV_run.L1b k t4 old j w  N1 R) :
    KW Tryz.prog 242 112 (kvm_KV_run.RV R) ([(0, [1, 1, 1, 1, 1, 1, 0, 1, 0, 0, 1, 0, 0]), (2, [1, 1, 1, 1, 1, 1, 0, 1, 0, 0, 1, 0, 0]), (1, [0]), (0, [1, 1, 1, 1, 1, 1, 0, 1, 0, 1]), (0, [1, 1, 1, 1, 1, 1, 1])].map (toItem (Tryz.f242.body.getD .skip))) [(0, .pointer k), (4, .pointer (some ⟨t4, 0, none⟩)), (6, .string old), (7, .int .i64 j)] w := by
  exact block_spec Tryz.func242 Tryz.mixed (stops_cons (fun σ w h => by
      obtain ⟨k_, e0, h⟩ := dP_elim h
      obtain ⟨t4_, e1, h⟩ := dK_elim h
      obtain ⟨old_, e2, h⟩ := dS_elim h
      obtain ⟨j_, e3, h⟩ := dI_elim h
      exact (hN1 k_ t4_ old_ j_ w h).weaken (Sub.cons (Sub.cons (Sub.cons (Sub.cons (Sub.nil _) e3) e2) e1) e0)) stops_nil) (Eq.mp (kvm_KV_run.L1b_eq k t4 old j w  N1 R ) h)
def kvm_KV_run.L1 (k : Option Addr) (t4 : Nat) (old : ByteArray) (j : Int) (w : World)  (R : Int → ByteArray → World → Prop) : Prop :=
  ∃ (I : Nat → Option Addr → Nat → ByteArray → Int → World → Prop) (m : Nat), I m k t4 old j w ∧ ∀ m k t4 old j w, I m k t4 old j w → kvm_KV_run.L1b k t4 old j w  (fun k' t4' old' j' w' => ∃ m', m' < m ∧ I m' k' t4' old' j' w') R
theorem kvm_KV_run.L1_sound {R : Int → ByteArray → World → Prop}  (k : Option Addr) (t4 : Nat) (old : ByteArray) (j : Int) (w : World) (h : kvm_KV_run.L1 k t4 old j w  R) :
    KW Tryz.prog 242 112 (kvm_KV_run.RV R) ([(0, [1, 1, 1, 1, 1, 1, 0, 1, 0, 0, 1, 0, 0]), (2, [1, 1, 1, 1, 1, 1, 0, 1, 0, 0, 1, 0, 0]), (1, [0]), (0, [1, 1, 1, 1, 1, 1, 0, 1, 0, 1]), (0, [1, 1, 1, 1, 1, 1, 1])].map (toItem (Tryz.f242.body.getD .skip))) [(0, .pointer k), (4, .pointer (some ⟨t4, 0, none⟩)), (6, .string old), (7, .int .i64 j)] w := by
  obtain ⟨I, m, hBase, hr⟩ := h
  refine KW.loop (fun m σ w => ∃ (k : Option Addr) (t4 : Nat) (old : ByteArray) (j : Int), σ = [(0, .pointer k), (4, .pointer (some ⟨t4, 0, none⟩)), (6, .string old), (7, .int .i64 j)] ∧ I m k t4 old j w) ?_ m _ w ⟨k, t4, old, j, rfl, hBase⟩
  rintro m ih σ w ⟨k, t4, old, j, rfl, hI⟩
  exact kvm_KV_run.L1b_sound  (N1 := fun k' t4' old' j' w' => ∃ m', m' < m ∧ I m' k' t4' old' j' w') (fun k' t4' old' j' w' hx => by obtain ⟨m', hlt, hI'⟩ := hx; exact ih m' hlt _ w' ⟨k', t4', old', j', rfl, hI'⟩) k t4 old j w (hr m k t4 old j w hI)
def kvm_KV_run.B0 (k : Option Addr) (c_0 c_1 c_2 : Int) (c_3 c_4 c_5 : ByteArray) (w : World)   (R : Int → ByteArray → World → Prop) : Prop :=
  New (.cells #[.int .i64 c_0, .int .i64 c_1, .int .i64 c_2, .string c_3, .string c_4, .string c_5] 87) w fun c_ w1 =>
  New (.cells #[.int .i64 (0 : Int), .string (ByteArray.mk #[])] 93) w1 fun b4 w2 =>
  LdS ⟨c_, 3, none⟩ w2 fun x10 =>
  kvm_KV_find.Call k x10 w2 fun r11 w3 =>
  LdI .i64 ⟨c_, 0, none⟩ w3 fun x13 =>
  Bm (x13 == (1 : Int)) (
    LdS ⟨c_, 3, none⟩ w3 fun x17 =>
    LdS ⟨c_, 4, none⟩ w3 fun x19 =>
    kvm_KV_put.Call k x17 x19 w3 fun r20 w4 =>
    Sts [.int .i64 r20, .string (ByteArray.mk #[])] ⟨b4, 0, none⟩ 0 w4 fun w5 =>
    LdI .i64 ⟨b4, 0, none⟩ w5 fun r_0 =>
    LdS ⟨b4, 1, none⟩ w5 fun r_1 =>
    R r_0 r_1 w5) (
    Bm (decide (r11 < (0 : Int))) (
      Sts [.int .i64 (2 : Int), .string (ByteArray.mk #[])] ⟨b4, 0, none⟩ 0 w3 fun w6 =>
      LdI .i64 ⟨b4, 0, none⟩ w6 fun r_0_1 =>
      LdS ⟨b4, 1, none⟩ w6 fun r_1_1 =>
      R r_0_1 r_1_1 w6) (
      Pn k fun a =>
      (0 ≤ r11 ∧ r11 < ((4 : Nat) : Int)) ∧
      LdS (Addr.add (a.add 5) (r11.toNat * 1)) w3 fun x30 =>
      LdI .i64 ⟨c_, 0, none⟩ w3 fun x32 =>
      Bm (x32 == (2 : Int)) (
        Sts [.int .i64 (0 : Int), .string x30] ⟨b4, 0, none⟩ 0 w3 fun w7 =>
        LdI .i64 ⟨b4, 0, none⟩ w7 fun r_0_2 =>
        LdS ⟨b4, 1, none⟩ w7 fun r_1_2 =>
        R r_0_2 r_1_2 w7) (
        LdI .i64 ⟨c_, 0, none⟩ w3 fun x37 =>
        Bm (x37 == (3 : Int)) (
          kvm_KV_run.L1 k b4 x30 r11 w3  R) (
          LdS ⟨c_, 5, none⟩ w3 fun x100 =>
          Bm (!(x30.toList == x100.toList)) (
            Sts [.int .i64 (11 : Int), .string x30] ⟨b4, 0, none⟩ 0 w3 fun w8 =>
            LdI .i64 ⟨b4, 0, none⟩ w8 fun r_0_3 =>
            LdS ⟨b4, 1, none⟩ w8 fun r_1_3 =>
            R r_0_3 r_1_3 w8) (
            LdS ⟨c_, 4, none⟩ w3.drew fun x107 =>
            Pn k fun a_1 =>
            (0 ≤ r11 ∧ r11 < ((4 : Nat) : Int)) ∧
            Sts [.string x107] (Addr.add (a_1.add 5) (r11.toNat * 1)) 0 w3.drew fun w9 =>
            Sts [.int .i64 (0 : Int), .string (ByteArray.mk #[])] ⟨b4, 0, none⟩ 0 w9 fun w10 =>
            LdI .i64 ⟨b4, 0, none⟩ w10 fun r_0_4 =>
            LdS ⟨b4, 1, none⟩ w10 fun r_1_4 =>
            R r_0_4 r_1_4 w10)))))
theorem kvm_KV_run.B0_eq (k : Option Addr) (c_0 c_1 c_2 : Int) (c_3 c_4 c_5 : ByteArray) (w : World)   (R : Int → ByteArray → World → Prop) (sL1 : Option Addr → Nat → ByteArray → Int → World → Prop) :
    (
  New (.cells #[.int .i64 c_0, .int .i64 c_1, .int .i64 c_2, .string c_3, .string c_4, .string c_5] 87) w fun c_ w1 =>
  New (.cells #[.int .i64 (0 : Int), .string (ByteArray.mk #[])] 93) w1 fun b4 w2 =>
  LdS ⟨c_, 3, none⟩ w2 fun x10 =>
  kvm_KV_find.Call k x10 w2 fun r11 w3 =>
  LdI .i64 ⟨c_, 0, none⟩ w3 fun x13 =>
  Bm (x13 == (1 : Int)) (
    LdS ⟨c_, 3, none⟩ w3 fun x17 =>
    LdS ⟨c_, 4, none⟩ w3 fun x19 =>
    kvm_KV_put.Call k x17 x19 w3 fun r20 w4 =>
    Sts [.int .i64 r20, .string (ByteArray.mk #[])] ⟨b4, 0, none⟩ 0 w4 fun w5 =>
    LdI .i64 ⟨b4, 0, none⟩ w5 fun r_0 =>
    LdS ⟨b4, 1, none⟩ w5 fun r_1 =>
    R r_0 r_1 w5) (
    Bm (decide (r11 < (0 : Int))) (
      Sts [.int .i64 (2 : Int), .string (ByteArray.mk #[])] ⟨b4, 0, none⟩ 0 w3 fun w6 =>
      LdI .i64 ⟨b4, 0, none⟩ w6 fun r_0_1 =>
      LdS ⟨b4, 1, none⟩ w6 fun r_1_1 =>
      R r_0_1 r_1_1 w6) (
      Pn k fun a =>
      (0 ≤ r11 ∧ r11 < ((4 : Nat) : Int)) ∧
      LdS (Addr.add (a.add 5) (r11.toNat * 1)) w3 fun x30 =>
      LdI .i64 ⟨c_, 0, none⟩ w3 fun x32 =>
      Bm (x32 == (2 : Int)) (
        Sts [.int .i64 (0 : Int), .string x30] ⟨b4, 0, none⟩ 0 w3 fun w7 =>
        LdI .i64 ⟨b4, 0, none⟩ w7 fun r_0_2 =>
        LdS ⟨b4, 1, none⟩ w7 fun r_1_2 =>
        R r_0_2 r_1_2 w7) (
        LdI .i64 ⟨c_, 0, none⟩ w3 fun x37 =>
        Bm (x37 == (3 : Int)) (
          sL1 k b4 x30 r11 w3) (
          LdS ⟨c_, 5, none⟩ w3 fun x100 =>
          Bm (!(x30.toList == x100.toList)) (
            Sts [.int .i64 (11 : Int), .string x30] ⟨b4, 0, none⟩ 0 w3 fun w8 =>
            LdI .i64 ⟨b4, 0, none⟩ w8 fun r_0_3 =>
            LdS ⟨b4, 1, none⟩ w8 fun r_1_3 =>
            R r_0_3 r_1_3 w8) (
            LdS ⟨c_, 4, none⟩ w3.drew fun x107 =>
            Pn k fun a_1 =>
            (0 ≤ r11 ∧ r11 < ((4 : Nat) : Int)) ∧
            Sts [.string x107] (Addr.add (a_1.add 5) (r11.toNat * 1)) 0 w3.drew fun w9 =>
            Sts [.int .i64 (0 : Int), .string (ByteArray.mk #[])] ⟨b4, 0, none⟩ 0 w9 fun w10 =>
            LdI .i64 ⟨b4, 0, none⟩ w10 fun r_0_4 =>
            LdS ⟨b4, 1, none⟩ w10 fun r_1_4 =>
            R r_0_4 r_1_4 w10)))))) = kstep Tryz.prog 112 Tryz.f242.results.toList (Tryz.f242.body.getD .skip) (kvm_KV_run.RV R) (kvc Tryz.prog 112 Tryz.f242.results.toList (Tryz.f242.body.getD .skip) (kvm_KV_run.RV R) [([(0, [1, 1, 1, 1, 1, 1, 0, 1, 0, 0, 1, 0, 0]), (2, [1, 1, 1, 1, 1, 1, 0, 1, 0, 0, 1, 0, 0]), (1, [0]), (0, [1, 1, 1, 1, 1, 1, 0, 1, 0, 1]), (0, [1, 1, 1, 1, 1, 1, 1])], fun σ w => dP (slotOf σ 0) fun k_ => dK (slotOf σ 4) fun t4_ => dS (slotOf σ 6) fun old_ => dI .i64 (slotOf σ 7) fun j_ => sL1 k_ t4_ old_ j_ w)] 2000) [(0, [])] [(0, .pointer k), (1, .agg #[.int .i64 c_0, .int .i64 c_1, .int .i64 c_2, .string c_3, .string c_4, .string c_5])] w := by kernel_rfl
theorem kvm_KV_run.B0_sound {R : Int → ByteArray → World → Prop}  (k : Option Addr) (c_0 c_1 c_2 : Int) (c_3 c_4 c_5 : ByteArray) (w : World) (h : kvm_KV_run.B0 k c_0 c_1 c_2 c_3 c_4 c_5 w   R) :
    KW Tryz.prog 242 112 (kvm_KV_run.RV R) ([(0, [])].map (toItem (Tryz.f242.body.getD .skip))) [(0, .pointer k), (1, .agg #[.int .i64 c_0, .int .i64 c_1, .int .i64 c_2, .string c_3, .string c_4, .string c_5])] w := by
  exact block_spec Tryz.func242 Tryz.mixed (stops_cons (fun σ w h => by
      obtain ⟨k_, e0, h⟩ := dP_elim h
      obtain ⟨t4_, e1, h⟩ := dK_elim h
      obtain ⟨old_, e2, h⟩ := dS_elim h
      obtain ⟨j_, e3, h⟩ := dI_elim h
      exact (kvm_KV_run.L1_sound  k_ t4_ old_ j_ w h).weaken (Sub.cons (Sub.cons (Sub.cons (Sub.cons (Sub.nil _) e3) e2) e1) e0)) stops_nil) (Eq.mp (kvm_KV_run.B0_eq k c_0 c_1 c_2 c_3 c_4 c_5 w   R (fun k_ t4_ old_ j_ w => kvm_KV_run.L1 k_ t4_ old_ j_ w  R)) h)
theorem kvm_KV_run.sound (k : Option Addr) (c_0 c_1 c_2 : Int) (c_3 c_4 c_5 : ByteArray) (w : World) (R : Int → ByteArray → World → Prop) (h : kvm_KV_run.B0 k c_0 c_1 c_2 c_3 c_4 c_5 w R) : kvm_KV_run.Call k c_0 c_1 c_2 c_3 c_4 c_5 w R := by
  have hc := calls_of_block (args := #[.pointer k, .agg #[.int .i64 c_0, .int .i64 c_1, .int .i64 c_2, .string c_3, .string c_4, .string c_5]]) Tryz.func242 (body := (Tryz.f242.body.getD .skip)) (by kernel_rfl) (by kernel_rfl) (args_slot _) (kvm_KV_run.B0_sound k c_0 c_1 c_2 c_3 c_4 c_5 w h)
  exact hc.mono fun e w' he => by
    obtain ⟨v, rfl, hv⟩ := he
    exact kvm_KV_run.RV_elim hv
def electm_Elect_peer.B0 (e : Option Addr) (p : Int) (w : World)   (R : Bool → World → Prop) : Prop :=
  Bm (decide (p ≥ (0 : Int))) (
    Bm (decide (p < (3 : Int))) (
      Pn e fun a =>
      LdI .i64 a w fun x16 =>
      R (p != x16) w) (
      R false w)) (
    R false w)
theorem electm_Elect_peer.B0_eq (e : Option Addr) (p : Int) (w : World)   (R : Bool → World → Prop)  :
    (
  Bm (decide (p ≥ (0 : Int))) (
    Bm (decide (p < (3 : Int))) (
      Pn e fun a =>
      LdI .i64 a w fun x16 =>
      R (p != x16) w) (
      R false w)) (
    R false w)) = kstep Tryz.prog 19 Tryz.f243.results.toList (Tryz.f243.body.getD .skip) (electm_Elect_peer.RV R) (kvc Tryz.prog 19 Tryz.f243.results.toList (Tryz.f243.body.getD .skip) (electm_Elect_peer.RV R) [] 2000) [(0, [])] [(0, .pointer e), (1, .int .i64 p)] w := by kernel_rfl
theorem electm_Elect_peer.B0_sound {R : Bool → World → Prop}  (e : Option Addr) (p : Int) (w : World) (h : electm_Elect_peer.B0 e p w   R) :
    KW Tryz.prog 243 19 (electm_Elect_peer.RV R) ([(0, [])].map (toItem (Tryz.f243.body.getD .skip))) [(0, .pointer e), (1, .int .i64 p)] w := by
  exact block_spec Tryz.func243 Tryz.mixed stops_nil (Eq.mp (electm_Elect_peer.B0_eq e p w   R ) h)
theorem electm_Elect_peer.sound (e : Option Addr) (p : Int) (w : World) (R : Bool → World → Prop) (h : electm_Elect_peer.B0 e p w R) : electm_Elect_peer.Call e p w R := by
  have hc := calls_of_block (args := #[.pointer e, .int .i64 p]) Tryz.func243 (body := (Tryz.f243.body.getD .skip)) (by kernel_rfl) (by kernel_rfl) (args_slot _) (electm_Elect_peer.B0_sound e p w h)
  exact hc.mono fun e w' he => by
    obtain ⟨v, rfl, hv⟩ := he
    exact electm_Elect_peer.RV_elim hv
def rlogm_Log_step.B0 (l : Option Addr) (w : World)   (R : World → Prop) : Prop :=
  Pn l fun a =>
  LdP a w fun x6 =>
  rlogm_state_clone.Call x6 w fun r7 w1 =>
  Pn l fun a_1 =>
  LdL (a_1.add 2) w1 fun x12_b x12_l x12_c =>
  New (.cells #[.pointer r7] 205) w1 fun b14 w2 =>
  Append 205 (.pointer none) 1 8 x12_b x12_l x12_c (some ⟨b14, 0, none⟩) 1 w2 fun b15 c15 w3 =>
  Pn l fun a_2 =>
  Sts [.slice b15 (x12_l + 1) c15] (a_2.add 2) 0 w3 fun w4 =>
  R  w4
theorem rlogm_Log_step.B0_eq (l : Option Addr) (w : World)   (R : World → Prop)  :
    (
  Pn l fun a =>
  LdP a w fun x6 =>
  rlogm_state_clone.Call x6 w fun r7 w1 =>
  Pn l fun a_1 =>
  LdL (a_1.add 2) w1 fun x12_b x12_l x12_c =>
  New (.cells #[.pointer r7] 205) w1 fun b14 w2 =>
  Append 205 (.pointer none) 1 8 x12_b x12_l x12_c (some ⟨b14, 0, none⟩) 1 w2 fun b15 c15 w3 =>
  Pn l fun a_2 =>
  Sts [.slice b15 (x12_l + 1) c15] (a_2.add 2) 0 w3 fun w4 =>
  R  w4) = kstep Tryz.prog 18 Tryz.f244.results.toList (Tryz.f244.body.getD .skip) (rlogm_Log_step.RV R) (kvc Tryz.prog 18 Tryz.f244.results.toList (Tryz.f244.body.getD .skip) (rlogm_Log_step.RV R) [] 2000) [(0, [])] [(0, .pointer l)] w := by kernel_rfl
theorem rlogm_Log_step.B0_sound {R : World → Prop}  (l : Option Addr) (w : World) (h : rlogm_Log_step.B0 l w   R) :
    KW Tryz.prog 244 18 (rlogm_Log_step.RV R) ([(0, [])].map (toItem (Tryz.f244.body.getD .skip))) [(0, .pointer l)] w := by
  exact block_spec Tryz.func244 Tryz.mixed stops_nil (Eq.mp (rlogm_Log_step.B0_eq l w   R ) h)
theorem rlogm_Log_step.sound (l : Option Addr) (w : World) (R : World → Prop) (h : rlogm_Log_step.B0 l w R) : rlogm_Log_step.Call l w R := by
  have hc := calls_of_block (args := #[.pointer l]) Tryz.func244 (body := (Tryz.f244.body.getD .skip)) (by kernel_rfl) (by kernel_rfl) (args_slot _) (rlogm_Log_step.B0_sound l w h)
  exact hc.mono fun e w' he => by
    obtain ⟨v, rfl, hv⟩ := he
    exact rlogm_Log_step.RV_elim hv
def rlogm_Log_TruncateFrom.L1b (l : Option Addr) (i : Int) (w : World)  (N1 : Option Addr → Int → World → Prop) (R : Int → World → Prop) : Prop :=
  rlogm_Log_Last.Call l w fun r15 w1 =>
  Bm (decide (r15 ≥ i)) (
    rlogm_Log_pop.Call l w1 fun w2 =>
    N1 l i w2) (
    R (0 : Int) w1)
theorem rlogm_Log_TruncateFrom.L1b_eq (l : Option Addr) (i : Int) (w : World)  (N1 : Option Addr → Int → World → Prop) (R : Int → World → Prop)  :
    (
  rlogm_Log_Last.Call l w fun r15 w1 =>
  Bm (decide (r15 ≥ i)) (
    rlogm_Log_pop.Call l w1 fun w2 =>
    N1 l i w2) (
    R (0 : Int) w1)) = kstep Tryz.prog 20 Tryz.f245.results.toList (Tryz.f245.body.getD .skip) (rlogm_Log_TruncateFrom.RV R) (kvc Tryz.prog 20 Tryz.f245.results.toList (Tryz.f245.body.getD .skip) (rlogm_Log_TruncateFrom.RV R) [([(0, [1, 1, 0, 0, 0]), (2, [1, 1, 0, 0, 0]), (1, [0]), (0, [1, 1, 1])], fun σ w => dP (slotOf σ 0) fun l_ => dI .i64 (slotOf σ 1) fun i_ => N1 l_ i_ w)] 2000) [(0, [1, 1, 0, 0, 0]), (2, [1, 1, 0, 0, 0]), (1, [0]), (0, [1, 1, 1])] [(0, .pointer l), (1, .int .i64 i)] w := by kernel_rfl
theorem rlogm_Log_TruncateFrom.L1b_sound {R : Int → World → Prop} {N1 : Option Addr → Int → World → Prop} (hN1 : ∀ l i w, N1 l i w → KW Tryz.prog 245 20 (rlogm_Log_TruncateFrom.RV R) ([(0, [1, 1, 0, 0, 0]), (2, [1, 1, 0, 0, 0]), (1, [0]), (0, [1, 1, 1])].map (toItem (Tryz.f245.body.getD .skip))) [(0, .pointer l), (1, .int .i64 i)] w) (l : Option Addr) (i : Int) (w : World) (h : rlogm_Log_TruncateFrom.L1b l i w  N1 R) :
    KW Tryz.prog 245 20 (rlogm_Log_TruncateFrom.RV R) ([(0, [1, 1, 0, 0, 0]), (2, [1, 1, 0, 0, 0]), (1, [0]), (0, [1, 1, 1])].map (toItem (Tryz.f245.body.getD .skip))) [(0, .pointer l), (1, .int .i64 i)] w := by
  exact block_spec Tryz.func245 Tryz.mixed (stops_cons (fun σ w h => by
      obtain ⟨l_, e0, h⟩ := dP_elim h
      obtain ⟨i_, e1, h⟩ := dI_elim h
      exact (hN1 l_ i_ w h).weaken (Sub.cons (Sub.cons (Sub.nil _) e1) e0)) stops_nil) (Eq.mp (rlogm_Log_TruncateFrom.L1b_eq l i w  N1 R ) h)
def rlogm_Log_TruncateFrom.L1 (l : Option Addr) (i : Int) (w : World)  (R : Int → World → Prop) : Prop :=
  ∃ (I : Nat → Option Addr → Int → World → Prop) (m : Nat), I m l i w ∧ ∀ m l i w, I m l i w → rlogm_Log_TruncateFrom.L1b l i w  (fun l' i' w' => ∃ m', m' < m ∧ I m' l' i' w') R
theorem rlogm_Log_TruncateFrom.L1_sound {R : Int → World → Prop}  (l : Option Addr) (i : Int) (w : World) (h : rlogm_Log_TruncateFrom.L1 l i w  R) :
    KW Tryz.prog 245 20 (rlogm_Log_TruncateFrom.RV R) ([(0, [1, 1, 0, 0, 0]), (2, [1, 1, 0, 0, 0]), (1, [0]), (0, [1, 1, 1])].map (toItem (Tryz.f245.body.getD .skip))) [(0, .pointer l), (1, .int .i64 i)] w := by
  obtain ⟨I, m, hBase, hr⟩ := h
  refine KW.loop (fun m σ w => ∃ (l : Option Addr) (i : Int), σ = [(0, .pointer l), (1, .int .i64 i)] ∧ I m l i w) ?_ m _ w ⟨l, i, rfl, hBase⟩
  rintro m ih σ w ⟨l, i, rfl, hI⟩
  exact rlogm_Log_TruncateFrom.L1b_sound  (N1 := fun l' i' w' => ∃ m', m' < m ∧ I m' l' i' w') (fun l' i' w' hx => by obtain ⟨m', hlt, hI'⟩ := hx; exact ih m' hlt _ w' ⟨l', i', rfl, hI'⟩) l i w (hr m l i w hI)
def rlogm_Log_TruncateFrom.B0 (l : Option Addr) (i : Int) (w : World)   (R : Int → World → Prop) : Prop :=
  Pn l fun a =>
  LdP a w fun x9 =>
  Pn x9 fun a_1 =>
  LdI .i64 (a_1.add 2) w fun x12 =>
  Bm (decide (i ≤ x12)) (
    R (7 : Int) w) (
    rlogm_Log_TruncateFrom.L1 l i w  R)
theorem rlogm_Log_TruncateFrom.B0_eq (l : Option Addr) (i : Int) (w : World)   (R : Int → World → Prop) (sL1 : Option Addr → Int → World → Prop) :
    (
  Pn l fun a =>
  LdP a w fun x9 =>
  Pn x9 fun a_1 =>
  LdI .i64 (a_1.add 2) w fun x12 =>
  Bm (decide (i ≤ x12)) (
    R (7 : Int) w) (
    sL1 l i w)) = kstep Tryz.prog 20 Tryz.f245.results.toList (Tryz.f245.body.getD .skip) (rlogm_Log_TruncateFrom.RV R) (kvc Tryz.prog 20 Tryz.f245.results.toList (Tryz.f245.body.getD .skip) (rlogm_Log_TruncateFrom.RV R) [([(0, [1, 1, 0, 0, 0]), (2, [1, 1, 0, 0, 0]), (1, [0]), (0, [1, 1, 1])], fun σ w => dP (slotOf σ 0) fun l_ => dI .i64 (slotOf σ 1) fun i_ => sL1 l_ i_ w)] 2000) [(0, [])] [(0, .pointer l), (1, .int .i64 i)] w := by kernel_rfl
theorem rlogm_Log_TruncateFrom.B0_sound {R : Int → World → Prop}  (l : Option Addr) (i : Int) (w : World) (h : rlogm_Log_TruncateFrom.B0 l i w   R) :
    KW Tryz.prog 245 20 (rlogm_Log_TruncateFrom.RV R) ([(0, [])].map (toItem (Tryz.f245.body.getD .skip))) [(0, .pointer l), (1, .int .i64 i)] w := by
  exact block_spec Tryz.func245 Tryz.mixed (stops_cons (fun σ w h => by
      obtain ⟨l_, e0, h⟩ := dP_elim h
      obtain ⟨i_, e1, h⟩ := dI_elim h
      exact (rlogm_Log_TruncateFrom.L1_sound  l_ i_ w h).weaken (Sub.cons (Sub.cons (Sub.nil _) e1) e0)) stops_nil) (Eq.mp (rlogm_Log_TruncateFrom.B0_eq l i w   R (fun l_ i_ w => rlogm_Log_TruncateFrom.L1 l_ i_ w  R)) h)
theorem rlogm_Log_TruncateFrom.sound (l : Option Addr) (i : Int) (w : World) (R : Int → World → Prop) (h : rlogm_Log_TruncateFrom.B0 l i w R) : rlogm_Log_TruncateFrom.Call l i w R := by
  have hc := calls_of_block (args := #[.pointer l, .int .i64 i]) Tryz.func245 (body := (Tryz.f245.body.getD .skip)) (by kernel_rfl) (by kernel_rfl) (args_slot _) (rlogm_Log_TruncateFrom.B0_sound l i w h)
  exact hc.mono fun e w' he => by
    obtain ⟨v, rfl, hv⟩ := he
    exact rlogm_Log_TruncateFrom.RV_elim hv
def rlogm_Log_rebase.L1b (l : Option Addr) (idx term : Int) (snap : ByteArray) (k : Int) (e : Nat) (j : Int) (w : World)  (N1 : Option Addr → Int → Int → ByteArray → Int → Nat → Int → World → Prop) (R : World → Prop) : Prop :=
  Pn l fun a =>
  LdP a w fun x25 =>
  Pn x25 fun a_1 =>
  LdI .i64 (a_1.add 5) w fun x28 =>
  Bm (decide (j < x28)) (
    Pn l fun a_2 =>
    LdP a_2 w fun x38 =>
    Pn x38 fun a_3 =>
    (0 ≤ j ∧ j < ((6 : Nat) : Int)) ∧
    LdI .i64 (Addr.add (a_3.add 6) (j.toNat * 2)) w fun x43_0 =>
    LdS ((Addr.add (a_3.add 6) (j.toNat * 2)).add 1) w fun x43_1 =>
    (0 ≤ (IntKind.i64.wrap (j - k)) ∧ (IntKind.i64.wrap (j - k)) < ((6 : Nat) : Int)) ∧
    Sts [.int .i64 x43_0, .string x43_1] (Addr.add ⟨e, 0, none⟩ ((IntKind.i64.wrap (j - k)).toNat * 2)) 0 w fun w1 =>
    N1 l idx term snap k e (IntKind.i64.wrap (j + (1 : Int))) w1) (
    Pn l fun a_4 =>
    LdP a_4 w.drew fun x48 =>
    Pn l fun a_5 =>
    LdP a_5 w.drew fun x52 =>
    LdI .i64 ⟨e, 0, none⟩ w.drew fun x53_0 =>
    LdS ⟨e, 1, none⟩ w.drew fun x53_1 =>
    LdI .i64 ⟨e, 2, none⟩ w.drew fun x53_2 =>
    LdS ⟨e, 3, none⟩ w.drew fun x53_3 =>
    LdI .i64 ⟨e, 4, none⟩ w.drew fun x53_4 =>
    LdS ⟨e, 5, none⟩ w.drew fun x53_5 =>
    LdI .i64 ⟨e, 6, none⟩ w.drew fun x53_6 =>
    LdS ⟨e, 7, none⟩ w.drew fun x53_7 =>
    LdI .i64 ⟨e, 8, none⟩ w.drew fun x53_8 =>
    LdS ⟨e, 9, none⟩ w.drew fun x53_9 =>
    LdI .i64 ⟨e, 10, none⟩ w.drew fun x53_10 =>
    LdS ⟨e, 11, none⟩ w.drew fun x53_11 =>
    Pn l fun a_6 =>
    LdP a_6 w.drew fun x57 =>
    Pn x57 fun a_7 =>
    LdI .i64 (a_7.add 5) w.drew fun x60 =>
    Pn x48 fun a_8 =>
    Sts [.int .i64 x53_0, .string x53_1, .int .i64 x53_2, .string x53_3, .int .i64 x53_4, .string x53_5, .int .i64 x53_6, .string x53_7, .int .i64 x53_8, .string x53_9, .int .i64 x53_10, .string x53_11] (a_8.add 6) 0 w.drew fun w2 =>
    Pn x52 fun a_9 =>
    Sts [.int .i64 (IntKind.i64.wrap (x60 - k))] (a_9.add 5) 0 w2 fun w3 =>
    Pn l fun a_10 =>
    LdP a_10 w3.drew fun x70 =>
    Pn l fun a_11 =>
    LdP a_11 w3.drew fun x74 =>
    Pn l fun a_12 =>
    LdP a_12 w3.drew fun x78 =>
    Pn x70 fun a_13 =>
    Sts [.int .i64 idx] (a_13.add 2) 0 w3.drew fun w4 =>
    Pn x74 fun a_14 =>
    Sts [.int .i64 term] (a_14.add 3) 0 w4 fun w5 =>
    Pn x78 fun a_15 =>
    Sts [.string snap] (a_15.add 4) 0 w5 fun w6 =>
    rlogm_Log_step.Call l w6 fun w7 =>
    R  w7)
theorem rlogm_Log_rebase.L1b_eq (l : Option Addr) (idx term : Int) (snap : ByteArray) (k : Int) (e : Nat) (j : Int) (w : World)  (N1 : Option Addr → Int → Int → ByteArray → Int → Nat → Int → World → Prop) (R : World → Prop)  :
    (
  Pn l fun a =>
  LdP a w fun x25 =>
  Pn x25 fun a_1 =>
  LdI .i64 (a_1.add 5) w fun x28 =>
  Bm (decide (j < x28)) (
    Pn l fun a_2 =>
    LdP a_2 w fun x38 =>
    Pn x38 fun a_3 =>
    (0 ≤ j ∧ j < ((6 : Nat) : Int)) ∧
    LdI .i64 (Addr.add (a_3.add 6) (j.toNat * 2)) w fun x43_0 =>
    LdS ((Addr.add (a_3.add 6) (j.toNat * 2)).add 1) w fun x43_1 =>
    (0 ≤ (IntKind.i64.wrap (j - k)) ∧ (IntKind.i64.wrap (j - k)) < ((6 : Nat) : Int)) ∧
    Sts [.int .i64 x43_0, .string x43_1] (Addr.add ⟨e, 0, none⟩ ((IntKind.i64.wrap (j - k)).toNat * 2)) 0 w fun w1 =>
    N1 l idx term snap k e (IntKind.i64.wrap (j + (1 : Int))) w1) (
    Pn l fun a_4 =>
    LdP a_4 w.drew fun x48 =>
    Pn l fun a_5 =>
    LdP a_5 w.drew fun x52 =>
    LdI .i64 ⟨e, 0, none⟩ w.drew fun x53_0 =>
    LdS ⟨e, 1, none⟩ w.drew fun x53_1 =>
    LdI .i64 ⟨e, 2, none⟩ w.drew fun x53_2 =>
    LdS ⟨e, 3, none⟩ w.drew fun x53_3 =>
    LdI .i64 ⟨e, 4, none⟩ w.drew fun x53_4 =>
    LdS ⟨e, 5, none⟩ w.drew fun x53_5 =>
    LdI .i64 ⟨e, 6, none⟩ w.drew fun x53_6 =>
    LdS ⟨e, 7, none⟩ w.drew fun x53_7 =>
    LdI .i64 ⟨e, 8, none⟩ w.drew fun x53_8 =>
    LdS ⟨e, 9, none⟩ w.drew fun x53_9 =>
    LdI .i64 ⟨e, 10, none⟩ w.drew fun x53_10 =>
    LdS ⟨e, 11, none⟩ w.drew fun x53_11 =>
    Pn l fun a_6 =>
    LdP a_6 w.drew fun x57 =>
    Pn x57 fun a_7 =>
    LdI .i64 (a_7.add 5) w.drew fun x60 =>
    Pn x48 fun a_8 =>
    Sts [.int .i64 x53_0, .string x53_1, .int .i64 x53_2, .string x53_3, .int .i64 x53_4, .string x53_5, .int .i64 x53_6, .string x53_7, .int .i64 x53_8, .string x53_9, .int .i64 x53_10, .string x53_11] (a_8.add 6) 0 w.drew fun w2 =>
    Pn x52 fun a_9 =>
    Sts [.int .i64 (IntKind.i64.wrap (x60 - k))] (a_9.add 5) 0 w2 fun w3 =>
    Pn l fun a_10 =>
    LdP a_10 w3.drew fun x70 =>
    Pn l fun a_11 =>
    LdP a_11 w3.drew fun x74 =>
    Pn l fun a_12 =>
    LdP a_12 w3.drew fun x78 =>
    Pn x70 fun a_13 =>
    Sts [.int .i64 idx] (a_13.add 2) 0 w3.drew fun w4 =>
    Pn x74 fun a_14 =>
    Sts [.int .i64 term] (a_14.add 3) 0 w4 fun w5 =>
    Pn x78 fun a_15 =>
    Sts [.string snap] (a_15.add 4) 0 w5 fun w6 =>
    rlogm_Log_step.Call l w6 fun w7 =>
    R  w7)) = kstep Tryz.prog 90 Tryz.f246.results.toList (Tryz.f246.body.getD .skip) (rlogm_Log_rebase.RV R) (kvc Tryz.prog 90 Tryz.f246.results.toList (Tryz.f246.body.getD .skip) (rlogm_Log_rebase.RV R) [([(0, [1, 1, 0, 1, 0, 0]), (2, [1, 1, 0, 1, 0, 0]), (1, [0]), (0, [1, 1, 1])], fun σ w => dP (slotOf σ 0) fun l_ => dI .i64 (slotOf σ 1) fun idx_ => dI .i64 (slotOf σ 2) fun term_ => dS (slotOf σ 3) fun snap_ => dI .i64 (slotOf σ 8) fun k_ => dK (slotOf σ 9) fun e_ => dI .i64 (slotOf σ 10) fun j_ => N1 l_ idx_ term_ snap_ k_ e_ j_ w)] 2000) [(0, [1, 1, 0, 1, 0, 0]), (2, [1, 1, 0, 1, 0, 0]), (1, [0]), (0, [1, 1, 1])] [(0, .pointer l), (1, .int .i64 idx), (2, .int .i64 term), (3, .string snap), (8, .int .i64 k), (9, .pointer (some ⟨e, 0, none⟩)), (10, .int .i64 j)] w := by kernel_rfl
theorem rlogm_Log_rebase.L1b_sound {R : World → Prop} {N1 : Option Addr → Int → Int → ByteArray → Int → Nat → Int → World → Prop} (hN1 : ∀ l idx term snap k e j w, N1 l idx term snap k e j w → KW Tryz.prog 246 90 (rlogm_Log_rebase.RV R) ([(0, [1, 1, 0, 1, 0, 0]), (2, [1, 1, 0, 1, 0, 0]), (1, [0]), (0, [1, 1, 1])].map (toItem (Tryz.f246.body.getD .skip))) [(0, .pointer l), (1, .int .i64 idx), (2, .int .i64 term), (3, .string snap), (8, .int .i64 k), (9, .pointer (some ⟨e, 0, none⟩)), (10, .int .i64 j)] w) (l : Option Addr) (idx term : Int) (snap : ByteArray) (k : Int) (e : Nat) (j : Int) (w : World) (h : rlogm_Log_rebase.L1b l idx term snap k e j w  N1 R) :
    KW Tryz.prog 246 90 (rlogm_Log_rebase.RV R) ([(0, [1, 1, 0, 1, 0, 0]), (2, [1, 1, 0, 1, 0, 0]), (1, [0]), (0, [1, 1, 1])].map (toItem (Tryz.f246.body.getD .skip))) [(0, .pointer l), (1, .int .i64 idx), (2, .int .i64 term), (3, .string snap), (8, .int .i64 k), (9, .pointer (some ⟨e, 0, none⟩)), (10, .int .i64 j)] w := by
  exact block_spec Tryz.func246 Tryz.mixed (stops_cons (fun σ w h => by
      obtain ⟨l_, e0, h⟩ := dP_elim h
      obtain ⟨idx_, e1, h⟩ := dI_elim h
      obtain ⟨term_, e2, h⟩ := dI_elim h
      obtain ⟨snap_, e3, h⟩ := dS_elim h
      obtain ⟨k_, e4, h⟩ := dI_elim h
      obtain ⟨e_, e5, h⟩ := dK_elim h
      obtain ⟨j_, e6, h⟩ := dI_elim h
      exact (hN1 l_ idx_ term_ snap_ k_ e_ j_ w h).weaken (Sub.cons (Sub.cons (Sub.cons (Sub.cons (Sub.cons (Sub.cons (Sub.cons (Sub.nil _) e6) e5) e4) e3) e2) e1) e0)) stops_nil) (Eq.mp (rlogm_Log_rebase.L1b_eq l idx term snap k e j w  N1 R ) h)
def rlogm_Log_rebase.L1 (l : Option Addr) (idx term : Int) (snap : ByteArray) (k : Int) (e : Nat) (j : Int) (w : World)  (R : World → Prop) : Prop :=
  ∃ (I : Nat → Option Addr → Int → Int → ByteArray → Int → Nat → Int → World → Prop) (m : Nat), I m l idx term snap k e j w ∧ ∀ m l idx term snap k e j w, I m l idx term snap k e j w → rlogm_Log_rebase.L1b l idx term snap k e j w  (fun l' idx' term' snap' k' e' j' w' => ∃ m', m' < m ∧ I m' l' idx' term' snap' k' e' j' w') R
theorem rlogm_Log_rebase.L1_sound {R : World → Prop}  (l : Option Addr) (idx term : Int) (snap : ByteArray) (k : Int) (e : Nat) (j : Int) (w : World) (h : rlogm_Log_rebase.L1 l idx term snap k e j w  R) :
    KW Tryz.prog 246 90 (rlogm_Log_rebase.RV R) ([(0, [1, 1, 0, 1, 0, 0]), (2, [1, 1, 0, 1, 0, 0]), (1, [0]), (0, [1, 1, 1])].map (toItem (Tryz.f246.body.getD .skip))) [(0, .pointer l), (1, .int .i64 idx), (2, .int .i64 term), (3, .string snap), (8, .int .i64 k), (9, .pointer (some ⟨e, 0, none⟩)), (10, .int .i64 j)] w := by
  obtain ⟨I, m, hBase, hr⟩ := h
  refine KW.loop (fun m σ w => ∃ (l : Option Addr) (idx term : Int) (snap : ByteArray) (k : Int) (e : Nat) (j : Int), σ = [(0, .pointer l), (1, .int .i64 idx), (2, .int .i64 term), (3, .string snap), (8, .int .i64 k), (9, .pointer (some ⟨e, 0, none⟩)), (10, .int .i64 j)] ∧ I m l idx term snap k e j w) ?_ m _ w ⟨l, idx, term, snap, k, e, j, rfl, hBase⟩
  rintro m ih σ w ⟨l, idx, term, snap, k, e, j, rfl, hI⟩
  exact rlogm_Log_rebase.L1b_sound  (N1 := fun l' idx' term' snap' k' e' j' w' => ∃ m', m' < m ∧ I m' l' idx' term' snap' k' e' j' w') (fun l' idx' term' snap' k' e' j' w' hx => by obtain ⟨m', hlt, hI'⟩ := hx; exact ih m' hlt _ w' ⟨l', idx', term', snap', k', e', j', rfl, hI'⟩) l idx term snap k e j w (hr m l idx term snap k e j w hI)
def rlogm_Log_rebase.B0 (l : Option Addr) (idx term : Int) (snap : ByteArray) (w : World)   (R : World → Prop) : Prop :=
  Pn l fun a =>
  LdP a w fun x15 =>
  Pn x15 fun a_1 =>
  LdI .i64 (a_1.add 2) w fun x18 =>
  New (.cells #[.int .i64 (0 : Int), .string (ByteArray.mk #[]), .int .i64 (0 : Int), .string (ByteArray.mk #[]), .int .i64 (0 : Int), .string (ByteArray.mk #[]), .int .i64 (0 : Int), .string (ByteArray.mk #[]), .int .i64 (0 : Int), .string (ByteArray.mk #[]), .int .i64 (0 : Int), .string (ByteArray.mk #[])] 206) w fun e_ w1 =>
  rlogm_Log_rebase.L1 l idx term snap (IntKind.i64.wrap (idx - x18)) e_ (IntKind.i64.wrap (idx - x18)) w1  R
theorem rlogm_Log_rebase.B0_eq (l : Option Addr) (idx term : Int) (snap : ByteArray) (w : World)   (R : World → Prop) (sL1 : Option Addr → Int → Int → ByteArray → Int → Nat → Int → World → Prop) :
    (
  Pn l fun a =>
  LdP a w fun x15 =>
  Pn x15 fun a_1 =>
  LdI .i64 (a_1.add 2) w fun x18 =>
  New (.cells #[.int .i64 (0 : Int), .string (ByteArray.mk #[]), .int .i64 (0 : Int), .string (ByteArray.mk #[]), .int .i64 (0 : Int), .string (ByteArray.mk #[]), .int .i64 (0 : Int), .string (ByteArray.mk #[]), .int .i64 (0 : Int), .string (ByteArray.mk #[]), .int .i64 (0 : Int), .string (ByteArray.mk #[])] 206) w fun e_ w1 =>
  sL1 l idx term snap (IntKind.i64.wrap (idx - x18)) e_ (IntKind.i64.wrap (idx - x18)) w1) = kstep Tryz.prog 90 Tryz.f246.results.toList (Tryz.f246.body.getD .skip) (rlogm_Log_rebase.RV R) (kvc Tryz.prog 90 Tryz.f246.results.toList (Tryz.f246.body.getD .skip) (rlogm_Log_rebase.RV R) [([(0, [1, 1, 0, 1, 0, 0]), (2, [1, 1, 0, 1, 0, 0]), (1, [0]), (0, [1, 1, 1])], fun σ w => dP (slotOf σ 0) fun l_ => dI .i64 (slotOf σ 1) fun idx_ => dI .i64 (slotOf σ 2) fun term_ => dS (slotOf σ 3) fun snap_ => dI .i64 (slotOf σ 8) fun k_ => dK (slotOf σ 9) fun e_ => dI .i64 (slotOf σ 10) fun j_ => sL1 l_ idx_ term_ snap_ k_ e_ j_ w)] 2000) [(0, [])] [(0, .pointer l), (1, .int .i64 idx), (2, .int .i64 term), (3, .string snap)] w := by kernel_rfl
theorem rlogm_Log_rebase.B0_sound {R : World → Prop}  (l : Option Addr) (idx term : Int) (snap : ByteArray) (w : World) (h : rlogm_Log_rebase.B0 l idx term snap w   R) :
    KW Tryz.prog 246 90 (rlogm_Log_rebase.RV R) ([(0, [])].map (toItem (Tryz.f246.body.getD .skip))) [(0, .pointer l), (1, .int .i64 idx), (2, .int .i64 term), (3, .string snap)] w := by
  exact block_spec Tryz.func246 Tryz.mixed (stops_cons (fun σ w h => by
      obtain ⟨l_, e0, h⟩ := dP_elim h
      obtain ⟨idx_, e1, h⟩ := dI_elim h
      obtain ⟨term_, e2, h⟩ := dI_elim h
      obtain ⟨snap_, e3, h⟩ := dS_elim h
      obtain ⟨k_, e4, h⟩ := dI_elim h
      obtain ⟨e_, e5, h⟩ := dK_elim h
      obtain ⟨j_, e6, h⟩ := dI_elim h
      exact (rlogm_Log_rebase.L1_sound  l_ idx_ term_ snap_ k_ e_ j_ w h).weaken (Sub.cons (Sub.cons (Sub.cons (Sub.cons (Sub.cons (Sub.cons (Sub.cons (Sub.nil _) e6) e5) e4) e3) e2) e1) e0)) stops_nil) (Eq.mp (rlogm_Log_rebase.B0_eq l idx term snap w   R (fun l_ idx_ term_ snap_ k_ e_ j_ w => rlogm_Log_rebase.L1 l_ idx_ term_ snap_ k_ e_ j_ w  R)) h)
theorem rlogm_Log_rebase.sound (l : Option Addr) (idx term : Int) (snap : ByteArray) (w : World) (R : World → Prop) (h : rlogm_Log_rebase.B0 l idx term snap w R) : rlogm_Log_rebase.Call l idx term snap w R := by
  have hc := calls_of_block (args := #[.pointer l, .int .i64 idx, .int .i64 term, .string snap]) Tryz.func246 (body := (Tryz.f246.body.getD .skip)) (by kernel_rfl) (by kernel_rfl) (args_slot _) (rlogm_Log_rebase.B0_sound l idx term snap w h)
  exact hc.mono fun e w' he => by
    obtain ⟨v, rfl, hv⟩ := he
    exact rlogm_Log_rebase.RV_elim hv
end Go.Proofs.Qxb6500430aGreat
