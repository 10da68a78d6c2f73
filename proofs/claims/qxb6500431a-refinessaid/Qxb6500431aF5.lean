import Derived.Test.Qxb6500431aSig
set_option maxRecDepth 100000
set_option linter.unusedVariables false
open Go.Vc
namespace Go.Proofs.Qxb6500431a
def rlog_Log_SetTerm.B1 (l : Option Addr) (term vote : Int) (t21 : Bool) (w : World)   (R : Int → World → Prop) : Prop :=
  Bm t21 (
    R (1 : Int) w) (
    Pn l fun a =>
    LdP a w fun x25 =>
    store_Store_SetMeta.Call x25 term vote w fun r28 w1 =>
    Bm (r28 != (0 : Int)) (
      R r28 w1) (
      Pn l fun a_1 =>
      Sts [.int .i64 term] (a_1.add 1) 0 w1 fun w2 =>
      Pn l fun a_2 =>
      Sts [.int .i64 vote] (a_2.add 2) 0 w2 fun w3 =>
      R (0 : Int) w3))
theorem rlog_Log_SetTerm.B1_eq (l : Option Addr) (term vote : Int) (t21 : Bool) (w : World)   (R : Int → World → Prop)  :
    (
  Bm t21 (
    R (1 : Int) w) (
    Pn l fun a =>
    LdP a w fun x25 =>
    store_Store_SetMeta.Call x25 term vote w fun r28 w1 =>
    Bm (r28 != (0 : Int)) (
      R r28 w1) (
      Pn l fun a_1 =>
      Sts [.int .i64 term] (a_1.add 1) 0 w1 fun w2 =>
      Pn l fun a_2 =>
      Sts [.int .i64 vote] (a_2.add 2) 0 w2 fun w3 =>
      R (0 : Int) w3))) = kstep Try.prog 40 Try.f60.results.toList (Try.f60.body.getD .skip) (rlog_Log_SetTerm.RV R) (kvc Try.prog 40 Try.f60.results.toList (Try.f60.body.getD .skip) (rlog_Log_SetTerm.RV R) [] 2000) [(0, [1, 0, 1]), (0, [1, 1])] [(0, .pointer l), (1, .int .i64 term), (2, .int .i64 vote), (21, .bool t21)] w := by kernel_rfl
theorem rlog_Log_SetTerm.B1_sound {R : Int → World → Prop}  (l : Option Addr) (term vote : Int) (t21 : Bool) (w : World) (h : rlog_Log_SetTerm.B1 l term vote t21 w   R) :
    KW Try.prog 60 40 (rlog_Log_SetTerm.RV R) ([(0, [1, 0, 1]), (0, [1, 1])].map (toItem (Try.f60.body.getD .skip))) [(0, .pointer l), (1, .int .i64 term), (2, .int .i64 vote), (21, .bool t21)] w := by
  exact block_spec Try.func60 Try.mixed stops_nil (Eq.mp (rlog_Log_SetTerm.B1_eq l term vote t21 w   R ) h)
def rlog_Log_SetTerm.B0 (l : Option Addr) (term vote : Int) (w : World)   (R : Int → World → Prop) : Prop :=
  Bm (decide (term < (0 : Int))) (
    rlog_Log_SetTerm.B1 l term vote true w  R) (
    Bm (decide (term > (72057594037927936 : Int))) (
      rlog_Log_SetTerm.B1 l term vote true w  R) (
      Bm (decide (vote < (-1 : Int))) (
        rlog_Log_SetTerm.B1 l term vote true w  R) (
        rlog_Log_SetTerm.B1 l term vote (decide (vote ≥ (3 : Int))) w  R)))
theorem rlog_Log_SetTerm.B0_eq (l : Option Addr) (term vote : Int) (w : World)   (R : Int → World → Prop) (sB1 : Option Addr → Int → Int → Bool → World → Prop) :
    (
  Bm (decide (term < (0 : Int))) (
    sB1 l term vote true w) (
    Bm (decide (term > (72057594037927936 : Int))) (
      sB1 l term vote true w) (
      Bm (decide (vote < (-1 : Int))) (
        sB1 l term vote true w) (
        sB1 l term vote (decide (vote ≥ (3 : Int))) w)))) = kstep Try.prog 40 Try.f60.results.toList (Try.f60.body.getD .skip) (rlog_Log_SetTerm.RV R) (kvc Try.prog 40 Try.f60.results.toList (Try.f60.body.getD .skip) (rlog_Log_SetTerm.RV R) [([(0, [1, 0, 1]), (0, [1, 1])], fun σ w => dP (slotOf σ 0) fun l_ => dI .i64 (slotOf σ 1) fun term_ => dI .i64 (slotOf σ 2) fun vote_ => dB (slotOf σ 21) fun t21_ => sB1 l_ term_ vote_ t21_ w)] 2000) [(0, [])] [(0, .pointer l), (1, .int .i64 term), (2, .int .i64 vote)] w := by kernel_rfl
theorem rlog_Log_SetTerm.B0_sound {R : Int → World → Prop}  (l : Option Addr) (term vote : Int) (w : World) (h : rlog_Log_SetTerm.B0 l term vote w   R) :
    KW Try.prog 60 40 (rlog_Log_SetTerm.RV R) ([(0, [])].map (toItem (Try.f60.body.getD .skip))) [(0, .pointer l), (1, .int .i64 term), (2, .int .i64 vote)] w := by
  exact block_spec Try.func60 Try.mixed (stops_cons (fun σ w h => by
      obtain ⟨l_, e0, h⟩ := dP_elim h
      obtain ⟨term_, e1, h⟩ := dI_elim h
      obtain ⟨vote_, e2, h⟩ := dI_elim h
      obtain ⟨t21_, e3, h⟩ := dB_elim h
      exact (rlog_Log_SetTerm.B1_sound  l_ term_ vote_ t21_ w h).weaken (Sub.cons (Sub.cons (Sub.cons (Sub.cons (Sub.nil _) e3) e2) e1) e0)) stops_nil) (Eq.mp (rlog_Log_SetTerm.B0_eq l term vote w   R (fun l_ term_ vote_ t21_ w => rlog_Log_SetTerm.B1 l_ term_ vote_ t21_ w  R)) h)
theorem rlog_Log_SetTerm.sound (l : Option Addr) (term vote : Int) (w : World) (R : Int → World → Prop) (h : rlog_Log_SetTerm.B0 l term vote w R) : rlog_Log_SetTerm.Call l term vote w R := by
  have hc := calls_of_block (args := #[.pointer l, .int .i64 term, .int .i64 vote]) Try.func60 (body := (Try.f60.body.getD .skip)) (by kernel_rfl) (by kernel_rfl) (args_slot _) (rlog_Log_SetTerm.B0_sound l term vote w h)
  exact hc.mono fun e w' he => by
    obtain ⟨v, rfl, hv⟩ := he
    exact rlog_Log_SetTerm.RV_elim hv
def rlogm_Log_SetTerm.B1 (l : Option Addr) (term vote : Int) (t20 : Bool) (w : World)   (R : Int → World → Prop) : Prop :=
  Bm t20 (
    R (1 : Int) w) (
    Pn l fun a =>
    LdP a w.drew fun x24 =>
    Pn l fun a_1 =>
    LdP a_1 w.drew fun x28 =>
    Pn x24 fun a_2 =>
    Sts [.int .i64 term] a_2 0 w.drew fun w1 =>
    Pn x28 fun a_3 =>
    Sts [.int .i64 vote] (a_3.add 1) 0 w1 fun w2 =>
    rlogm_Log_step.Call l w2 fun w3 =>
    R (0 : Int) w3)
theorem rlogm_Log_SetTerm.B1_eq (l : Option Addr) (term vote : Int) (t20 : Bool) (w : World)   (R : Int → World → Prop)  :
    (
  Bm t20 (
    R (1 : Int) w) (
    Pn l fun a =>
    LdP a w.drew fun x24 =>
    Pn l fun a_1 =>
    LdP a_1 w.drew fun x28 =>
    Pn x24 fun a_2 =>
    Sts [.int .i64 term] a_2 0 w.drew fun w1 =>
    Pn x28 fun a_3 =>
    Sts [.int .i64 vote] (a_3.add 1) 0 w1 fun w2 =>
    rlogm_Log_step.Call l w2 fun w3 =>
    R (0 : Int) w3)) = kstep Try.prog 37 Try.f61.results.toList (Try.f61.body.getD .skip) (rlogm_Log_SetTerm.RV R) (kvc Try.prog 37 Try.f61.results.toList (Try.f61.body.getD .skip) (rlogm_Log_SetTerm.RV R) [] 2000) [(0, [1, 0, 1]), (0, [1, 1])] [(0, .pointer l), (1, .int .i64 term), (2, .int .i64 vote), (20, .bool t20)] w := by kernel_rfl
theorem rlogm_Log_SetTerm.B1_sound {R : Int → World → Prop}  (l : Option Addr) (term vote : Int) (t20 : Bool) (w : World) (h : rlogm_Log_SetTerm.B1 l term vote t20 w   R) :
    KW Try.prog 61 37 (rlogm_Log_SetTerm.RV R) ([(0, [1, 0, 1]), (0, [1, 1])].map (toItem (Try.f61.body.getD .skip))) [(0, .pointer l), (1, .int .i64 term), (2, .int .i64 vote), (20, .bool t20)] w := by
  exact block_spec Try.func61 Try.mixed stops_nil (Eq.mp (rlogm_Log_SetTerm.B1_eq l term vote t20 w   R ) h)
def rlogm_Log_SetTerm.B0 (l : Option Addr) (term vote : Int) (w : World)   (R : Int → World → Prop) : Prop :=
  Bm (decide (term < (0 : Int))) (
    rlogm_Log_SetTerm.B1 l term vote true w  R) (
    Bm (decide (term > (72057594037927936 : Int))) (
      rlogm_Log_SetTerm.B1 l term vote true w  R) (
      Bm (decide (vote < (-1 : Int))) (
        rlogm_Log_SetTerm.B1 l term vote true w  R) (
        rlogm_Log_SetTerm.B1 l term vote (decide (vote ≥ (3 : Int))) w  R)))
theorem rlogm_Log_SetTerm.B0_eq (l : Option Addr) (term vote : Int) (w : World)   (R : Int → World → Prop) (sB1 : Option Addr → Int → Int → Bool → World → Prop) :
    (
  Bm (decide (term < (0 : Int))) (
    sB1 l term vote true w) (
    Bm (decide (term > (72057594037927936 : Int))) (
      sB1 l term vote true w) (
      Bm (decide (vote < (-1 : Int))) (
        sB1 l term vote true w) (
        sB1 l term vote (decide (vote ≥ (3 : Int))) w)))) = kstep Try.prog 37 Try.f61.results.toList (Try.f61.body.getD .skip) (rlogm_Log_SetTerm.RV R) (kvc Try.prog 37 Try.f61.results.toList (Try.f61.body.getD .skip) (rlogm_Log_SetTerm.RV R) [([(0, [1, 0, 1]), (0, [1, 1])], fun σ w => dP (slotOf σ 0) fun l_ => dI .i64 (slotOf σ 1) fun term_ => dI .i64 (slotOf σ 2) fun vote_ => dB (slotOf σ 20) fun t20_ => sB1 l_ term_ vote_ t20_ w)] 2000) [(0, [])] [(0, .pointer l), (1, .int .i64 term), (2, .int .i64 vote)] w := by kernel_rfl
theorem rlogm_Log_SetTerm.B0_sound {R : Int → World → Prop}  (l : Option Addr) (term vote : Int) (w : World) (h : rlogm_Log_SetTerm.B0 l term vote w   R) :
    KW Try.prog 61 37 (rlogm_Log_SetTerm.RV R) ([(0, [])].map (toItem (Try.f61.body.getD .skip))) [(0, .pointer l), (1, .int .i64 term), (2, .int .i64 vote)] w := by
  exact block_spec Try.func61 Try.mixed (stops_cons (fun σ w h => by
      obtain ⟨l_, e0, h⟩ := dP_elim h
      obtain ⟨term_, e1, h⟩ := dI_elim h
      obtain ⟨vote_, e2, h⟩ := dI_elim h
      obtain ⟨t20_, e3, h⟩ := dB_elim h
      exact (rlogm_Log_SetTerm.B1_sound  l_ term_ vote_ t20_ w h).weaken (Sub.cons (Sub.cons (Sub.cons (Sub.cons (Sub.nil _) e3) e2) e1) e0)) stops_nil) (Eq.mp (rlogm_Log_SetTerm.B0_eq l term vote w   R (fun l_ term_ vote_ t20_ w => rlogm_Log_SetTerm.B1 l_ term_ vote_ t20_ w  R)) h)
theorem rlogm_Log_SetTerm.sound (l : Option Addr) (term vote : Int) (w : World) (R : Int → World → Prop) (h : rlogm_Log_SetTerm.B0 l term vote w R) : rlogm_Log_SetTerm.Call l term vote w R := by
  have hc := calls_of_block (args := #[.pointer l, .int .i64 term, .int .i64 vote]) Try.func61 (body := (Try.f61.body.getD .skip)) (by kernel_rfl) (by kernel_rfl) (args_slot _) (rlogm_Log_SetTerm.B0_sound l term vote w h)
  exact hc.mono fun e w' he => by
    obtain ⟨v, rfl, hv⟩ := he
    exact rlogm_Log_SetTerm.RV_elim hv
def rlog_Log_Append.B2 (l : Option Addr) (e : Nat) (t38 : Bool) (w : World)   (R : Int → World → Prop) : Prop :=
  Bm t38 (
    R (6 : Int) w) (
    Pn l fun a =>
    LdI .i64 (a.add 6) w fun x42 =>
    rlog_slotOf.Call (IntKind.i64.wrap (x42 + (1 : Int))) w fun r45 w1 =>
    Pn l fun a_1 =>
    LdP a_1 w1.drew fun x49 =>
    LdI .i64 ⟨e, 0, none⟩ w1.drew fun x53 =>
    LdS ⟨e, 1, none⟩ w1.drew fun x55 =>
    store_Store_PutRec.Call x49 r45 (IntKind.i64.wrap (x42 + (1 : Int))) x53 x55 w1.drew fun r57 w2 =>
    Bm (r57 != (0 : Int)) (
      R r57 w2) (
      LdI .i64 ⟨e, 0, none⟩ w2.drew fun x65 =>
      Pn l fun a_2 =>
      rlog_slotOf.Call (IntKind.i64.wrap (x42 + (1 : Int))) w2.drew fun r63 w3 =>
      w3.cell? ⟨e, 0, none⟩ = some (.int .i64 x65) ∧
      (0 ≤ r63 ∧ r63 < ((6 : Nat) : Int)) ∧
      Sts [.int .i64 x65] (Addr.add (a_2.add 7) (r63.toNat * 1)) 0 w3 fun w4 =>
      LdS ⟨e, 1, none⟩ w4.drew fun x73 =>
      Pn l fun a_3 =>
      rlog_slotOf.Call (IntKind.i64.wrap (x42 + (1 : Int))) w4.drew fun r71 w5 =>
      w5.cell? ⟨e, 1, none⟩ = some (.string x73) ∧
      (0 ≤ r71 ∧ r71 < ((6 : Nat) : Int)) ∧
      Sts [.string x73] (Addr.add (a_3.add 13) (r71.toNat * 1)) 0 w5 fun w6 =>
      Pn l fun a_4 =>
      Sts [.int .i64 (IntKind.i64.wrap (x42 + (1 : Int)))] (a_4.add 6) 0 w6 fun w7 =>
      R (0 : Int) w7))
theorem rlog_Log_Append.B2_eq (l : Option Addr) (e : Nat) (t38 : Bool) (w : World)   (R : Int → World → Prop)  :
    (
  Bm t38 (
    R (6 : Int) w) (
    Pn l fun a =>
    LdI .i64 (a.add 6) w fun x42 =>
    rlog_slotOf.Call (IntKind.i64.wrap (x42 + (1 : Int))) w fun r45 w1 =>
    Pn l fun a_1 =>
    LdP a_1 w1.drew fun x49 =>
    LdI .i64 ⟨e, 0, none⟩ w1.drew fun x53 =>
    LdS ⟨e, 1, none⟩ w1.drew fun x55 =>
    store_Store_PutRec.Call x49 r45 (IntKind.i64.wrap (x42 + (1 : Int))) x53 x55 w1.drew fun r57 w2 =>
    Bm (r57 != (0 : Int)) (
      R r57 w2) (
      LdI .i64 ⟨e, 0, none⟩ w2.drew fun x65 =>
      Pn l fun a_2 =>
      rlog_slotOf.Call (IntKind.i64.wrap (x42 + (1 : Int))) w2.drew fun r63 w3 =>
      w3.cell? ⟨e, 0, none⟩ = some (.int .i64 x65) ∧
      (0 ≤ r63 ∧ r63 < ((6 : Nat) : Int)) ∧
      Sts [.int .i64 x65] (Addr.add (a_2.add 7) (r63.toNat * 1)) 0 w3 fun w4 =>
      LdS ⟨e, 1, none⟩ w4.drew fun x73 =>
      Pn l fun a_3 =>
      rlog_slotOf.Call (IntKind.i64.wrap (x42 + (1 : Int))) w4.drew fun r71 w5 =>
      w5.cell? ⟨e, 1, none⟩ = some (.string x73) ∧
      (0 ≤ r71 ∧ r71 < ((6 : Nat) : Int)) ∧
      Sts [.string x73] (Addr.add (a_3.add 13) (r71.toNat * 1)) 0 w5 fun w6 =>
      Pn l fun a_4 =>
      Sts [.int .i64 (IntKind.i64.wrap (x42 + (1 : Int)))] (a_4.add 6) 0 w6 fun w7 =>
      R (0 : Int) w7))) = kstep Try.prog 81 Try.f62.results.toList (Try.f62.body.getD .skip) (rlog_Log_Append.RV R) (kvc Try.prog 81 Try.f62.results.toList (Try.f62.body.getD .skip) (rlog_Log_Append.RV R) [] 2000) [(0, [1, 1, 0, 1]), (0, [1, 1, 1])] [(0, .pointer l), (3, .pointer (some ⟨e, 0, none⟩)), (38, .bool t38)] w := by kernel_rfl
theorem rlog_Log_Append.B2_sound {R : Int → World → Prop}  (l : Option Addr) (e : Nat) (t38 : Bool) (w : World) (h : rlog_Log_Append.B2 l e t38 w   R) :
    KW Try.prog 62 81 (rlog_Log_Append.RV R) ([(0, [1, 1, 0, 1]), (0, [1, 1, 1])].map (toItem (Try.f62.body.getD .skip))) [(0, .pointer l), (3, .pointer (some ⟨e, 0, none⟩)), (38, .bool t38)] w := by
  exact block_spec Try.func62 Try.mixed stops_nil (Eq.mp (rlog_Log_Append.B2_eq l e t38 w   R ) h)
def rlog_Log_Append.B1 (l : Option Addr) (e : Nat) (t21 : Bool) (w : World)   (R : Int → World → Prop) : Prop :=
  Bm t21 (
    R (4 : Int) w) (
    Pn l fun a =>
    LdI .i64 (a.add 6) w.drew fun x25 =>
    Pn l fun a_1 =>
    LdI .i64 (a_1.add 3) w.drew fun x29 =>
    Bm (decide ((IntKind.i64.wrap (x25 - x29)) ≥ (6 : Int))) (
      rlog_Log_Append.B2 l e true w.drew  R) (
      Pn l fun a_2 =>
      LdI .i64 (a_2.add 6) w.drew fun x36 =>
      rlog_Log_Append.B2 l e (decide (x36 ≥ (72057594037927936 : Int))) w.drew  R))
theorem rlog_Log_Append.B1_eq (l : Option Addr) (e : Nat) (t21 : Bool) (w : World)   (R : Int → World → Prop) (sB2 : Option Addr → Nat → Bool → World → Prop) :
    (
  Bm t21 (
    R (4 : Int) w) (
    Pn l fun a =>
    LdI .i64 (a.add 6) w.drew fun x25 =>
    Pn l fun a_1 =>
    LdI .i64 (a_1.add 3) w.drew fun x29 =>
    Bm (decide ((IntKind.i64.wrap (x25 - x29)) ≥ (6 : Int))) (
      sB2 l e true w.drew) (
      Pn l fun a_2 =>
      LdI .i64 (a_2.add 6) w.drew fun x36 =>
      sB2 l e (decide (x36 ≥ (72057594037927936 : Int))) w.drew))) = kstep Try.prog 81 Try.f62.results.toList (Try.f62.body.getD .skip) (rlog_Log_Append.RV R) (kvc Try.prog 81 Try.f62.results.toList (Try.f62.body.getD .skip) (rlog_Log_Append.RV R) [([(0, [1, 1, 0, 1]), (0, [1, 1, 1])], fun σ w => dP (slotOf σ 0) fun l_ => dK (slotOf σ 3) fun e_ => dB (slotOf σ 38) fun t38_ => sB2 l_ e_ t38_ w)] 2000) [(0, [1, 0, 1]), (0, [1, 1])] [(0, .pointer l), (3, .pointer (some ⟨e, 0, none⟩)), (21, .bool t21)] w := by kernel_rfl
theorem rlog_Log_Append.B1_sound {R : Int → World → Prop}  (l : Option Addr) (e : Nat) (t21 : Bool) (w : World) (h : rlog_Log_Append.B1 l e t21 w   R) :
    KW Try.prog 62 81 (rlog_Log_Append.RV R) ([(0, [1, 0, 1]), (0, [1, 1])].map (toItem (Try.f62.body.getD .skip))) [(0, .pointer l), (3, .pointer (some ⟨e, 0, none⟩)), (21, .bool t21)] w := by
  exact block_spec Try.func62 Try.mixed (stops_cons (fun σ w h => by
      obtain ⟨l_, e0, h⟩ := dP_elim h
      obtain ⟨e_, e1, h⟩ := dK_elim h
      obtain ⟨t38_, e2, h⟩ := dB_elim h
      exact (rlog_Log_Append.B2_sound  l_ e_ t38_ w h).weaken (Sub.cons (Sub.cons (Sub.cons (Sub.nil _) e2) e1) e0)) stops_nil) (Eq.mp (rlog_Log_Append.B1_eq l e t21 w   R (fun l_ e_ t38_ w => rlog_Log_Append.B2 l_ e_ t38_ w  R)) h)
def rlog_Log_Append.B0 (l : Option Addr) (e_0 : Int) (e_1 : ByteArray) (w : World)   (R : Int → World → Prop) : Prop :=
  New (.cells #[.int .i64 e_0, .string e_1] 54) w fun e_ w1 =>
  LdI .i64 ⟨e_, 0, none⟩ w1 fun x9 =>
  Bm (decide (x9 < (0 : Int))) (
    rlog_Log_Append.B1 l e_ true w1  R) (
    LdI .i64 ⟨e_, 0, none⟩ w1 fun x13 =>
    Bm (decide (x13 > (72057594037927936 : Int))) (
      rlog_Log_Append.B1 l e_ true w1  R) (
      LdS ⟨e_, 1, none⟩ w1 fun x18 =>
      rlog_Log_Append.B1 l e_ (decide (((x18.size : Nat) : Int) > (24 : Int))) w1  R))
theorem rlog_Log_Append.B0_eq (l : Option Addr) (e_0 : Int) (e_1 : ByteArray) (w : World)   (R : Int → World → Prop) (sB1 : Option Addr → Nat → Bool → World → Prop) :
    (
  New (.cells #[.int .i64 e_0, .string e_1] 54) w fun e_ w1 =>
  LdI .i64 ⟨e_, 0, none⟩ w1 fun x9 =>
  Bm (decide (x9 < (0 : Int))) (
    sB1 l e_ true w1) (
    LdI .i64 ⟨e_, 0, none⟩ w1 fun x13 =>
    Bm (decide (x13 > (72057594037927936 : Int))) (
      sB1 l e_ true w1) (
      LdS ⟨e_, 1, none⟩ w1 fun x18 =>
      sB1 l e_ (decide (((x18.size : Nat) : Int) > (24 : Int))) w1))) = kstep Try.prog 81 Try.f62.results.toList (Try.f62.body.getD .skip) (rlog_Log_Append.RV R) (kvc Try.prog 81 Try.f62.results.toList (Try.f62.body.getD .skip) (rlog_Log_Append.RV R) [([(0, [1, 0, 1]), (0, [1, 1])], fun σ w => dP (slotOf σ 0) fun l_ => dK (slotOf σ 3) fun e_ => dB (slotOf σ 21) fun t21_ => sB1 l_ e_ t21_ w)] 2000) [(0, [])] [(0, .pointer l), (1, .agg #[.int .i64 e_0, .string e_1])] w := by kernel_rfl
theorem rlog_Log_Append.B0_sound {R : Int → World → Prop}  (l : Option Addr) (e_0 : Int) (e_1 : ByteArray) (w : World) (h : rlog_Log_Append.B0 l e_0 e_1 w   R) :
    KW Try.prog 62 81 (rlog_Log_Append.RV R) ([(0, [])].map (toItem (Try.f62.body.getD .skip))) [(0, .pointer l), (1, .agg #[.int .i64 e_0, .string e_1])] w := by
  exact block_spec Try.func62 Try.mixed (stops_cons (fun σ w h => by
      obtain ⟨l_, e0, h⟩ := dP_elim h
      obtain ⟨e_, e1, h⟩ := dK_elim h
      obtain ⟨t21_, e2, h⟩ := dB_elim h
      exact (rlog_Log_Append.B1_sound  l_ e_ t21_ w h).weaken (Sub.cons (Sub.cons (Sub.cons (Sub.nil _) e2) e1) e0)) stops_nil) (Eq.mp (rlog_Log_Append.B0_eq l e_0 e_1 w   R (fun l_ e_ t21_ w => rlog_Log_Append.B1 l_ e_ t21_ w  R)) h)
theorem rlog_Log_Append.sound (l : Option Addr) (e_0 : Int) (e_1 : ByteArray) (w : World) (R : Int → World → Prop) (h : rlog_Log_Append.B0 l e_0 e_1 w R) : rlog_Log_Append.Call l e_0 e_1 w R := by
  have hc := calls_of_block (args := #[.pointer l, .agg #[.int .i64 e_0, .string e_1]]) Try.func62 (body := (Try.f62.body.getD .skip)) (by kernel_rfl) (by kernel_rfl) (args_slot _) (rlog_Log_Append.B0_sound l e_0 e_1 w h)
  exact hc.mono fun e w' he => by
    obtain ⟨v, rfl, hv⟩ := he
    exact rlog_Log_Append.RV_elim hv
def rlogm_Log_Append.B2 (l : Option Addr) (e : Nat) (t31 : Bool) (w : World)   (R : Int → World → Prop) : Prop :=
  Bm t31 (
    R (6 : Int) w) (
    Pn l fun a =>
    LdP a w.drew fun x35 =>
    Pn l fun a_1 =>
    LdP a_1 w.drew fun x39 =>
    Pn x39 fun a_2 =>
    LdI .i64 (a_2.add 5) w.drew fun x42 =>
    LdI .i64 ⟨e, 0, none⟩ w.drew fun x43_0 =>
    LdS ⟨e, 1, none⟩ w.drew fun x43_1 =>
    Pn x35 fun a_3 =>
    (0 ≤ x42 ∧ x42 < ((6 : Nat) : Int)) ∧
    Sts [.int .i64 x43_0, .string x43_1] (Addr.add (a_3.add 6) (x42.toNat * 2)) 0 w.drew fun w1 =>
    Pn l fun a_4 =>
    LdP a_4 w1 fun x50 =>
    Pn x50 fun a_5 =>
    LdI .i64 (a_5.add 5) w1 fun x53 =>
    Pn x50 fun a_6 =>
    Sts [.int .i64 (IntKind.i64.wrap (x53 + (1 : Int)))] (a_6.add 5) 0 w1 fun w2 =>
    rlogm_Log_step.Call l w2 fun w3 =>
    R (0 : Int) w3)
theorem rlogm_Log_Append.B2_eq (l : Option Addr) (e : Nat) (t31 : Bool) (w : World)   (R : Int → World → Prop)  :
    (
  Bm t31 (
    R (6 : Int) w) (
    Pn l fun a =>
    LdP a w.drew fun x35 =>
    Pn l fun a_1 =>
    LdP a_1 w.drew fun x39 =>
    Pn x39 fun a_2 =>
    LdI .i64 (a_2.add 5) w.drew fun x42 =>
    LdI .i64 ⟨e, 0, none⟩ w.drew fun x43_0 =>
    LdS ⟨e, 1, none⟩ w.drew fun x43_1 =>
    Pn x35 fun a_3 =>
    (0 ≤ x42 ∧ x42 < ((6 : Nat) : Int)) ∧
    Sts [.int .i64 x43_0, .string x43_1] (Addr.add (a_3.add 6) (x42.toNat * 2)) 0 w.drew fun w1 =>
    Pn l fun a_4 =>
    LdP a_4 w1 fun x50 =>
    Pn x50 fun a_5 =>
    LdI .i64 (a_5.add 5) w1 fun x53 =>
    Pn x50 fun a_6 =>
    Sts [.int .i64 (IntKind.i64.wrap (x53 + (1 : Int)))] (a_6.add 5) 0 w1 fun w2 =>
    rlogm_Log_step.Call l w2 fun w3 =>
    R (0 : Int) w3)) = kstep Try.prog 59 Try.f63.results.toList (Try.f63.body.getD .skip) (rlogm_Log_Append.RV R) (kvc Try.prog 59 Try.f63.results.toList (Try.f63.body.getD .skip) (rlogm_Log_Append.RV R) [] 2000) [(0, [1, 1, 0, 1]), (0, [1, 1, 1])] [(0, .pointer l), (3, .pointer (some ⟨e, 0, none⟩)), (31, .bool t31)] w := by kernel_rfl
theorem rlogm_Log_Append.B2_sound {R : Int → World → Prop}  (l : Option Addr) (e : Nat) (t31 : Bool) (w : World) (h : rlogm_Log_Append.B2 l e t31 w   R) :
    KW Try.prog 63 59 (rlogm_Log_Append.RV R) ([(0, [1, 1, 0, 1]), (0, [1, 1, 1])].map (toItem (Try.f63.body.getD .skip))) [(0, .pointer l), (3, .pointer (some ⟨e, 0, none⟩)), (31, .bool t31)] w := by
  exact block_spec Try.func63 Try.mixed stops_nil (Eq.mp (rlogm_Log_Append.B2_eq l e t31 w   R ) h)
def rlogm_Log_Append.B1 (l : Option Addr) (e : Nat) (t18 : Bool) (w : World)   (R : Int → World → Prop) : Prop :=
  Bm t18 (
    R (4 : Int) w) (
    Pn l fun a =>
    LdP a w fun x22 =>
    Pn x22 fun a_1 =>
    LdI .i64 (a_1.add 5) w fun x25 =>
    Bm (decide (x25 ≥ (6 : Int))) (
      rlogm_Log_Append.B2 l e true w  R) (
      rlogm_Log_Last.Call l w fun r29 w1 =>
      rlogm_Log_Append.B2 l e (decide (r29 ≥ (72057594037927936 : Int))) w1  R))
theorem rlogm_Log_Append.B1_eq (l : Option Addr) (e : Nat) (t18 : Bool) (w : World)   (R : Int → World → Prop) (sB2 : Option Addr → Nat → Bool → World → Prop) :
    (
  Bm t18 (
    R (4 : Int) w) (
    Pn l fun a =>
    LdP a w fun x22 =>
    Pn x22 fun a_1 =>
    LdI .i64 (a_1.add 5) w fun x25 =>
    Bm (decide (x25 ≥ (6 : Int))) (
      sB2 l e true w) (
      rlogm_Log_Last.Call l w fun r29 w1 =>
      sB2 l e (decide (r29 ≥ (72057594037927936 : Int))) w1))) = kstep Try.prog 59 Try.f63.results.toList (Try.f63.body.getD .skip) (rlogm_Log_Append.RV R) (kvc Try.prog 59 Try.f63.results.toList (Try.f63.body.getD .skip) (rlogm_Log_Append.RV R) [([(0, [1, 1, 0, 1]), (0, [1, 1, 1])], fun σ w => dP (slotOf σ 0) fun l_ => dK (slotOf σ 3) fun e_ => dB (slotOf σ 31) fun t31_ => sB2 l_ e_ t31_ w)] 2000) [(0, [1, 0, 1]), (0, [1, 1])] [(0, .pointer l), (3, .pointer (some ⟨e, 0, none⟩)), (18, .bool t18)] w := by kernel_rfl
theorem rlogm_Log_Append.B1_sound {R : Int → World → Prop}  (l : Option Addr) (e : Nat) (t18 : Bool) (w : World) (h : rlogm_Log_Append.B1 l e t18 w   R) :
    KW Try.prog 63 59 (rlogm_Log_Append.RV R) ([(0, [1, 0, 1]), (0, [1, 1])].map (toItem (Try.f63.body.getD .skip))) [(0, .pointer l), (3, .pointer (some ⟨e, 0, none⟩)), (18, .bool t18)] w := by
  exact block_spec Try.func63 Try.mixed (stops_cons (fun σ w h => by
      obtain ⟨l_, e0, h⟩ := dP_elim h
      obtain ⟨e_, e1, h⟩ := dK_elim h
      obtain ⟨t31_, e2, h⟩ := dB_elim h
      exact (rlogm_Log_Append.B2_sound  l_ e_ t31_ w h).weaken (Sub.cons (Sub.cons (Sub.cons (Sub.nil _) e2) e1) e0)) stops_nil) (Eq.mp (rlogm_Log_Append.B1_eq l e t18 w   R (fun l_ e_ t31_ w => rlogm_Log_Append.B2 l_ e_ t31_ w  R)) h)
def rlogm_Log_Append.B0 (l : Option Addr) (e_0 : Int) (e_1 : ByteArray) (w : World)   (R : Int → World → Prop) : Prop :=
  New (.cells #[.int .i64 e_0, .string e_1] 54) w fun e_ w1 =>
  LdI .i64 ⟨e_, 0, none⟩ w1 fun x6 =>
  Bm (decide (x6 < (0 : Int))) (
    rlogm_Log_Append.B1 l e_ true w1  R) (
    LdI .i64 ⟨e_, 0, none⟩ w1 fun x10 =>
    Bm (decide (x10 > (72057594037927936 : Int))) (
      rlogm_Log_Append.B1 l e_ true w1  R) (
      LdS ⟨e_, 1, none⟩ w1 fun x15 =>
      rlogm_Log_Append.B1 l e_ (decide (((x15.size : Nat) : Int) > (24 : Int))) w1  R))
theorem rlogm_Log_Append.B0_eq (l : Option Addr) (e_0 : Int) (e_1 : ByteArray) (w : World)   (R : Int → World → Prop) (sB1 : Option Addr → Nat → Bool → World → Prop) :
    (
  New (.cells #[.int .i64 e_0, .string e_1] 54) w fun e_ w1 =>
  LdI .i64 ⟨e_, 0, none⟩ w1 fun x6 =>
  Bm (decide (x6 < (0 : Int))) (
    sB1 l e_ true w1) (
    LdI .i64 ⟨e_, 0, none⟩ w1 fun x10 =>
    Bm (decide (x10 > (72057594037927936 : Int))) (
      sB1 l e_ true w1) (
      LdS ⟨e_, 1, none⟩ w1 fun x15 =>
      sB1 l e_ (decide (((x15.size : Nat) : Int) > (24 : Int))) w1))) = kstep Try.prog 59 Try.f63.results.toList (Try.f63.body.getD .skip) (rlogm_Log_Append.RV R) (kvc Try.prog 59 Try.f63.results.toList (Try.f63.body.getD .skip) (rlogm_Log_Append.RV R) [([(0, [1, 0, 1]), (0, [1, 1])], fun σ w => dP (slotOf σ 0) fun l_ => dK (slotOf σ 3) fun e_ => dB (slotOf σ 18) fun t18_ => sB1 l_ e_ t18_ w)] 2000) [(0, [])] [(0, .pointer l), (1, .agg #[.int .i64 e_0, .string e_1])] w := by kernel_rfl
theorem rlogm_Log_Append.B0_sound {R : Int → World → Prop}  (l : Option Addr) (e_0 : Int) (e_1 : ByteArray) (w : World) (h : rlogm_Log_Append.B0 l e_0 e_1 w   R) :
    KW Try.prog 63 59 (rlogm_Log_Append.RV R) ([(0, [])].map (toItem (Try.f63.body.getD .skip))) [(0, .pointer l), (1, .agg #[.int .i64 e_0, .string e_1])] w := by
  exact block_spec Try.func63 Try.mixed (stops_cons (fun σ w h => by
      obtain ⟨l_, e0, h⟩ := dP_elim h
      obtain ⟨e_, e1, h⟩ := dK_elim h
      obtain ⟨t18_, e2, h⟩ := dB_elim h
      exact (rlogm_Log_Append.B1_sound  l_ e_ t18_ w h).weaken (Sub.cons (Sub.cons (Sub.cons (Sub.nil _) e2) e1) e0)) stops_nil) (Eq.mp (rlogm_Log_Append.B0_eq l e_0 e_1 w   R (fun l_ e_ t18_ w => rlogm_Log_Append.B1 l_ e_ t18_ w  R)) h)
theorem rlogm_Log_Append.sound (l : Option Addr) (e_0 : Int) (e_1 : ByteArray) (w : World) (R : Int → World → Prop) (h : rlogm_Log_Append.B0 l e_0 e_1 w R) : rlogm_Log_Append.Call l e_0 e_1 w R := by
  have hc := calls_of_block (args := #[.pointer l, .agg #[.int .i64 e_0, .string e_1]]) Try.func63 (body := (Try.f63.body.getD .skip)) (by kernel_rfl) (by kernel_rfl) (args_slot _) (rlogm_Log_Append.B0_sound l e_0 e_1 w h)
  exact hc.mono fun e w' he => by
    obtain ⟨v, rfl, hv⟩ := he
    exact rlogm_Log_Append.RV_elim hv
def rlog_Log_TruncateFrom.B0 (l : Option Addr) (i : Int) (w : World)   (R : Int → World → Prop) : Prop :=
  Pn l fun a =>
  LdI .i64 (a.add 3) w fun x9 =>
  Bm (decide (i ≤ x9)) (
    R (7 : Int) w) (
    rlog_Log_dropFrom.Call l i w fun r13 w1 =>
    R r13 w1)
theorem rlog_Log_TruncateFrom.B0_eq (l : Option Addr) (i : Int) (w : World)   (R : Int → World → Prop)  :
    (
  Pn l fun a =>
  LdI .i64 (a.add 3) w fun x9 =>
  Bm (decide (i ≤ x9)) (
    R (7 : Int) w) (
    rlog_Log_dropFrom.Call l i w fun r13 w1 =>
    R r13 w1)) = kstep Try.prog 14 Try.f64.results.toList (Try.f64.body.getD .skip) (rlog_Log_TruncateFrom.RV R) (kvc Try.prog 14 Try.f64.results.toList (Try.f64.body.getD .skip) (rlog_Log_TruncateFrom.RV R) [] 2000) [(0, [])] [(0, .pointer l), (1, .int .i64 i)] w := by kernel_rfl
theorem rlog_Log_TruncateFrom.B0_sound {R : Int → World → Prop}  (l : Option Addr) (i : Int) (w : World) (h : rlog_Log_TruncateFrom.B0 l i w   R) :
    KW Try.prog 64 14 (rlog_Log_TruncateFrom.RV R) ([(0, [])].map (toItem (Try.f64.body.getD .skip))) [(0, .pointer l), (1, .int .i64 i)] w := by
  exact block_spec Try.func64 Try.mixed stops_nil (Eq.mp (rlog_Log_TruncateFrom.B0_eq l i w   R ) h)
theorem rlog_Log_TruncateFrom.sound (l : Option Addr) (i : Int) (w : World) (R : Int → World → Prop) (h : rlog_Log_TruncateFrom.B0 l i w R) : rlog_Log_TruncateFrom.Call l i w R := by
  have hc := calls_of_block (args := #[.pointer l, .int .i64 i]) Try.func64 (body := (Try.f64.body.getD .skip)) (by kernel_rfl) (by kernel_rfl) (args_slot _) (rlog_Log_TruncateFrom.B0_sound l i w h)
  exact hc.mono fun e w' he => by
    obtain ⟨v, rfl, hv⟩ := he
    exact rlog_Log_TruncateFrom.RV_elim hv
def rlogm_Log_TruncateFrom.L1b (l : Option Addr) (i : Int) (w : World)  (N1 : Option Addr → Int → World → Prop) (R : Int → World → Prop) : Prop :=
  rlogm_Log_Last.Call l w fun r15 w1 =>
  Bm (decide (r15 ≥ i)) (
    rlogm_Log_pop.Call l w1 fun w2 =>
    N1 l i w2) (
    R (0 : Int) w1)
theorem rlogm_Log_TruncateFrom.L1b_eq (l : Option Addr) (i : Int) (w : World)  (N1 : Option Addr → Int → World → Prop) (R : Int → World → Prop)  :
    (
  rlogm_Log_Last.Call l w fun r15 w1 =>
  Bm (decide (r15 ≥ i)) (
    rlogm_Log_pop.Call l w1 fun w2 =>
    N1 l i w2) (
    R (0 : Int) w1)) = kstep Try.prog 20 Try.f65.results.toList (Try.f65.body.getD .skip) (rlogm_Log_TruncateFrom.RV R) (kvc Try.prog 20 Try.f65.results.toList (Try.f65.body.getD .skip) (rlogm_Log_TruncateFrom.RV R) [([(0, [1, 1, 0, 0, 0]), (2, [1, 1, 0, 0, 0]), (1, [0]), (0, [1, 1, 1])], fun σ w => dP (slotOf σ 0) fun l_ => dI .i64 (slotOf σ 1) fun i_ => N1 l_ i_ w)] 2000) [(0, [1, 1, 0, 0, 0]), (2, [1, 1, 0, 0, 0]), (1, [0]), (0, [1, 1, 1])] [(0, .pointer l), (1, .int .i64 i)] w := by kernel_rfl
theorem rlogm_Log_TruncateFrom.L1b_sound {R : Int → World → Prop} {N1 : Option Addr → Int → World → Prop} (hN1 : ∀ l i w, N1 l i w → KW Try.prog 65 20 (rlogm_Log_TruncateFrom.RV R) ([(0, [1, 1, 0, 0, 0]), (2, [1, 1, 0, 0, 0]), (1, [0]), (0, [1, 1, 1])].map (toItem (Try.f65.body.getD .skip))) [(0, .pointer l), (1, .int .i64 i)] w) (l : Option Addr) (i : Int) (w : World) (h : rlogm_Log_TruncateFrom.L1b l i w  N1 R) :
    KW Try.prog 65 20 (rlogm_Log_TruncateFrom.RV R) ([(0, [1, 1, 0, 0, 0]), (2, [1, 1, 0, 0, 0]), (1, [0]), (0, [1, 1, 1])].map (toItem (Try.f65.body.getD .skip))) [(0, .pointer l), (1, .int .i64 i)] w := by
  exact block_spec Try.func65 Try.mixed (stops_cons (fun σ w h => by
      obtain ⟨l_, e0, h⟩ := dP_elim h
      obtain ⟨i_, e1, h⟩ := dI_elim h
      exact (hN1 l_ i_ w h).weaken (Sub.cons (Sub.cons (Sub.nil _) e1) e0)) stops_nil) (Eq.mp (rlogm_Log_TruncateFrom.L1b_eq l i w  N1 R ) h)
def rlogm_Log_TruncateFrom.L1 (l : Option Addr) (i : Int) (w : World)  (R : Int → World → Prop) : Prop :=
  ∃ (I : Nat → Option Addr → Int → World → Prop) (m : Nat), I m l i w ∧ ∀ m l i w, I m l i w → rlogm_Log_TruncateFrom.L1b l i w  (fun l' i' w' => ∃ m', m' < m ∧ I m' l' i' w') R
theorem rlogm_Log_TruncateFrom.L1_sound {R : Int → World → Prop}  (l : Option Addr) (i : Int) (w : World) (h : rlogm_Log_TruncateFrom.L1 l i w  R) :
    KW Try.prog 65 20 (rlogm_Log_TruncateFrom.RV R) ([(0, [1, 1, 0, 0, 0]), (2, [1, 1, 0, 0, 0]), (1, [0]), (0, [1, 1, 1])].map (toItem (Try.f65.body.getD .skip))) [(0, .pointer l), (1, .int .i64 i)] w := by
  obtain ⟨I, m, hBase, hr⟩ := h
  refine KW.loop (fun m σ w => ∃ (l : Option Addr) (i : Int), σ = [(0, .pointer l), (1, .int .i64 i)] ∧ I m l i w) ?_ m _ w ⟨l, i, rfl, hBase⟩
  rintro m ih σ w ⟨l, i, rfl, hI⟩
  exact rlogm_Log_TruncateFrom.L1b_sound  (N1 := fun l' i' w' => ∃ m', m' < m ∧ I m' l' i' w') (fun l' i' w' hx => by obtain ⟨m', hlt, hI'⟩ := hx; exact ih m' hlt _ w' ⟨l', i', rfl, hI'⟩) l i w (hr m l i w hI)
def rlogm_Log_TruncateFrom.B0 (l : Option Addr) (i : Int) (w : World)   (R : Int → World → Prop) : Prop :=
  Pn l fun a =>
  LdP a w fun x9 =>
  Pn x9 fun a_1 =>
  LdI .i64 (a_1.add 2) w fun x12 =>
  Bm (decide (i ≤ x12)) (
    R (7 : Int) w) (
    rlogm_Log_TruncateFrom.L1 l i w  R)
theorem rlogm_Log_TruncateFrom.B0_eq (l : Option Addr) (i : Int) (w : World)   (R : Int → World → Prop) (sL1 : Option Addr → Int → World → Prop) :
    (
  Pn l fun a =>
  LdP a w fun x9 =>
  Pn x9 fun a_1 =>
  LdI .i64 (a_1.add 2) w fun x12 =>
  Bm (decide (i ≤ x12)) (
    R (7 : Int) w) (
    sL1 l i w)) = kstep Try.prog 20 Try.f65.results.toList (Try.f65.body.getD .skip) (rlogm_Log_TruncateFrom.RV R) (kvc Try.prog 20 Try.f65.results.toList (Try.f65.body.getD .skip) (rlogm_Log_TruncateFrom.RV R) [([(0, [1, 1, 0, 0, 0]), (2, [1, 1, 0, 0, 0]), (1, [0]), (0, [1, 1, 1])], fun σ w => dP (slotOf σ 0) fun l_ => dI .i64 (slotOf σ 1) fun i_ => sL1 l_ i_ w)] 2000) [(0, [])] [(0, .pointer l), (1, .int .i64 i)] w := by kernel_rfl
theorem rlogm_Log_TruncateFrom.B0_sound {R : Int → World → Prop}  (l : Option Addr) (i : Int) (w : World) (h : rlogm_Log_TruncateFrom.B0 l i w   R) :
    KW Try.prog 65 20 (rlogm_Log_TruncateFrom.RV R) ([(0, [])].map (toItem (Try.f65.body.getD .skip))) [(0, .pointer l), (1, .int .i64 i)] w := by
  exact block_spec Try.func65 Try.mixed (stops_cons (fun σ w h => by
      obtain ⟨l_, e0, h⟩ := dP_elim h
      obtain ⟨i_, e1, h⟩ := dI_elim h
      exact (rlogm_Log_TruncateFrom.L1_sound  l_ i_ w h).weaken (Sub.cons (Sub.cons (Sub.nil _) e1) e0)) stops_nil) (Eq.mp (rlogm_Log_TruncateFrom.B0_eq l i w   R (fun l_ i_ w => rlogm_Log_TruncateFrom.L1 l_ i_ w  R)) h)
theorem rlogm_Log_TruncateFrom.sound (l : Option Addr) (i : Int) (w : World) (R : Int → World → Prop) (h : rlogm_Log_TruncateFrom.B0 l i w R) : rlogm_Log_TruncateFrom.Call l i w R := by
  have hc := calls_of_block (args := #[.pointer l, .int .i64 i]) Try.func65 (body := (Try.f65.body.getD .skip)) (by kernel_rfl) (by kernel_rfl) (args_slot _) (rlogm_Log_TruncateFrom.B0_sound l i w h)
  exact hc.mono fun e w' he => by
    obtain ⟨v, rfl, hv⟩ := he
    exact rlogm_Log_TruncateFrom.RV_elim hv
def rlog_Log_Compact.B0 (l : Option Addr) (upTo : Int) (snap : ByteArray) (w : World)   (R : Int → World → Prop) : Prop :=
  Bm (decide (((snap.size : Nat) : Int) > (128 : Int))) (
    R (5 : Int) w) (
    Pn l fun a =>
    LdI .i64 (a.add 3) w fun x15 =>
    Bm (decide (upTo ≤ x15)) (
      R (7 : Int) w) (
      Pn l fun a_1 =>
      LdI .i64 (a_1.add 6) w fun x21 =>
      Bm (decide (upTo > x21)) (
        R (2 : Int) w) (
        rlog_slotOf.Call upTo w fun r24 w1 =>
        Pn l fun a_2 =>
        (0 ≤ r24 ∧ r24 < ((6 : Nat) : Int)) ∧
        LdI .i64 (Addr.add (a_2.add 7) (r24.toNat * 1)) w1 fun x32 =>
        rlog_Log_rebase.Call l upTo x32 snap w1 fun r34 w2 =>
        R r34 w2)))
theorem rlog_Log_Compact.B0_eq (l : Option Addr) (upTo : Int) (snap : ByteArray) (w : World)   (R : Int → World → Prop)  :
    (
  Bm (decide (((snap.size : Nat) : Int) > (128 : Int))) (
    R (5 : Int) w) (
    Pn l fun a =>
    LdI .i64 (a.add 3) w fun x15 =>
    Bm (decide (upTo ≤ x15)) (
      R (7 : Int) w) (
      Pn l fun a_1 =>
      LdI .i64 (a_1.add 6) w fun x21 =>
      Bm (decide (upTo > x21)) (
        R (2 : Int) w) (
        rlog_slotOf.Call upTo w fun r24 w1 =>
        Pn l fun a_2 =>
        (0 ≤ r24 ∧ r24 < ((6 : Nat) : Int)) ∧
        LdI .i64 (Addr.add (a_2.add 7) (r24.toNat * 1)) w1 fun x32 =>
        rlog_Log_rebase.Call l upTo x32 snap w1 fun r34 w2 =>
        R r34 w2)))) = kstep Try.prog 35 Try.f66.results.toList (Try.f66.body.getD .skip) (rlog_Log_Compact.RV R) (kvc Try.prog 35 Try.f66.results.toList (Try.f66.body.getD .skip) (rlog_Log_Compact.RV R) [] 2000) [(0, [])] [(0, .pointer l), (1, .int .i64 upTo), (2, .string snap)] w := by kernel_rfl
theorem rlog_Log_Compact.B0_sound {R : Int → World → Prop}  (l : Option Addr) (upTo : Int) (snap : ByteArray) (w : World) (h : rlog_Log_Compact.B0 l upTo snap w   R) :
    KW Try.prog 66 35 (rlog_Log_Compact.RV R) ([(0, [])].map (toItem (Try.f66.body.getD .skip))) [(0, .pointer l), (1, .int .i64 upTo), (2, .string snap)] w := by
  exact block_spec Try.func66 Try.mixed stops_nil (Eq.mp (rlog_Log_Compact.B0_eq l upTo snap w   R ) h)
theorem rlog_Log_Compact.sound (l : Option Addr) (upTo : Int) (snap : ByteArray) (w : World) (R : Int → World → Prop) (h : rlog_Log_Compact.B0 l upTo snap w R) : rlog_Log_Compact.Call l upTo snap w R := by
  have hc := calls_of_block (args := #[.pointer l, .int .i64 upTo, .string snap]) Try.func66 (body := (Try.f66.body.getD .skip)) (by kernel_rfl) (by kernel_rfl) (args_slot _) (rlog_Log_Compact.B0_sound l upTo snap w h)
  exact hc.mono fun e w' he => by
    obtain ⟨v, rfl, hv⟩ := he
    exact rlog_Log_Compact.RV_elim hv
def rlogm_Log_Compact.B0 (l : Option Addr) (upTo : Int) (snap : ByteArray) (w : World)   (R : Int → World → Prop) : Prop :=
  Bm (decide (((snap.size : Nat) : Int) > (128 : Int))) (
    R (5 : Int) w) (
    Pn l fun a =>
    LdP a w fun x16 =>
    Pn x16 fun a_1 =>
    LdI .i64 (a_1.add 2) w fun x19 =>
    Bm (decide (upTo ≤ x19)) (
      R (7 : Int) w) (
      rlogm_Log_Last.Call l w fun r23 w1 =>
      Bm (decide (upTo > r23)) (
        R (2 : Int) w1) (
        rlogm_Log_TermAt.Call l upTo w1 fun r28_0 r28_1 w2 =>
        rlogm_Log_rebase.Call l upTo r28_0 snap w2 fun w3 =>
        R (0 : Int) w3)))
theorem rlogm_Log_Compact.B0_eq (l : Option Addr) (upTo : Int) (snap : ByteArray) (w : World)   (R : Int → World → Prop)  :
    (
  Bm (decide (((snap.size : Nat) : Int) > (128 : Int))) (
    R (5 : Int) w) (
    Pn l fun a =>
    LdP a w fun x16 =>
    Pn x16 fun a_1 =>
    LdI .i64 (a_1.add 2) w fun x19 =>
    Bm (decide (upTo ≤ x19)) (
      R (7 : Int) w) (
      rlogm_Log_Last.Call l w fun r23 w1 =>
      Bm (decide (upTo > r23)) (
        R (2 : Int) w1) (
        rlogm_Log_TermAt.Call l upTo w1 fun r28_0 r28_1 w2 =>
        rlogm_Log_rebase.Call l upTo r28_0 snap w2 fun w3 =>
        R (0 : Int) w3)))) = kstep Try.prog 36 Try.f67.results.toList (Try.f67.body.getD .skip) (rlogm_Log_Compact.RV R) (kvc Try.prog 36 Try.f67.results.toList (Try.f67.body.getD .skip) (rlogm_Log_Compact.RV R) [] 2000) [(0, [])] [(0, .pointer l), (1, .int .i64 upTo), (2, .string snap)] w := by kernel_rfl
theorem rlogm_Log_Compact.B0_sound {R : Int → World → Prop}  (l : Option Addr) (upTo : Int) (snap : ByteArray) (w : World) (h : rlogm_Log_Compact.B0 l upTo snap w   R) :
    KW Try.prog 67 36 (rlogm_Log_Compact.RV R) ([(0, [])].map (toItem (Try.f67.body.getD .skip))) [(0, .pointer l), (1, .int .i64 upTo), (2, .string snap)] w := by
  exact block_spec Try.func67 Try.mixed stops_nil (Eq.mp (rlogm_Log_Compact.B0_eq l upTo snap w   R ) h)
theorem rlogm_Log_Compact.sound (l : Option Addr) (upTo : Int) (snap : ByteArray) (w : World) (R : Int → World → Prop) (h : rlogm_Log_Compact.B0 l upTo snap w R) : rlogm_Log_Compact.Call l upTo snap w R := by
  have hc := calls_of_block (args := #[.pointer l, .int .i64 upTo, .string snap]) Try.func67 (body := (Try.f67.body.getD .skip)) (by kernel_rfl) (by kernel_rfl) (args_slot _) (rlogm_Log_Compact.B0_sound l upTo snap w h)
  exact hc.mono fun e w' he => by
    obtain ⟨v, rfl, hv⟩ := he
    exact rlogm_Log_Compact.RV_elim hv
def rlog_Log_Install.B2 (l : Option Addr) (idx term : Int) (snap : ByteArray) (t46 : Bool) (w : World)   (R : Int → World → Prop) : Prop :=
  Bm t46 (
    rlog_Log_rebase.Call l idx term snap w fun r51 w1 =>
    R r51 w1) (
    Pn l fun a =>
    LdI .i64 (a.add 3) w fun x56 =>
    rlog_Log_dropFrom.Call l (IntKind.i64.wrap (x56 + (1 : Int))) w fun r58 w2 =>
    Bm (r58 != (0 : Int)) (
      R r58 w2) (
      Pn l fun a_1 =>
      LdP a_1 w2 fun x65 =>
      store_Store_SetSnap.Call x65 idx term snap w2 fun r69 w3 =>
      Bm (r69 != (0 : Int)) (
        R r69 w3) (
        Pn l fun a_2 =>
        Sts [.int .i64 idx] (a_2.add 3) 0 w3 fun w4 =>
        Pn l fun a_3 =>
        Sts [.int .i64 term] (a_3.add 4) 0 w4 fun w5 =>
        Pn l fun a_4 =>
        Sts [.string snap] (a_4.add 5) 0 w5 fun w6 =>
        Pn l fun a_5 =>
        Sts [.int .i64 idx] (a_5.add 6) 0 w6 fun w7 =>
        R (0 : Int) w7)))
theorem rlog_Log_Install.B2_eq (l : Option Addr) (idx term : Int) (snap : ByteArray) (t46 : Bool) (w : World)   (R : Int → World → Prop)  :
    (
  Bm t46 (
    rlog_Log_rebase.Call l idx term snap w fun r51 w1 =>
    R r51 w1) (
    Pn l fun a =>
    LdI .i64 (a.add 3) w fun x56 =>
    rlog_Log_dropFrom.Call l (IntKind.i64.wrap (x56 + (1 : Int))) w fun r58 w2 =>
    Bm (r58 != (0 : Int)) (
      R r58 w2) (
      Pn l fun a_1 =>
      LdP a_1 w2 fun x65 =>
      store_Store_SetSnap.Call x65 idx term snap w2 fun r69 w3 =>
      Bm (r69 != (0 : Int)) (
        R r69 w3) (
        Pn l fun a_2 =>
        Sts [.int .i64 idx] (a_2.add 3) 0 w3 fun w4 =>
        Pn l fun a_3 =>
        Sts [.int .i64 term] (a_3.add 4) 0 w4 fun w5 =>
        Pn l fun a_4 =>
        Sts [.string snap] (a_4.add 5) 0 w5 fun w6 =>
        Pn l fun a_5 =>
        Sts [.int .i64 idx] (a_5.add 6) 0 w6 fun w7 =>
        R (0 : Int) w7)))) = kstep Try.prog 89 Try.f68.results.toList (Try.f68.body.getD .skip) (rlog_Log_Install.RV R) (kvc Try.prog 89 Try.f68.results.toList (Try.f68.body.getD .skip) (rlog_Log_Install.RV R) [] 2000) [(0, [1, 1, 1, 1, 1, 0, 1]), (0, [1, 1, 1, 1, 1, 1])] [(0, .pointer l), (1, .int .i64 idx), (2, .int .i64 term), (3, .string snap), (46, .bool t46)] w := by kernel_rfl
theorem rlog_Log_Install.B2_sound {R : Int → World → Prop}  (l : Option Addr) (idx term : Int) (snap : ByteArray) (t46 : Bool) (w : World) (h : rlog_Log_Install.B2 l idx term snap t46 w   R) :
    KW Try.prog 68 89 (rlog_Log_Install.RV R) ([(0, [1, 1, 1, 1, 1, 0, 1]), (0, [1, 1, 1, 1, 1, 1])].map (toItem (Try.f68.body.getD .skip))) [(0, .pointer l), (1, .int .i64 idx), (2, .int .i64 term), (3, .string snap), (46, .bool t46)] w := by
  exact block_spec Try.func68 Try.mixed stops_nil (Eq.mp (rlog_Log_Install.B2_eq l idx term snap t46 w   R ) h)
def rlog_Log_Install.B1 (l : Option Addr) (idx term : Int) (snap : ByteArray) (t24 : Bool) (w : World)   (R : Int → World → Prop) : Prop :=
  Bm t24 (
    R (1 : Int) w) (
    Bm (decide (((snap.size : Nat) : Int) > (128 : Int))) (
      R (5 : Int) w) (
      Pn l fun a =>
      LdI .i64 (a.add 3) w fun x32 =>
      Bm (decide (idx ≤ x32)) (
        R (7 : Int) w) (
        rlog_Log_TermAt.Call l idx w fun r37_0 r37_1 w1 =>
        Bm (r37_1 == (0 : Int)) (
          rlog_Log_Install.B2 l idx term snap (r37_0 == term) w1  R) (
          rlog_Log_Install.B2 l idx term snap false w1  R))))
theorem rlog_Log_Install.B1_eq (l : Option Addr) (idx term : Int) (snap : ByteArray) (t24 : Bool) (w : World)   (R : Int → World → Prop) (sB2 : Option Addr → Int → Int → ByteArray → Bool → World → Prop) :
    (
  Bm t24 (
    R (1 : Int) w) (
    Bm (decide (((snap.size : Nat) : Int) > (128 : Int))) (
      R (5 : Int) w) (
      Pn l fun a =>
      LdI .i64 (a.add 3) w fun x32 =>
      Bm (decide (idx ≤ x32)) (
        R (7 : Int) w) (
        rlog_Log_TermAt.Call l idx w fun r37_0 r37_1 w1 =>
        Bm (r37_1 == (0 : Int)) (
          sB2 l idx term snap (r37_0 == term) w1) (
          sB2 l idx term snap false w1))))) = kstep Try.prog 89 Try.f68.results.toList (Try.f68.body.getD .skip) (rlog_Log_Install.RV R) (kvc Try.prog 89 Try.f68.results.toList (Try.f68.body.getD .skip) (rlog_Log_Install.RV R) [([(0, [1, 1, 1, 1, 1, 0, 1]), (0, [1, 1, 1, 1, 1, 1])], fun σ w => dP (slotOf σ 0) fun l_ => dI .i64 (slotOf σ 1) fun idx_ => dI .i64 (slotOf σ 2) fun term_ => dS (slotOf σ 3) fun snap_ => dB (slotOf σ 46) fun t46_ => sB2 l_ idx_ term_ snap_ t46_ w)] 2000) [(0, [1, 0, 1]), (0, [1, 1])] [(0, .pointer l), (1, .int .i64 idx), (2, .int .i64 term), (3, .string snap), (24, .bool t24)] w := by kernel_rfl
theorem rlog_Log_Install.B1_sound {R : Int → World → Prop}  (l : Option Addr) (idx term : Int) (snap : ByteArray) (t24 : Bool) (w : World) (h : rlog_Log_Install.B1 l idx term snap t24 w   R) :
    KW Try.prog 68 89 (rlog_Log_Install.RV R) ([(0, [1, 0, 1]), (0, [1, 1])].map (toItem (Try.f68.body.getD .skip))) [(0, .pointer l), (1, .int .i64 idx), (2, .int .i64 term), (3, .string snap), (24, .bool t24)] w := by
  exact block_spec Try.func68 Try.mixed (stops_cons (fun σ w h => by
      obtain ⟨l_, e0, h⟩ := dP_elim h
      obtain ⟨idx_, e1, h⟩ := dI_elim h
      obtain ⟨term_, e2, h⟩ := dI_elim h
      obtain ⟨snap_, e3, h⟩ := dS_elim h
      obtain ⟨t46_, e4, h⟩ := dB_elim h
      exact (rlog_Log_Install.B2_sound  l_ idx_ term_ snap_ t46_ w h).weaken (Sub.cons (Sub.cons (Sub.cons (Sub.cons (Sub.cons (Sub.nil _) e4) e3) e2) e1) e0)) stops_nil) (Eq.mp (rlog_Log_Install.B1_eq l idx term snap t24 w   R (fun l_ idx_ term_ snap_ t46_ w => rlog_Log_Install.B2 l_ idx_ term_ snap_ t46_ w  R)) h)
def rlog_Log_Install.B0 (l : Option Addr) (idx term : Int) (snap : ByteArray) (w : World)   (R : Int → World → Prop) : Prop :=
  Bm (decide (idx < (0 : Int))) (
    rlog_Log_Install.B1 l idx term snap true w  R) (
    Bm (decide (idx > (72057594037927936 : Int))) (
      rlog_Log_Install.B1 l idx term snap true w  R) (
      Bm (decide (term < (0 : Int))) (
        rlog_Log_Install.B1 l idx term snap true w  R) (
        rlog_Log_Install.B1 l idx term snap (decide (term > (72057594037927936 : Int))) w  R)))
theorem rlog_Log_Install.B0_eq (l : Option Addr) (idx term : Int) (snap : ByteArray) (w : World)   (R : Int → World → Prop) (sB1 : Option Addr → Int → Int → ByteArray → Bool → World → Prop) :
    (
  Bm (decide (idx < (0 : Int))) (
    sB1 l idx term snap true w) (
    Bm (decide (idx > (72057594037927936 : Int))) (
      sB1 l idx term snap true w) (
      Bm (decide (term < (0 : Int))) (
        sB1 l idx term snap true w) (
        sB1 l idx term snap (decide (term > (72057594037927936 : Int))) w)))) = kstep Try.prog 89 Try.f68.results.toList (Try.f68.body.getD .skip) (rlog_Log_Install.RV R) (kvc Try.prog 89 Try.f68.results.toList (Try.f68.body.getD .skip) (rlog_Log_Install.RV R) [([(0, [1, 0, 1]), (0, [1, 1])], fun σ w => dP (slotOf σ 0) fun l_ => dI .i64 (slotOf σ 1) fun idx_ => dI .i64 (slotOf σ 2) fun term_ => dS (slotOf σ 3) fun snap_ => dB (slotOf σ 24) fun t24_ => sB1 l_ idx_ term_ snap_ t24_ w)] 2000) [(0, [])] [(0, .pointer l), (1, .int .i64 idx), (2, .int .i64 term), (3, .string snap)] w := by kernel_rfl
theorem rlog_Log_Install.B0_sound {R : Int → World → Prop}  (l : Option Addr) (idx term : Int) (snap : ByteArray) (w : World) (h : rlog_Log_Install.B0 l idx term snap w   R) :
    KW Try.prog 68 89 (rlog_Log_Install.RV R) ([(0, [])].map (toItem (Try.f68.body.getD .skip))) [(0, .pointer l), (1, .int .i64 idx), (2, .int .i64 term), (3, .string snap)] w := by
  exact block_spec Try.func68 Try.mixed (stops_cons (fun σ w h => by
      obtain ⟨l_, e0, h⟩ := dP_elim h
      obtain ⟨idx_, e1, h⟩ := dI_elim h
      obtain ⟨term_, e2, h⟩ := dI_elim h
      obtain ⟨snap_, e3, h⟩ := dS_elim h
      obtain ⟨t24_, e4, h⟩ := dB_elim h
      exact (rlog_Log_Install.B1_sound  l_ idx_ term_ snap_ t24_ w h).weaken (Sub.cons (Sub.cons (Sub.cons (Sub.cons (Sub.cons (Sub.nil _) e4) e3) e2) e1) e0)) stops_nil) (Eq.mp (rlog_Log_Install.B0_eq l idx term snap w   R (fun l_ idx_ term_ snap_ t24_ w => rlog_Log_Install.B1 l_ idx_ term_ snap_ t24_ w  R)) h)
theorem rlog_Log_Install.sound (l : Option Addr) (idx term : Int) (snap : ByteArray) (w : World) (R : Int → World → Prop) (h : rlog_Log_Install.B0 l idx term snap w R) : rlog_Log_Install.Call l idx term snap w R := by
  have hc := calls_of_block (args := #[.pointer l, .int .i64 idx, .int .i64 term, .string snap]) Try.func68 (body := (Try.f68.body.getD .skip)) (by kernel_rfl) (by kernel_rfl) (args_slot _) (rlog_Log_Install.B0_sound l idx term snap w h)
  exact hc.mono fun e w' he => by
    obtain ⟨v, rfl, hv⟩ := he
    exact rlog_Log_Install.RV_elim hv
def rlogm_Log_Install.L1b (l : Option Addr) (idx term : Int) (snap : ByteArray) (w : World)  (N1 : Option Addr → Int → Int → ByteArray → World → Prop) (R : Int → World → Prop) : Prop :=
  Pn l fun a =>
  LdP a w fun x58 =>
  Pn x58 fun a_1 =>
  LdI .i64 (a_1.add 5) w fun x61 =>
  Bm (decide (x61 > (0 : Int))) (
    rlogm_Log_pop.Call l w fun w1 =>
    N1 l idx term snap w1) (
    Pn l fun a_2 =>
    LdP a_2 w.drew fun x68 =>
    Pn l fun a_3 =>
    LdP a_3 w.drew fun x72 =>
    Pn l fun a_4 =>
    LdP a_4 w.drew fun x76 =>
    Pn x68 fun a_5 =>
    Sts [.int .i64 idx] (a_5.add 2) 0 w.drew fun w2 =>
    Pn x72 fun a_6 =>
    Sts [.int .i64 term] (a_6.add 3) 0 w2 fun w3 =>
    Pn x76 fun a_7 =>
    Sts [.string snap] (a_7.add 4) 0 w3 fun w4 =>
    rlogm_Log_step.Call l w4 fun w5 =>
    R (0 : Int) w5)
theorem rlogm_Log_Install.L1b_eq (l : Option Addr) (idx term : Int) (snap : ByteArray) (w : World)  (N1 : Option Addr → Int → Int → ByteArray → World → Prop) (R : Int → World → Prop)  :
    (
  Pn l fun a =>
  LdP a w fun x58 =>
  Pn x58 fun a_1 =>
  LdI .i64 (a_1.add 5) w fun x61 =>
  Bm (decide (x61 > (0 : Int))) (
    rlogm_Log_pop.Call l w fun w1 =>
    N1 l idx term snap w1) (
    Pn l fun a_2 =>
    LdP a_2 w.drew fun x68 =>
    Pn l fun a_3 =>
    LdP a_3 w.drew fun x72 =>
    Pn l fun a_4 =>
    LdP a_4 w.drew fun x76 =>
    Pn x68 fun a_5 =>
    Sts [.int .i64 idx] (a_5.add 2) 0 w.drew fun w2 =>
    Pn x72 fun a_6 =>
    Sts [.int .i64 term] (a_6.add 3) 0 w2 fun w3 =>
    Pn x76 fun a_7 =>
    Sts [.string snap] (a_7.add 4) 0 w3 fun w4 =>
    rlogm_Log_step.Call l w4 fun w5 =>
    R (0 : Int) w5)) = kstep Try.prog 88 Try.f69.results.toList (Try.f69.body.getD .skip) (rlogm_Log_Install.RV R) (kvc Try.prog 88 Try.f69.results.toList (Try.f69.body.getD .skip) (rlogm_Log_Install.RV R) [([(0, [1, 1, 1, 1, 1, 1, 0, 0, 0]), (2, [1, 1, 1, 1, 1, 1, 0, 0, 0]), (1, [0]), (0, [1, 1, 1, 1, 1, 1, 1])], fun σ w => dP (slotOf σ 0) fun l_ => dI .i64 (slotOf σ 1) fun idx_ => dI .i64 (slotOf σ 2) fun term_ => dS (slotOf σ 3) fun snap_ => N1 l_ idx_ term_ snap_ w)] 2000) [(0, [1, 1, 1, 1, 1, 1, 0, 0, 0]), (2, [1, 1, 1, 1, 1, 1, 0, 0, 0]), (1, [0]), (0, [1, 1, 1, 1, 1, 1, 1])] [(0, .pointer l), (1, .int .i64 idx), (2, .int .i64 term), (3, .string snap)] w := by kernel_rfl
theorem rlogm_Log_Install.L1b_sound {R : Int → World → Prop} {N1 : Option Addr → Int → Int → ByteArray → World → Prop} (hN1 : ∀ l idx term snap w, N1 l idx term snap w → KW Try.prog 69 88 (rlogm_Log_Install.RV R) ([(0, [1, 1, 1, 1, 1, 1, 0, 0, 0]), (2, [1, 1, 1, 1, 1, 1, 0, 0, 0]), (1, [0]), (0, [1, 1, 1, 1, 1, 1, 1])].map (toItem (Try.f69.body.getD .skip))) [(0, .pointer l), (1, .int .i64 idx), (2, .int .i64 term), (3, .string snap)] w) (l : Option Addr) (idx term : Int) (snap : ByteArray) (w : World) (h : rlogm_Log_Install.L1b l idx term snap w  N1 R) :
    KW Try.prog 69 88 (rlogm_Log_Install.RV R) ([(0, [1, 1, 1, 1, 1, 1, 0, 0, 0]), (2, [1, 1, 1, 1, 1, 1, 0, 0, 0]), (1, [0]), (0, [1, 1, 1, 1, 1, 1, 1])].map (toItem (Try.f69.body.getD .skip))) [(0, .pointer l), (1, .int .i64 idx), (2, .int .i64 term), (3, .string snap)] w := by
  exact block_spec Try.func69 Try.mixed (stops_cons (fun σ w h => by
      obtain ⟨l_, e0, h⟩ := dP_elim h
      obtain ⟨idx_, e1, h⟩ := dI_elim h
      obtain ⟨term_, e2, h⟩ := dI_elim h
      obtain ⟨snap_, e3, h⟩ := dS_elim h
      exact (hN1 l_ idx_ term_ snap_ w h).weaken (Sub.cons (Sub.cons (Sub.cons (Sub.cons (Sub.nil _) e3) e2) e1) e0)) stops_nil) (Eq.mp (rlogm_Log_Install.L1b_eq l idx term snap w  N1 R ) h)
def rlogm_Log_Install.L1 (l : Option Addr) (idx term : Int) (snap : ByteArray) (w : World)  (R : Int → World → Prop) : Prop :=
  ∃ (I : Nat → Option Addr → Int → Int → ByteArray → World → Prop) (m : Nat), I m l idx term snap w ∧ ∀ m l idx term snap w, I m l idx term snap w → rlogm_Log_Install.L1b l idx term snap w  (fun l' idx' term' snap' w' => ∃ m', m' < m ∧ I m' l' idx' term' snap' w') R
theorem rlogm_Log_Install.L1_sound {R : Int → World → Prop}  (l : Option Addr) (idx term : Int) (snap : ByteArray) (w : World) (h : rlogm_Log_Install.L1 l idx term snap w  R) :
    KW Try.prog 69 88 (rlogm_Log_Install.RV R) ([(0, [1, 1, 1, 1, 1, 1, 0, 0, 0]), (2, [1, 1, 1, 1, 1, 1, 0, 0, 0]), (1, [0]), (0, [1, 1, 1, 1, 1, 1, 1])].map (toItem (Try.f69.body.getD .skip))) [(0, .pointer l), (1, .int .i64 idx), (2, .int .i64 term), (3, .string snap)] w := by
  obtain ⟨I, m, hBase, hr⟩ := h
  refine KW.loop (fun m σ w => ∃ (l : Option Addr) (idx term : Int) (snap : ByteArray), σ = [(0, .pointer l), (1, .int .i64 idx), (2, .int .i64 term), (3, .string snap)] ∧ I m l idx term snap w) ?_ m _ w ⟨l, idx, term, snap, rfl, hBase⟩
  rintro m ih σ w ⟨l, idx, term, snap, rfl, hI⟩
  exact rlogm_Log_Install.L1b_sound  (N1 := fun l' idx' term' snap' w' => ∃ m', m' < m ∧ I m' l' idx' term' snap' w') (fun l' idx' term' snap' w' hx => by obtain ⟨m', hlt, hI'⟩ := hx; exact ih m' hlt _ w' ⟨l', idx', term', snap', rfl, hI'⟩) l idx term snap w (hr m l idx term snap w hI)
def rlogm_Log_Install.B2 (l : Option Addr) (idx term : Int) (snap : ByteArray) (t49 : Bool) (w : World)   (R : Int → World → Prop) : Prop :=
  Bm t49 (
    rlogm_Log_rebase.Call l idx term snap w fun w1 =>
    R (0 : Int) w1) (
    rlogm_Log_Install.L1 l idx term snap w  R)
theorem rlogm_Log_Install.B2_eq (l : Option Addr) (idx term : Int) (snap : ByteArray) (t49 : Bool) (w : World)   (R : Int → World → Prop) (sL1 : Option Addr → Int → Int → ByteArray → World → Prop) :
    (
  Bm t49 (
    rlogm_Log_rebase.Call l idx term snap w fun w1 =>
    R (0 : Int) w1) (
    sL1 l idx term snap w)) = kstep Try.prog 88 Try.f69.results.toList (Try.f69.body.getD .skip) (rlogm_Log_Install.RV R) (kvc Try.prog 88 Try.f69.results.toList (Try.f69.body.getD .skip) (rlogm_Log_Install.RV R) [([(0, [1, 1, 1, 1, 1, 1, 0, 0, 0]), (2, [1, 1, 1, 1, 1, 1, 0, 0, 0]), (1, [0]), (0, [1, 1, 1, 1, 1, 1, 1])], fun σ w => dP (slotOf σ 0) fun l_ => dI .i64 (slotOf σ 1) fun idx_ => dI .i64 (slotOf σ 2) fun term_ => dS (slotOf σ 3) fun snap_ => sL1 l_ idx_ term_ snap_ w)] 2000) [(0, [1, 1, 1, 1, 1, 0, 1]), (0, [1, 1, 1, 1, 1, 1])] [(0, .pointer l), (1, .int .i64 idx), (2, .int .i64 term), (3, .string snap), (49, .bool t49)] w := by kernel_rfl
theorem rlogm_Log_Install.B2_sound {R : Int → World → Prop}  (l : Option Addr) (idx term : Int) (snap : ByteArray) (t49 : Bool) (w : World) (h : rlogm_Log_Install.B2 l idx term snap t49 w   R) :
    KW Try.prog 69 88 (rlogm_Log_Install.RV R) ([(0, [1, 1, 1, 1, 1, 0, 1]), (0, [1, 1, 1, 1, 1, 1])].map (toItem (Try.f69.body.getD .skip))) [(0, .pointer l), (1, .int .i64 idx), (2, .int .i64 term), (3, .string snap), (49, .bool t49)] w := by
  exact block_spec Try.func69 Try.mixed (stops_cons (fun σ w h => by
      obtain ⟨l_, e0, h⟩ := dP_elim h
      obtain ⟨idx_, e1, h⟩ := dI_elim h
      obtain ⟨term_, e2, h⟩ := dI_elim h
      obtain ⟨snap_, e3, h⟩ := dS_elim h
      exact (rlogm_Log_Install.L1_sound  l_ idx_ term_ snap_ w h).weaken (Sub.cons (Sub.cons (Sub.cons (Sub.cons (Sub.nil _) e3) e2) e1) e0)) stops_nil) (Eq.mp (rlogm_Log_Install.B2_eq l idx term snap t49 w   R (fun l_ idx_ term_ snap_ w => rlogm_Log_Install.L1 l_ idx_ term_ snap_ w  R)) h)
def rlogm_Log_Install.B1 (l : Option Addr) (idx term : Int) (snap : ByteArray) (t24 : Bool) (w : World)   (R : Int → World → Prop) : Prop :=
  Bm t24 (
    R (1 : Int) w) (
    Bm (decide (((snap.size : Nat) : Int) > (128 : Int))) (
      R (5 : Int) w) (
      Pn l fun a =>
      LdP a w fun x32 =>
      Pn x32 fun a_1 =>
      LdI .i64 (a_1.add 2) w fun x35 =>
      Bm (decide (idx ≤ x35)) (
        R (7 : Int) w) (
        rlogm_Log_TermAt.Call l idx w fun r40_0 r40_1 w1 =>
        Bm (r40_1 == (0 : Int)) (
          rlogm_Log_Install.B2 l idx term snap (r40_0 == term) w1  R) (
          rlogm_Log_Install.B2 l idx term snap false w1  R))))
theorem rlogm_Log_Install.B1_eq (l : Option Addr) (idx term : Int) (snap : ByteArray) (t24 : Bool) (w : World)   (R : Int → World → Prop) (sB2 : Option Addr → Int → Int → ByteArray → Bool → World → Prop) :
    (
  Bm t24 (
    R (1 : Int) w) (
    Bm (decide (((snap.size : Nat) : Int) > (128 : Int))) (
      R (5 : Int) w) (
      Pn l fun a =>
      LdP a w fun x32 =>
      Pn x32 fun a_1 =>
      LdI .i64 (a_1.add 2) w fun x35 =>
      Bm (decide (idx ≤ x35)) (
        R (7 : Int) w) (
        rlogm_Log_TermAt.Call l idx w fun r40_0 r40_1 w1 =>
        Bm (r40_1 == (0 : Int)) (
          sB2 l idx term snap (r40_0 == term) w1) (
          sB2 l idx term snap false w1))))) = kstep Try.prog 88 Try.f69.results.toList (Try.f69.body.getD .skip) (rlogm_Log_Install.RV R) (kvc Try.prog 88 Try.f69.results.toList (Try.f69.body.getD .skip) (rlogm_Log_Install.RV R) [([(0, [1, 1, 1, 1, 1, 0, 1]), (0, [1, 1, 1, 1, 1, 1])], fun σ w => dP (slotOf σ 0) fun l_ => dI .i64 (slotOf σ 1) fun idx_ => dI .i64 (slotOf σ 2) fun term_ => dS (slotOf σ 3) fun snap_ => dB (slotOf σ 49) fun t49_ => sB2 l_ idx_ term_ snap_ t49_ w)] 2000) [(0, [1, 0, 1]), (0, [1, 1])] [(0, .pointer l), (1, .int .i64 idx), (2, .int .i64 term), (3, .string snap), (24, .bool t24)] w := by kernel_rfl
theorem rlogm_Log_Install.B1_sound {R : Int → World → Prop}  (l : Option Addr) (idx term : Int) (snap : ByteArray) (t24 : Bool) (w : World) (h : rlogm_Log_Install.B1 l idx term snap t24 w   R) :
    KW Try.prog 69 88 (rlogm_Log_Install.RV R) ([(0, [1, 0, 1]), (0, [1, 1])].map (toItem (Try.f69.body.getD .skip))) [(0, .pointer l), (1, .int .i64 idx), (2, .int .i64 term), (3, .string snap), (24, .bool t24)] w := by
  exact block_spec Try.func69 Try.mixed (stops_cons (fun σ w h => by
      obtain ⟨l_, e0, h⟩ := dP_elim h
      obtain ⟨idx_, e1, h⟩ := dI_elim h
      obtain ⟨term_, e2, h⟩ := dI_elim h
      obtain ⟨snap_, e3, h⟩ := dS_elim h
      obtain ⟨t49_, e4, h⟩ := dB_elim h
      exact (rlogm_Log_Install.B2_sound  l_ idx_ term_ snap_ t49_ w h).weaken (Sub.cons (Sub.cons (Sub.cons (Sub.cons (Sub.cons (Sub.nil _) e4) e3) e2) e1) e0)) stops_nil) (Eq.mp (rlogm_Log_Install.B1_eq l idx term snap t24 w   R (fun l_ idx_ term_ snap_ t49_ w => rlogm_Log_Install.B2 l_ idx_ term_ snap_ t49_ w  R)) h)
def rlogm_Log_Install.B0 (l : Option Addr) (idx term : Int) (snap : ByteArray) (w : World)   (R : Int → World → Prop) : Prop :=
  Bm (decide (idx < (0 : Int))) (
    rlogm_Log_Install.B1 l idx term snap true w  R) (
    Bm (decide (idx > (72057594037927936 : Int))) (
      rlogm_Log_Install.B1 l idx term snap true w  R) (
      Bm (decide (term < (0 : Int))) (
        rlogm_Log_Install.B1 l idx term snap true w  R) (
        rlogm_Log_Install.B1 l idx term snap (decide (term > (72057594037927936 : Int))) w  R)))
theorem rlogm_Log_Install.B0_eq (l : Option Addr) (idx term : Int) (snap : ByteArray) (w : World)   (R : Int → World → Prop) (sB1 : Option Addr → Int → Int → ByteArray → Bool → World → Prop) :
    (
  Bm (decide (idx < (0 : Int))) (
    sB1 l idx term snap true w) (
    Bm (decide (idx > (72057594037927936 : Int))) (
      sB1 l idx term snap true w) (
      Bm (decide (term < (0 : Int))) (
        sB1 l idx term snap true w) (
        sB1 l idx term snap (decide (term > (72057594037927936 : Int))) w)))) = kstep Try.prog 88 Try.f69.results.toList (Try.f69.body.getD .skip) (rlogm_Log_Install.RV R) (kvc Try.prog 88 Try.f69.results.toList (Try.f69.body.getD .skip) (rlogm_Log_Install.RV R) [([(0, [1, 0, 1]), (0, [1, 1])], fun σ w => dP (slotOf σ 0) fun l_ => dI .i64 (slotOf σ 1) fun idx_ => dI .i64 (slotOf σ 2) fun term_ => dS (slotOf σ 3) fun snap_ => dB (slotOf σ 24) fun t24_ => sB1 l_ idx_ term_ snap_ t24_ w)] 2000) [(0, [])] [(0, .pointer l), (1, .int .i64 idx), (2, .int .i64 term), (3, .string snap)] w := by kernel_rfl
theorem rlogm_Log_Install.B0_sound {R : Int → World → Prop}  (l : Option Addr) (idx term : Int) (snap : ByteArray) (w : World) (h : rlogm_Log_Install.B0 l idx term snap w   R) :
    KW Try.prog 69 88 (rlogm_Log_Install.RV R) ([(0, [])].map (toItem (Try.f69.body.getD .skip))) [(0, .pointer l), (1, .int .i64 idx), (2, .int .i64 term), (3, .string snap)] w := by
  exact block_spec Try.func69 Try.mixed (stops_cons (fun σ w h => by
      obtain ⟨l_, e0, h⟩ := dP_elim h
      obtain ⟨idx_, e1, h⟩ := dI_elim h
      obtain ⟨term_, e2, h⟩ := dI_elim h
      obtain ⟨snap_, e3, h⟩ := dS_elim h
      obtain ⟨t24_, e4, h⟩ := dB_elim h
      exact (rlogm_Log_Install.B1_sound  l_ idx_ term_ snap_ t24_ w h).weaken (Sub.cons (Sub.cons (Sub.cons (Sub.cons (Sub.cons (Sub.nil _) e4) e3) e2) e1) e0)) stops_nil) (Eq.mp (rlogm_Log_Install.B0_eq l idx term snap w   R (fun l_ idx_ term_ snap_ t24_ w => rlogm_Log_Install.B1 l_ idx_ term_ snap_ t24_ w  R)) h)
theorem rlogm_Log_Install.sound (l : Option Addr) (idx term : Int) (snap : ByteArray) (w : World) (R : Int → World → Prop) (h : rlogm_Log_Install.B0 l idx term snap w R) : rlogm_Log_Install.Call l idx term snap w R := by
  have hc := calls_of_block (args := #[.pointer l, .int .i64 idx, .int .i64 term, .string snap]) Try.func69 (body := (Try.f69.body.getD .skip)) (by kernel_rfl) (by kernel_rfl) (args_slot _) (rlogm_Log_Install.B0_sound l idx term snap w h)
  exact hc.mono fun e w' he => by
    obtain ⟨v, rfl, hv⟩ := he
    exact rlogm_Log_Install.RV_elim hv
def rlog_Log_At.B0 (l : Option Addr) (i : Int) (w : World)   (R : Int → ByteArray → Int → World → Prop) : Prop :=
  New (.cells #[.int .i64 (0 : Int), .string (ByteArray.mk #[])] 54) w fun b4 w1 =>
  Pn l fun a =>
  LdI .i64 (a.add 3) w1 fun x11 =>
  Bm (decide (i ≤ x11)) (
    Sts [.int .i64 (0 : Int), .string (ByteArray.mk #[])] ⟨b4, 0, none⟩ 0 w1 fun w2 =>
    LdI .i64 ⟨b4, 0, none⟩ w2 fun r_0 =>
    LdS ⟨b4, 1, none⟩ w2 fun r_1 =>
    R r_0 r_1 (7 : Int) w2) (
    Pn l fun a_1 =>
    LdI .i64 (a_1.add 6) w1 fun x18 =>
    Bm (decide (i > x18)) (
      Sts [.int .i64 (0 : Int), .string (ByteArray.mk #[])] ⟨b4, 0, none⟩ 0 w1 fun w3 =>
      LdI .i64 ⟨b4, 0, none⟩ w3 fun r_0_1 =>
      LdS ⟨b4, 1, none⟩ w3 fun r_1_1 =>
      R r_0_1 r_1_1 (2 : Int) w3) (
      rlog_slotOf.Call i w1 fun r22 w4 =>
      Pn l fun a_2 =>
      (0 ≤ r22 ∧ r22 < ((6 : Nat) : Int)) ∧
      LdI .i64 (Addr.add (a_2.add 7) (r22.toNat * 1)) w4.drew fun x28 =>
      Pn l fun a_3 =>
      (0 ≤ r22 ∧ r22 < ((6 : Nat) : Int)) ∧
      LdS (Addr.add (a_3.add 13) (r22.toNat * 1)) w4.drew fun x34 =>
      Sts [.int .i64 x28, .string x34] ⟨b4, 0, none⟩ 0 w4.drew fun w5 =>
      LdI .i64 ⟨b4, 0, none⟩ w5 fun r_0_2 =>
      LdS ⟨b4, 1, none⟩ w5 fun r_1_2 =>
      R r_0_2 r_1_2 (0 : Int) w5))
theorem rlog_Log_At.B0_eq (l : Option Addr) (i : Int) (w : World)   (R : Int → ByteArray → Int → World → Prop)  :
    (
  New (.cells #[.int .i64 (0 : Int), .string (ByteArray.mk #[])] 54) w fun b4 w1 =>
  Pn l fun a =>
  LdI .i64 (a.add 3) w1 fun x11 =>
  Bm (decide (i ≤ x11)) (
    Sts [.int .i64 (0 : Int), .string (ByteArray.mk #[])] ⟨b4, 0, none⟩ 0 w1 fun w2 =>
    LdI .i64 ⟨b4, 0, none⟩ w2 fun r_0 =>
    LdS ⟨b4, 1, none⟩ w2 fun r_1 =>
    R r_0 r_1 (7 : Int) w2) (
    Pn l fun a_1 =>
    LdI .i64 (a_1.add 6) w1 fun x18 =>
    Bm (decide (i > x18)) (
      Sts [.int .i64 (0 : Int), .string (ByteArray.mk #[])] ⟨b4, 0, none⟩ 0 w1 fun w3 =>
      LdI .i64 ⟨b4, 0, none⟩ w3 fun r_0_1 =>
      LdS ⟨b4, 1, none⟩ w3 fun r_1_1 =>
      R r_0_1 r_1_1 (2 : Int) w3) (
      rlog_slotOf.Call i w1 fun r22 w4 =>
      Pn l fun a_2 =>
      (0 ≤ r22 ∧ r22 < ((6 : Nat) : Int)) ∧
      LdI .i64 (Addr.add (a_2.add 7) (r22.toNat * 1)) w4.drew fun x28 =>
      Pn l fun a_3 =>
      (0 ≤ r22 ∧ r22 < ((6 : Nat) : Int)) ∧
      LdS (Addr.add (a_3.add 13) (r22.toNat * 1)) w4.drew fun x34 =>
      Sts [.int .i64 x28, .string x34] ⟨b4, 0, none⟩ 0 w4.drew fun w5 =>
      LdI .i64 ⟨b4, 0, none⟩ w5 fun r_0_2 =>
      LdS ⟨b4, 1, none⟩ w5 fun r_1_2 =>
      R r_0_2 r_1_2 (0 : Int) w5))) = kstep Try.prog 36 Try.f70.results.toList (Try.f70.body.getD .skip) (rlog_Log_At.RV R) (kvc Try.prog 36 Try.f70.results.toList (Try.f70.body.getD .skip) (rlog_Log_At.RV R) [] 2000) [(0, [])] [(0, .pointer l), (1, .int .i64 i)] w := by kernel_rfl
theorem rlog_Log_At.B0_sound {R : Int → ByteArray → Int → World → Prop}  (l : Option Addr) (i : Int) (w : World) (h : rlog_Log_At.B0 l i w   R) :
    KW Try.prog 70 36 (rlog_Log_At.RV R) ([(0, [])].map (toItem (Try.f70.body.getD .skip))) [(0, .pointer l), (1, .int .i64 i)] w := by
  exact block_spec Try.func70 Try.mixed stops_nil (Eq.mp (rlog_Log_At.B0_eq l i w   R ) h)
theorem rlog_Log_At.sound (l : Option Addr) (i : Int) (w : World) (R : Int → ByteArray → Int → World → Prop) (h : rlog_Log_At.B0 l i w R) : rlog_Log_At.Call l i w R := by
  have hc := calls_of_block (args := #[.pointer l, .int .i64 i]) Try.func70 (body := (Try.f70.body.getD .skip)) (by kernel_rfl) (by kernel_rfl) (args_slot _) (rlog_Log_At.B0_sound l i w h)
  exact hc.mono fun e w' he => by
    obtain ⟨v, rfl, hv⟩ := he
    exact rlog_Log_At.RV_elim hv
end Go.Proofs.Qxb6500431a
