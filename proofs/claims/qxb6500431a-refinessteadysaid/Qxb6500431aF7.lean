import Derived.Test.Qxb6500431aSig
set_option maxRecDepth 100000
set_option linter.unusedVariables false
open Go.Vc
namespace Go.Proofs.Qxb6500431a
def rlogm_Log_pop.B0 (l : Option Addr) (w : World)   (R : World → Prop) : Prop :=
  Pn l fun a =>
  LdP a w fun x5 =>
  Pn x5 fun a_1 =>
  LdI .i64 (a_1.add 5) w fun x8 =>
  Pn x5 fun a_2 =>
  Sts [.int .i64 (IntKind.i64.wrap (x8 - (1 : Int)))] (a_2.add 5) 0 w fun w1 =>
  Pn l fun a_3 =>
  LdP a_3 w1.drew fun x15 =>
  Pn l fun a_4 =>
  LdP a_4 w1.drew fun x19 =>
  Pn x19 fun a_5 =>
  LdI .i64 (a_5.add 5) w1.drew fun x22 =>
  Pn x15 fun a_6 =>
  (0 ≤ x22 ∧ x22 < ((6 : Nat) : Int)) ∧
  Sts [.int .i64 (0 : Int), .string (ByteArray.mk #[])] (Addr.add (a_6.add 6) (x22.toNat * 2)) 0 w1.drew fun w2 =>
  rlogm_Log_step.Call l w2 fun w3 =>
  R  w3
theorem rlogm_Log_pop.B0_eq (l : Option Addr) (w : World)   (R : World → Prop)  :
    (
  Pn l fun a =>
  LdP a w fun x5 =>
  Pn x5 fun a_1 =>
  LdI .i64 (a_1.add 5) w fun x8 =>
  Pn x5 fun a_2 =>
  Sts [.int .i64 (IntKind.i64.wrap (x8 - (1 : Int)))] (a_2.add 5) 0 w fun w1 =>
  Pn l fun a_3 =>
  LdP a_3 w1.drew fun x15 =>
  Pn l fun a_4 =>
  LdP a_4 w1.drew fun x19 =>
  Pn x19 fun a_5 =>
  LdI .i64 (a_5.add 5) w1.drew fun x22 =>
  Pn x15 fun a_6 =>
  (0 ≤ x22 ∧ x22 < ((6 : Nat) : Int)) ∧
  Sts [.int .i64 (0 : Int), .string (ByteArray.mk #[])] (Addr.add (a_6.add 6) (x22.toNat * 2)) 0 w1.drew fun w2 =>
  rlogm_Log_step.Call l w2 fun w3 =>
  R  w3) = kstep Try.prog 29 Try.f92.results.toList (Try.f92.body.getD .skip) (rlogm_Log_pop.RV R) (kvc Try.prog 29 Try.f92.results.toList (Try.f92.body.getD .skip) (rlogm_Log_pop.RV R) [] 2000) [(0, [])] [(0, .pointer l)] w := by kernel_rfl
theorem rlogm_Log_pop.B0_sound {R : World → Prop}  (l : Option Addr) (w : World) (h : rlogm_Log_pop.B0 l w   R) :
    KW Try.prog 92 29 (rlogm_Log_pop.RV R) ([(0, [])].map (toItem (Try.f92.body.getD .skip))) [(0, .pointer l)] w := by
  exact block_spec Try.func92 Try.mixed stops_nil (Eq.mp (rlogm_Log_pop.B0_eq l w   R ) h)
theorem rlogm_Log_pop.sound (l : Option Addr) (w : World) (R : World → Prop) (h : rlogm_Log_pop.B0 l w R) : rlogm_Log_pop.Call l w R := by
  have hc := calls_of_block (args := #[.pointer l]) Try.func92 (body := (Try.f92.body.getD .skip)) (by kernel_rfl) (by kernel_rfl) (args_slot _) (rlogm_Log_pop.B0_sound l w h)
  exact hc.mono fun e w' he => by
    obtain ⟨v, rfl, hv⟩ := he
    exact rlogm_Log_pop.RV_elim hv
def rlog_Log_rebase.L1b (l : Option Addr) (idx i : Int) (w : World)  (N1 : Option Addr → Int → Int → World → Prop) (R : Int → World → Prop) : Prop :=
  Bm (decide (i ≤ idx)) (
    rlog_slotOf.Call i w fun r48 w1 =>
    Pn l fun a =>
    LdP a w1 fun x52 =>
    store_Store_DelRec.Call x52 r48 w1 fun r54 w2 =>
    Bm (r54 != (0 : Int)) (
      R r54 w2) (
      N1 l idx (IntKind.i64.wrap (i + (1 : Int))) w2)) (
    R (0 : Int) w)
theorem rlog_Log_rebase.L1b_eq (l : Option Addr) (idx i : Int) (w : World)  (N1 : Option Addr → Int → Int → World → Prop) (R : Int → World → Prop)  :
    (
  Bm (decide (i ≤ idx)) (
    rlog_slotOf.Call i w fun r48 w1 =>
    Pn l fun a =>
    LdP a w1 fun x52 =>
    store_Store_DelRec.Call x52 r48 w1 fun r54 w2 =>
    Bm (r54 != (0 : Int)) (
      R r54 w2) (
      N1 l idx (IntKind.i64.wrap (i + (1 : Int))) w2)) (
    R (0 : Int) w)) = kstep Try.prog 58 Try.f93.results.toList (Try.f93.body.getD .skip) (rlog_Log_rebase.RV R) (kvc Try.prog 58 Try.f93.results.toList (Try.f93.body.getD .skip) (rlog_Log_rebase.RV R) [([(0, [1, 1, 1, 1, 1, 0, 1, 0, 0]), (2, [1, 1, 1, 1, 1, 0, 1, 0, 0]), (1, [0]), (0, [1, 1, 1, 1, 1, 1])], fun σ w => dP (slotOf σ 0) fun l_ => dI .i64 (slotOf σ 1) fun idx_ => dI .i64 (slotOf σ 11) fun i_ => N1 l_ idx_ i_ w)] 2000) [(0, [1, 1, 1, 1, 1, 0, 1, 0, 0]), (2, [1, 1, 1, 1, 1, 0, 1, 0, 0]), (1, [0]), (0, [1, 1, 1, 1, 1, 1])] [(0, .pointer l), (1, .int .i64 idx), (11, .int .i64 i)] w := by kernel_rfl
theorem rlog_Log_rebase.L1b_sound {R : Int → World → Prop} {N1 : Option Addr → Int → Int → World → Prop} (hN1 : ∀ l idx i w, N1 l idx i w → KW Try.prog 93 58 (rlog_Log_rebase.RV R) ([(0, [1, 1, 1, 1, 1, 0, 1, 0, 0]), (2, [1, 1, 1, 1, 1, 0, 1, 0, 0]), (1, [0]), (0, [1, 1, 1, 1, 1, 1])].map (toItem (Try.f93.body.getD .skip))) [(0, .pointer l), (1, .int .i64 idx), (11, .int .i64 i)] w) (l : Option Addr) (idx i : Int) (w : World) (h : rlog_Log_rebase.L1b l idx i w  N1 R) :
    KW Try.prog 93 58 (rlog_Log_rebase.RV R) ([(0, [1, 1, 1, 1, 1, 0, 1, 0, 0]), (2, [1, 1, 1, 1, 1, 0, 1, 0, 0]), (1, [0]), (0, [1, 1, 1, 1, 1, 1])].map (toItem (Try.f93.body.getD .skip))) [(0, .pointer l), (1, .int .i64 idx), (11, .int .i64 i)] w := by
  exact block_spec Try.func93 Try.mixed (stops_cons (fun σ w h => by
      obtain ⟨l_, e0, h⟩ := dP_elim h
      obtain ⟨idx_, e1, h⟩ := dI_elim h
      obtain ⟨i_, e2, h⟩ := dI_elim h
      exact (hN1 l_ idx_ i_ w h).weaken (Sub.cons (Sub.cons (Sub.cons (Sub.nil _) e2) e1) e0)) stops_nil) (Eq.mp (rlog_Log_rebase.L1b_eq l idx i w  N1 R ) h)
def rlog_Log_rebase.L1 (l : Option Addr) (idx i : Int) (w : World)  (R : Int → World → Prop) : Prop :=
  ∃ (I : Nat → Option Addr → Int → Int → World → Prop) (m : Nat), I m l idx i w ∧ ∀ m l idx i w, I m l idx i w → rlog_Log_rebase.L1b l idx i w  (fun l' idx' i' w' => ∃ m', m' < m ∧ I m' l' idx' i' w') R
theorem rlog_Log_rebase.L1_sound {R : Int → World → Prop}  (l : Option Addr) (idx i : Int) (w : World) (h : rlog_Log_rebase.L1 l idx i w  R) :
    KW Try.prog 93 58 (rlog_Log_rebase.RV R) ([(0, [1, 1, 1, 1, 1, 0, 1, 0, 0]), (2, [1, 1, 1, 1, 1, 0, 1, 0, 0]), (1, [0]), (0, [1, 1, 1, 1, 1, 1])].map (toItem (Try.f93.body.getD .skip))) [(0, .pointer l), (1, .int .i64 idx), (11, .int .i64 i)] w := by
  obtain ⟨I, m, hBase, hr⟩ := h
  refine KW.loop (fun m σ w => ∃ (l : Option Addr) (idx i : Int), σ = [(0, .pointer l), (1, .int .i64 idx), (11, .int .i64 i)] ∧ I m l idx i w) ?_ m _ w ⟨l, idx, i, rfl, hBase⟩
  rintro m ih σ w ⟨l, idx, i, rfl, hI⟩
  exact rlog_Log_rebase.L1b_sound  (N1 := fun l' idx' i' w' => ∃ m', m' < m ∧ I m' l' idx' i' w') (fun l' idx' i' w' hx => by obtain ⟨m', hlt, hI'⟩ := hx; exact ih m' hlt _ w' ⟨l', idx', i', rfl, hI'⟩) l idx i w (hr m l idx i w hI)
def rlog_Log_rebase.B0 (l : Option Addr) (idx term : Int) (snap : ByteArray) (w : World)   (R : Int → World → Prop) : Prop :=
  Pn l fun a =>
  LdP a w fun x16 =>
  store_Store_SetSnap.Call x16 idx term snap w fun r20 w1 =>
  Bm (r20 != (0 : Int)) (
    R r20 w1) (
    Pn l fun a_1 =>
    LdI .i64 (a_1.add 3) w1 fun x27 =>
    Pn l fun a_2 =>
    Sts [.int .i64 idx] (a_2.add 3) 0 w1 fun w2 =>
    Pn l fun a_3 =>
    Sts [.int .i64 term] (a_3.add 4) 0 w2 fun w3 =>
    Pn l fun a_4 =>
    Sts [.string snap] (a_4.add 5) 0 w3 fun w4 =>
    rlog_Log_rebase.L1 l idx (IntKind.i64.wrap (x27 + (1 : Int))) w4  R)
theorem rlog_Log_rebase.B0_eq (l : Option Addr) (idx term : Int) (snap : ByteArray) (w : World)   (R : Int → World → Prop) (sL1 : Option Addr → Int → Int → World → Prop) :
    (
  Pn l fun a =>
  LdP a w fun x16 =>
  store_Store_SetSnap.Call x16 idx term snap w fun r20 w1 =>
  Bm (r20 != (0 : Int)) (
    R r20 w1) (
    Pn l fun a_1 =>
    LdI .i64 (a_1.add 3) w1 fun x27 =>
    Pn l fun a_2 =>
    Sts [.int .i64 idx] (a_2.add 3) 0 w1 fun w2 =>
    Pn l fun a_3 =>
    Sts [.int .i64 term] (a_3.add 4) 0 w2 fun w3 =>
    Pn l fun a_4 =>
    Sts [.string snap] (a_4.add 5) 0 w3 fun w4 =>
    sL1 l idx (IntKind.i64.wrap (x27 + (1 : Int))) w4)) = kstep Try.prog 58 Try.f93.results.toList (Try.f93.body.getD .skip) (rlog_Log_rebase.RV R) (kvc Try.prog 58 Try.f93.results.toList (Try.f93.body.getD .skip) (rlog_Log_rebase.RV R) [([(0, [1, 1, 1, 1, 1, 0, 1, 0, 0]), (2, [1, 1, 1, 1, 1, 0, 1, 0, 0]), (1, [0]), (0, [1, 1, 1, 1, 1, 1])], fun σ w => dP (slotOf σ 0) fun l_ => dI .i64 (slotOf σ 1) fun idx_ => dI .i64 (slotOf σ 11) fun i_ => sL1 l_ idx_ i_ w)] 2000) [(0, [])] [(0, .pointer l), (1, .int .i64 idx), (2, .int .i64 term), (3, .string snap)] w := by kernel_rfl
theorem rlog_Log_rebase.B0_sound {R : Int → World → Prop}  (l : Option Addr) (idx term : Int) (snap : ByteArray) (w : World) (h : rlog_Log_rebase.B0 l idx term snap w   R) :
    KW Try.prog 93 58 (rlog_Log_rebase.RV R) ([(0, [])].map (toItem (Try.f93.body.getD .skip))) [(0, .pointer l), (1, .int .i64 idx), (2, .int .i64 term), (3, .string snap)] w := by
  exact block_spec Try.func93 Try.mixed (stops_cons (fun σ w h => by
      obtain ⟨l_, e0, h⟩ := dP_elim h
      obtain ⟨idx_, e1, h⟩ := dI_elim h
      obtain ⟨i_, e2, h⟩ := dI_elim h
      exact (rlog_Log_rebase.L1_sound  l_ idx_ i_ w h).weaken (Sub.cons (Sub.cons (Sub.cons (Sub.nil _) e2) e1) e0)) stops_nil) (Eq.mp (rlog_Log_rebase.B0_eq l idx term snap w   R (fun l_ idx_ i_ w => rlog_Log_rebase.L1 l_ idx_ i_ w  R)) h)
theorem rlog_Log_rebase.sound (l : Option Addr) (idx term : Int) (snap : ByteArray) (w : World) (R : Int → World → Prop) (h : rlog_Log_rebase.B0 l idx term snap w R) : rlog_Log_rebase.Call l idx term snap w R := by
  have hc := calls_of_block (args := #[.pointer l, .int .i64 idx, .int .i64 term, .string snap]) Try.func93 (body := (Try.f93.body.getD .skip)) (by kernel_rfl) (by kernel_rfl) (args_slot _) (rlog_Log_rebase.B0_sound l idx term snap w h)
  exact hc.mono fun e w' he => by
    obtain ⟨v, rfl, hv⟩ := he
    exact rlog_Log_rebase.RV_elim hv
def rlogm_Log_rebase.L1b (l : Option Addr) (idx term : Int) (snap : ByteArray) (k : Int) (e : Nat) (j : Int) (w : World)  (N1 : Option Addr → Int → Int → ByteArray → Int → Nat → Int → World → Prop) (R : World → Prop) : Prop :=
  Pn l fun a =>
  LdP a w fun x25 =>
  Pn x25 fun a_1 =>
  LdI .i64 (a_1.add 5) w fun x28 =>
  Bm (decide (j < x28)) (
    Pn l fun a_2 =>
    LdP a_2 w fun x38 =>
    Pn x38 fun a_3 =>
    (0 ≤ j ∧ j < ((6 : Nat) : Int)) ∧
    LdI .i64 (Addr.add (a_3.add 6) (j.toNat * 2)) w fun x43_0 =>
    LdS ((Addr.add (a_3.add 6) (j.toNat * 2)).add 1) w fun x43_1 =>
    (0 ≤ (IntKind.i64.wrap (j - k)) ∧ (IntKind.i64.wrap (j - k)) < ((6 : Nat) : Int)) ∧
    Sts [.int .i64 x43_0, .string x43_1] (Addr.add ⟨e, 0, none⟩ ((IntKind.i64.wrap (j - k)).toNat * 2)) 0 w fun w1 =>
    N1 l idx term snap k e (IntKind.i64.wrap (j + (1 : Int))) w1) (
    Pn l fun a_4 =>
    LdP a_4 w.drew fun x48 =>
    Pn l fun a_5 =>
    LdP a_5 w.drew fun x52 =>
    LdI .i64 ⟨e, 0, none⟩ w.drew fun x53_0 =>
    LdS ⟨e, 1, none⟩ w.drew fun x53_1 =>
    LdI .i64 ⟨e, 2, none⟩ w.drew fun x53_2 =>
    LdS ⟨e, 3, none⟩ w.drew fun x53_3 =>
    LdI .i64 ⟨e, 4, none⟩ w.drew fun x53_4 =>
    LdS ⟨e, 5, none⟩ w.drew fun x53_5 =>
    LdI .i64 ⟨e, 6, none⟩ w.drew fun x53_6 =>
    LdS ⟨e, 7, none⟩ w.drew fun x53_7 =>
    LdI .i64 ⟨e, 8, none⟩ w.drew fun x53_8 =>
    LdS ⟨e, 9, none⟩ w.drew fun x53_9 =>
    LdI .i64 ⟨e, 10, none⟩ w.drew fun x53_10 =>
    LdS ⟨e, 11, none⟩ w.drew fun x53_11 =>
    Pn l fun a_6 =>
    LdP a_6 w.drew fun x57 =>
    Pn x57 fun a_7 =>
    LdI .i64 (a_7.add 5) w.drew fun x60 =>
    Pn x48 fun a_8 =>
    Sts [.int .i64 x53_0, .string x53_1, .int .i64 x53_2, .string x53_3, .int .i64 x53_4, .string x53_5, .int .i64 x53_6, .string x53_7, .int .i64 x53_8, .string x53_9, .int .i64 x53_10, .string x53_11] (a_8.add 6) 0 w.drew fun w2 =>
    Pn x52 fun a_9 =>
    Sts [.int .i64 (IntKind.i64.wrap (x60 - k))] (a_9.add 5) 0 w2 fun w3 =>
    Pn l fun a_10 =>
    LdP a_10 w3.drew fun x70 =>
    Pn l fun a_11 =>
    LdP a_11 w3.drew fun x74 =>
    Pn l fun a_12 =>
    LdP a_12 w3.drew fun x78 =>
    Pn x70 fun a_13 =>
    Sts [.int .i64 idx] (a_13.add 2) 0 w3.drew fun w4 =>
    Pn x74 fun a_14 =>
    Sts [.int .i64 term] (a_14.add 3) 0 w4 fun w5 =>
    Pn x78 fun a_15 =>
    Sts [.string snap] (a_15.add 4) 0 w5 fun w6 =>
    rlogm_Log_step.Call l w6 fun w7 =>
    R  w7)
theorem rlogm_Log_rebase.L1b_eq (l : Option Addr) (idx term : Int) (snap : ByteArray) (k : Int) (e : Nat) (j : Int) (w : World)  (N1 : Option Addr → Int → Int → ByteArray → Int → Nat → Int → World → Prop) (R : World → Prop)  :
    (
  Pn l fun a =>
  LdP a w fun x25 =>
  Pn x25 fun a_1 =>
  LdI .i64 (a_1.add 5) w fun x28 =>
  Bm (decide (j < x28)) (
    Pn l fun a_2 =>
    LdP a_2 w fun x38 =>
    Pn x38 fun a_3 =>
    (0 ≤ j ∧ j < ((6 : Nat) : Int)) ∧
    LdI .i64 (Addr.add (a_3.add 6) (j.toNat * 2)) w fun x43_0 =>
    LdS ((Addr.add (a_3.add 6) (j.toNat * 2)).add 1) w fun x43_1 =>
    (0 ≤ (IntKind.i64.wrap (j - k)) ∧ (IntKind.i64.wrap (j - k)) < ((6 : Nat) : Int)) ∧
    Sts [.int .i64 x43_0, .string x43_1] (Addr.add ⟨e, 0, none⟩ ((IntKind.i64.wrap (j - k)).toNat * 2)) 0 w fun w1 =>
    N1 l idx term snap k e (IntKind.i64.wrap (j + (1 : Int))) w1) (
    Pn l fun a_4 =>
    LdP a_4 w.drew fun x48 =>
    Pn l fun a_5 =>
    LdP a_5 w.drew fun x52 =>
    LdI .i64 ⟨e, 0, none⟩ w.drew fun x53_0 =>
    LdS ⟨e, 1, none⟩ w.drew fun x53_1 =>
    LdI .i64 ⟨e, 2, none⟩ w.drew fun x53_2 =>
    LdS ⟨e, 3, none⟩ w.drew fun x53_3 =>
    LdI .i64 ⟨e, 4, none⟩ w.drew fun x53_4 =>
    LdS ⟨e, 5, none⟩ w.drew fun x53_5 =>
    LdI .i64 ⟨e, 6, none⟩ w.drew fun x53_6 =>
    LdS ⟨e, 7, none⟩ w.drew fun x53_7 =>
    LdI .i64 ⟨e, 8, none⟩ w.drew fun x53_8 =>
    LdS ⟨e, 9, none⟩ w.drew fun x53_9 =>
    LdI .i64 ⟨e, 10, none⟩ w.drew fun x53_10 =>
    LdS ⟨e, 11, none⟩ w.drew fun x53_11 =>
    Pn l fun a_6 =>
    LdP a_6 w.drew fun x57 =>
    Pn x57 fun a_7 =>
    LdI .i64 (a_7.add 5) w.drew fun x60 =>
    Pn x48 fun a_8 =>
    Sts [.int .i64 x53_0, .string x53_1, .int .i64 x53_2, .string x53_3, .int .i64 x53_4, .string x53_5, .int .i64 x53_6, .string x53_7, .int .i64 x53_8, .string x53_9, .int .i64 x53_10, .string x53_11] (a_8.add 6) 0 w.drew fun w2 =>
    Pn x52 fun a_9 =>
    Sts [.int .i64 (IntKind.i64.wrap (x60 - k))] (a_9.add 5) 0 w2 fun w3 =>
    Pn l fun a_10 =>
    LdP a_10 w3.drew fun x70 =>
    Pn l fun a_11 =>
    LdP a_11 w3.drew fun x74 =>
    Pn l fun a_12 =>
    LdP a_12 w3.drew fun x78 =>
    Pn x70 fun a_13 =>
    Sts [.int .i64 idx] (a_13.add 2) 0 w3.drew fun w4 =>
    Pn x74 fun a_14 =>
    Sts [.int .i64 term] (a_14.add 3) 0 w4 fun w5 =>
    Pn x78 fun a_15 =>
    Sts [.string snap] (a_15.add 4) 0 w5 fun w6 =>
    rlogm_Log_step.Call l w6 fun w7 =>
    R  w7)) = kstep Try.prog 90 Try.f94.results.toList (Try.f94.body.getD .skip) (rlogm_Log_rebase.RV R) (kvc Try.prog 90 Try.f94.results.toList (Try.f94.body.getD .skip) (rlogm_Log_rebase.RV R) [([(0, [1, 1, 0, 1, 0, 0]), (2, [1, 1, 0, 1, 0, 0]), (1, [0]), (0, [1, 1, 1])], fun σ w => dP (slotOf σ 0) fun l_ => dI .i64 (slotOf σ 1) fun idx_ => dI .i64 (slotOf σ 2) fun term_ => dS (slotOf σ 3) fun snap_ => dI .i64 (slotOf σ 8) fun k_ => dK (slotOf σ 9) fun e_ => dI .i64 (slotOf σ 10) fun j_ => N1 l_ idx_ term_ snap_ k_ e_ j_ w)] 2000) [(0, [1, 1, 0, 1, 0, 0]), (2, [1, 1, 0, 1, 0, 0]), (1, [0]), (0, [1, 1, 1])] [(0, .pointer l), (1, .int .i64 idx), (2, .int .i64 term), (3, .string snap), (8, .int .i64 k), (9, .pointer (some ⟨e, 0, none⟩)), (10, .int .i64 j)] w := by kernel_rfl
theorem rlogm_Log_rebase.L1b_sound {R : World → Prop} {N1 : Option Addr → Int → Int → ByteArray → Int → Nat → Int → World → Prop} (hN1 : ∀ l idx term snap k e j w, N1 l idx term snap k e j w → KW Try.prog 94 90 (rlogm_Log_rebase.RV R) ([(0, [1, 1, 0, 1, 0, 0]), (2, [1, 1, 0, 1, 0, 0]), (1, [0]), (0, [1, 1, 1])].map (toItem (Try.f94.body.getD .skip))) [(0, .pointer l), (1, .int .i64 idx), (2, .int .i64 term), (3, .string snap), (8, .int .i64 k), (9, .pointer (some ⟨e, 0, none⟩)), (10, .int .i64 j)] w) (l : Option Addr) (idx term : Int) (snap : ByteArray) (k : Int) (e : Nat) (j : Int) (w : World) (h : rlogm_Log_rebase.L1b l idx term snap k e j w  N1 R) :
    KW Try.prog 94 90 (rlogm_Log_rebase.RV R) ([(0, [1, 1, 0, 1, 0, 0]), (2, [1, 1, 0, 1, 0, 0]), (1, [0]), (0, [1, 1, 1])].map (toItem (Try.f94.body.getD .skip))) [(0, .pointer l), (1, .int .i64 idx), (2, .int .i64 term), (3, .string snap), (8, .int .i64 k), (9, .pointer (some ⟨e, 0, none⟩)), (10, .int .i64 j)] w := by
  exact block_spec Try.func94 Try.mixed (stops_cons (fun σ w h => by
      obtain ⟨l_, e0, h⟩ := dP_elim h
      obtain ⟨idx_, e1, h⟩ := dI_elim h
      obtain ⟨term_, e2, h⟩ := dI_elim h
      obtain ⟨snap_, e3, h⟩ := dS_elim h
      obtain ⟨k_, e4, h⟩ := dI_elim h
      obtain ⟨e_, e5, h⟩ := dK_elim h
      obtain ⟨j_, e6, h⟩ := dI_elim h
      exact (hN1 l_ idx_ term_ snap_ k_ e_ j_ w h).weaken (Sub.cons (Sub.cons (Sub.cons (Sub.cons (Sub.cons (Sub.cons (Sub.cons (Sub.nil _) e6) e5) e4) e3) e2) e1) e0)) stops_nil) (Eq.mp (rlogm_Log_rebase.L1b_eq l idx term snap k e j w  N1 R ) h)
def rlogm_Log_rebase.L1 (l : Option Addr) (idx term : Int) (snap : ByteArray) (k : Int) (e : Nat) (j : Int) (w : World)  (R : World → Prop) : Prop :=
  ∃ (I : Nat → Option Addr → Int → Int → ByteArray → Int → Nat → Int → World → Prop) (m : Nat), I m l idx term snap k e j w ∧ ∀ m l idx term snap k e j w, I m l idx term snap k e j w → rlogm_Log_rebase.L1b l idx term snap k e j w  (fun l' idx' term' snap' k' e' j' w' => ∃ m', m' < m ∧ I m' l' idx' term' snap' k' e' j' w') R
theorem rlogm_Log_rebase.L1_sound {R : World → Prop}  (l : Option Addr) (idx term : Int) (snap : ByteArray) (k : Int) (e : Nat) (j : Int) (w : World) (h : rlogm_Log_rebase.L1 l idx term snap k e j w  R) :
    KW Try.prog 94 90 (rlogm_Log_rebase.RV R) ([(0, [1, 1, 0, 1, 0, 0]), (2, [1, 1, 0, 1, 0, 0]), (1, [0]), (0, [1, 1, 1])].map (toItem (Try.f94.body.getD .skip))) [(0, .pointer l), (1, .int .i64 idx), (2, .int .i64 term), (3, .string snap), (8, .int .i64 k), (9, .pointer (some ⟨e, 0, none⟩)), (10, .int .i64 j)] w := by
  obtain ⟨I, m, hBase, hr⟩ := h
  refine KW.loop (fun m σ w => ∃ (l : Option Addr) (idx term : Int) (snap : ByteArray) (k : Int) (e : Nat) (j : Int), σ = [(0, .pointer l), (1, .int .i64 idx), (2, .int .i64 term), (3, .string snap), (8, .int .i64 k), (9, .pointer (some ⟨e, 0, none⟩)), (10, .int .i64 j)] ∧ I m l idx term snap k e j w) ?_ m _ w ⟨l, idx, term, snap, k, e, j, rfl, hBase⟩
  rintro m ih σ w ⟨l, idx, term, snap, k, e, j, rfl, hI⟩
  exact rlogm_Log_rebase.L1b_sound  (N1 := fun l' idx' term' snap' k' e' j' w' => ∃ m', m' < m ∧ I m' l' idx' term' snap' k' e' j' w') (fun l' idx' term' snap' k' e' j' w' hx => by obtain ⟨m', hlt, hI'⟩ := hx; exact ih m' hlt _ w' ⟨l', idx', term', snap', k', e', j', rfl, hI'⟩) l idx term snap k e j w (hr m l idx term snap k e j w hI)
def rlogm_Log_rebase.B0 (l : Option Addr) (idx term : Int) (snap : ByteArray) (w : World)   (R : World → Prop) : Prop :=
  Pn l fun a =>
  LdP a w fun x15 =>
  Pn x15 fun a_1 =>
  LdI .i64 (a_1.add 2) w fun x18 =>
  New (.cells #[.int .i64 (0 : Int), .string (ByteArray.mk #[]), .int .i64 (0 : Int), .string (ByteArray.mk #[]), .int .i64 (0 : Int), .string (ByteArray.mk #[]), .int .i64 (0 : Int), .string (ByteArray.mk #[]), .int .i64 (0 : Int), .string (ByteArray.mk #[]), .int .i64 (0 : Int), .string (ByteArray.mk #[])] 55) w fun e_ w1 =>
  rlogm_Log_rebase.L1 l idx term snap (IntKind.i64.wrap (idx - x18)) e_ (IntKind.i64.wrap (idx - x18)) w1  R
theorem rlogm_Log_rebase.B0_eq (l : Option Addr) (idx term : Int) (snap : ByteArray) (w : World)   (R : World → Prop) (sL1 : Option Addr → Int → Int → ByteArray → Int → Nat → Int → World → Prop) :
    (
  Pn l fun a =>
  LdP a w fun x15 =>
  Pn x15 fun a_1 =>
  LdI .i64 (a_1.add 2) w fun x18 =>
  New (.cells #[.int .i64 (0 : Int), .string (ByteArray.mk #[]), .int .i64 (0 : Int), .string (ByteArray.mk #[]), .int .i64 (0 : Int), .string (ByteArray.mk #[]), .int .i64 (0 : Int), .string (ByteArray.mk #[]), .int .i64 (0 : Int), .string (ByteArray.mk #[]), .int .i64 (0 : Int), .string (ByteArray.mk #[])] 55) w fun e_ w1 =>
  sL1 l idx term snap (IntKind.i64.wrap (idx - x18)) e_ (IntKind.i64.wrap (idx - x18)) w1) = kstep Try.prog 90 Try.f94.results.toList (Try.f94.body.getD .skip) (rlogm_Log_rebase.RV R) (kvc Try.prog 90 Try.f94.results.toList (Try.f94.body.getD .skip) (rlogm_Log_rebase.RV R) [([(0, [1, 1, 0, 1, 0, 0]), (2, [1, 1, 0, 1, 0, 0]), (1, [0]), (0, [1, 1, 1])], fun σ w => dP (slotOf σ 0) fun l_ => dI .i64 (slotOf σ 1) fun idx_ => dI .i64 (slotOf σ 2) fun term_ => dS (slotOf σ 3) fun snap_ => dI .i64 (slotOf σ 8) fun k_ => dK (slotOf σ 9) fun e_ => dI .i64 (slotOf σ 10) fun j_ => sL1 l_ idx_ term_ snap_ k_ e_ j_ w)] 2000) [(0, [])] [(0, .pointer l), (1, .int .i64 idx), (2, .int .i64 term), (3, .string snap)] w := by kernel_rfl
theorem rlogm_Log_rebase.B0_sound {R : World → Prop}  (l : Option Addr) (idx term : Int) (snap : ByteArray) (w : World) (h : rlogm_Log_rebase.B0 l idx term snap w   R) :
    KW Try.prog 94 90 (rlogm_Log_rebase.RV R) ([(0, [])].map (toItem (Try.f94.body.getD .skip))) [(0, .pointer l), (1, .int .i64 idx), (2, .int .i64 term), (3, .string snap)] w := by
  exact block_spec Try.func94 Try.mixed (stops_cons (fun σ w h => by
      obtain ⟨l_, e0, h⟩ := dP_elim h
      obtain ⟨idx_, e1, h⟩ := dI_elim h
      obtain ⟨term_, e2, h⟩ := dI_elim h
      obtain ⟨snap_, e3, h⟩ := dS_elim h
      obtain ⟨k_, e4, h⟩ := dI_elim h
      obtain ⟨e_, e5, h⟩ := dK_elim h
      obtain ⟨j_, e6, h⟩ := dI_elim h
      exact (rlogm_Log_rebase.L1_sound  l_ idx_ term_ snap_ k_ e_ j_ w h).weaken (Sub.cons (Sub.cons (Sub.cons (Sub.cons (Sub.cons (Sub.cons (Sub.cons (Sub.nil _) e6) e5) e4) e3) e2) e1) e0)) stops_nil) (Eq.mp (rlogm_Log_rebase.B0_eq l idx term snap w   R (fun l_ idx_ term_ snap_ k_ e_ j_ w => rlogm_Log_rebase.L1 l_ idx_ term_ snap_ k_ e_ j_ w  R)) h)
theorem rlogm_Log_rebase.sound (l : Option Addr) (idx term : Int) (snap : ByteArray) (w : World) (R : World → Prop) (h : rlogm_Log_rebase.B0 l idx term snap w R) : rlogm_Log_rebase.Call l idx term snap w R := by
  have hc := calls_of_block (args := #[.pointer l, .int .i64 idx, .int .i64 term, .string snap]) Try.func94 (body := (Try.f94.body.getD .skip)) (by kernel_rfl) (by kernel_rfl) (args_slot _) (rlogm_Log_rebase.B0_sound l idx term snap w h)
  exact hc.mono fun e w' he => by
    obtain ⟨v, rfl, hv⟩ := he
    exact rlogm_Log_rebase.RV_elim hv
def store_Store_SetSnap.L1b (t : Option Addr) (idx term : Int) (data : ByteArray) (a k : Int) (w : World)  (N1 : Option Addr → Int → Int → ByteArray → Int → Int → World → Prop) (R : Int → World → Prop) : Prop :=
  Bm (decide ((IntKind.i64.wrap (k * (64 : Int))) < ((data.size : Nat) : Int))) (
    store_chunk.Call data k w fun r45 w1 =>
    Pn t fun a_1 =>
    LdP a_1 w1 fun x49 =>
    diskm_Disk_Write.Call x49 (IntKind.i64.wrap ((IntKind.i64.wrap ((4 : Int) + (IntKind.i64.wrap (a * (2 : Int))))) + k)) r45 w1 fun r56 w2 =>
    N1 t idx term data a (IntKind.i64.wrap (k + (1 : Int))) w2) (
    Pn t fun a_2 =>
    LdI .i64 ((a_2.add 20).add 1) w fun x62 =>
    Pn t fun a_3 =>
    Sts [.bool true, .int .i64 (IntKind.i64.wrap (x62 + (1 : Int))), .int .i64 idx, .int .i64 term, .int .i64 a, .int .i64 ((data.size : Nat) : Int)] (a_3.add 20) 0 w fun w3 =>
    Pn t fun a_4 =>
    LdI .i64 (a_4.add 26) w3 fun x76 =>
    Pn t fun a_5 =>
    Sts [.int .i64 (IntKind.i64.wrap ((1 : Int) - x76))] (a_5.add 26) 0 w3 fun w4 =>
    Pn t fun a_6 =>
    Sts [.string data] (a_6.add 27) 0 w4 fun w5 =>
    Pn t fun a_7 =>
    LdB (a_7.add 20) w5 fun x87_0 =>
    LdI .i64 ((a_7.add 20).add 1) w5 fun x87_1 =>
    LdI .i64 ((a_7.add 20).add 2) w5 fun x87_2 =>
    LdI .i64 ((a_7.add 20).add 3) w5 fun x87_3 =>
    LdI .i64 ((a_7.add 20).add 4) w5 fun x87_4 =>
    LdI .i64 ((a_7.add 20).add 5) w5 fun x87_5 =>
    store_encHead.Call x87_0 x87_1 x87_2 x87_3 x87_4 x87_5 w5 fun r88_b r88_l r88_c w6 =>
    Pn t fun a_8 =>
    LdI .i64 (a_8.add 26) w6 fun x93 =>
    store_Store_write.Call t (IntKind.i64.wrap ((2 : Int) + x93)) r88_b r88_l r88_c w6 fun w7 =>
    R (0 : Int) w7)
theorem store_Store_SetSnap.L1b_eq (t : Option Addr) (idx term : Int) (data : ByteArray) (a k : Int) (w : World)  (N1 : Option Addr → Int → Int → ByteArray → Int → Int → World → Prop) (R : Int → World → Prop)  :
    (
  Bm (decide ((IntKind.i64.wrap (k * (64 : Int))) < ((data.size : Nat) : Int))) (
    store_chunk.Call data k w fun r45 w1 =>
    Pn t fun a_1 =>
    LdP a_1 w1 fun x49 =>
    diskm_Disk_Write.Call x49 (IntKind.i64.wrap ((IntKind.i64.wrap ((4 : Int) + (IntKind.i64.wrap (a * (2 : Int))))) + k)) r45 w1 fun r56 w2 =>
    N1 t idx term data a (IntKind.i64.wrap (k + (1 : Int))) w2) (
    Pn t fun a_2 =>
    LdI .i64 ((a_2.add 20).add 1) w fun x62 =>
    Pn t fun a_3 =>
    Sts [.bool true, .int .i64 (IntKind.i64.wrap (x62 + (1 : Int))), .int .i64 idx, .int .i64 term, .int .i64 a, .int .i64 ((data.size : Nat) : Int)] (a_3.add 20) 0 w fun w3 =>
    Pn t fun a_4 =>
    LdI .i64 (a_4.add 26) w3 fun x76 =>
    Pn t fun a_5 =>
    Sts [.int .i64 (IntKind.i64.wrap ((1 : Int) - x76))] (a_5.add 26) 0 w3 fun w4 =>
    Pn t fun a_6 =>
    Sts [.string data] (a_6.add 27) 0 w4 fun w5 =>
    Pn t fun a_7 =>
    LdB (a_7.add 20) w5 fun x87_0 =>
    LdI .i64 ((a_7.add 20).add 1) w5 fun x87_1 =>
    LdI .i64 ((a_7.add 20).add 2) w5 fun x87_2 =>
    LdI .i64 ((a_7.add 20).add 3) w5 fun x87_3 =>
    LdI .i64 ((a_7.add 20).add 4) w5 fun x87_4 =>
    LdI .i64 ((a_7.add 20).add 5) w5 fun x87_5 =>
    store_encHead.Call x87_0 x87_1 x87_2 x87_3 x87_4 x87_5 w5 fun r88_b r88_l r88_c w6 =>
    Pn t fun a_8 =>
    LdI .i64 (a_8.add 26) w6 fun x93 =>
    store_Store_write.Call t (IntKind.i64.wrap ((2 : Int) + x93)) r88_b r88_l r88_c w6 fun w7 =>
    R (0 : Int) w7)) = kstep Try.prog 97 Try.f95.results.toList (Try.f95.body.getD .skip) (store_Store_SetSnap.RV R) (kvc Try.prog 97 Try.f95.results.toList (Try.f95.body.getD .skip) (store_Store_SetSnap.RV R) [([(0, [1, 1, 1, 1, 0, 1, 0, 0]), (2, [1, 1, 1, 1, 0, 1, 0, 0]), (1, [0]), (0, [1, 1, 1, 1, 1])], fun σ w => dP (slotOf σ 0) fun t_ => dI .i64 (slotOf σ 1) fun idx_ => dI .i64 (slotOf σ 2) fun term_ => dS (slotOf σ 3) fun data_ => dI .i64 (slotOf σ 9) fun a_ => dI .i64 (slotOf σ 10) fun k_ => N1 t_ idx_ term_ data_ a_ k_ w)] 2000) [(0, [1, 1, 1, 1, 0, 1, 0, 0]), (2, [1, 1, 1, 1, 0, 1, 0, 0]), (1, [0]), (0, [1, 1, 1, 1, 1])] [(0, .pointer t), (1, .int .i64 idx), (2, .int .i64 term), (3, .string data), (9, .int .i64 a), (10, .int .i64 k)] w := by kernel_rfl
theorem store_Store_SetSnap.L1b_sound {R : Int → World → Prop} {N1 : Option Addr → Int → Int → ByteArray → Int → Int → World → Prop} (hN1 : ∀ t idx term data a k w, N1 t idx term data a k w → KW Try.prog 95 97 (store_Store_SetSnap.RV R) ([(0, [1, 1, 1, 1, 0, 1, 0, 0]), (2, [1, 1, 1, 1, 0, 1, 0, 0]), (1, [0]), (0, [1, 1, 1, 1, 1])].map (toItem (Try.f95.body.getD .skip))) [(0, .pointer t), (1, .int .i64 idx), (2, .int .i64 term), (3, .string data), (9, .int .i64 a), (10, .int .i64 k)] w) (t : Option Addr) (idx term : Int) (data : ByteArray) (a k : Int) (w : World) (h : store_Store_SetSnap.L1b t idx term data a k w  N1 R) :
    KW Try.prog 95 97 (store_Store_SetSnap.RV R) ([(0, [1, 1, 1, 1, 0, 1, 0, 0]), (2, [1, 1, 1, 1, 0, 1, 0, 0]), (1, [0]), (0, [1, 1, 1, 1, 1])].map (toItem (Try.f95.body.getD .skip))) [(0, .pointer t), (1, .int .i64 idx), (2, .int .i64 term), (3, .string data), (9, .int .i64 a), (10, .int .i64 k)] w := by
  exact block_spec Try.func95 Try.mixed (stops_cons (fun σ w h => by
      obtain ⟨t_, e0, h⟩ := dP_elim h
      obtain ⟨idx_, e1, h⟩ := dI_elim h
      obtain ⟨term_, e2, h⟩ := dI_elim h
      obtain ⟨data_, e3, h⟩ := dS_elim h
      obtain ⟨a_, e4, h⟩ := dI_elim h
      obtain ⟨k_, e5, h⟩ := dI_elim h
      exact (hN1 t_ idx_ term_ data_ a_ k_ w h).weaken (Sub.cons (Sub.cons (Sub.cons (Sub.cons (Sub.cons (Sub.cons (Sub.nil _) e5) e4) e3) e2) e1) e0)) stops_nil) (Eq.mp (store_Store_SetSnap.L1b_eq t idx term data a k w  N1 R ) h)
def store_Store_SetSnap.L1 (t : Option Addr) (idx term : Int) (data : ByteArray) (a k : Int) (w : World)  (R : Int → World → Prop) : Prop :=
  ∃ (I : Nat → Option Addr → Int → Int → ByteArray → Int → Int → World → Prop) (m : Nat), I m t idx term data a k w ∧ ∀ m t idx term data a k w, I m t idx term data a k w → store_Store_SetSnap.L1b t idx term data a k w  (fun t' idx' term' data' a' k' w' => ∃ m', m' < m ∧ I m' t' idx' term' data' a' k' w') R
theorem store_Store_SetSnap.L1_sound {R : Int → World → Prop}  (t : Option Addr) (idx term : Int) (data : ByteArray) (a k : Int) (w : World) (h : store_Store_SetSnap.L1 t idx term data a k w  R) :
    KW Try.prog 95 97 (store_Store_SetSnap.RV R) ([(0, [1, 1, 1, 1, 0, 1, 0, 0]), (2, [1, 1, 1, 1, 0, 1, 0, 0]), (1, [0]), (0, [1, 1, 1, 1, 1])].map (toItem (Try.f95.body.getD .skip))) [(0, .pointer t), (1, .int .i64 idx), (2, .int .i64 term), (3, .string data), (9, .int .i64 a), (10, .int .i64 k)] w := by
  obtain ⟨I, m, hBase, hr⟩ := h
  refine KW.loop (fun m σ w => ∃ (t : Option Addr) (idx term : Int) (data : ByteArray) (a k : Int), σ = [(0, .pointer t), (1, .int .i64 idx), (2, .int .i64 term), (3, .string data), (9, .int .i64 a), (10, .int .i64 k)] ∧ I m t idx term data a k w) ?_ m _ w ⟨t, idx, term, data, a, k, rfl, hBase⟩
  rintro m ih σ w ⟨t, idx, term, data, a, k, rfl, hI⟩
  exact store_Store_SetSnap.L1b_sound  (N1 := fun t' idx' term' data' a' k' w' => ∃ m', m' < m ∧ I m' t' idx' term' data' a' k' w') (fun t' idx' term' data' a' k' w' hx => by obtain ⟨m', hlt, hI'⟩ := hx; exact ih m' hlt _ w' ⟨t', idx', term', data', a', k', rfl, hI'⟩) t idx term data a k w (hr m t idx term data a k w hI)
def store_Store_SetSnap.B1 (t : Option Addr) (idx term : Int) (data : ByteArray) (t26 : Bool) (w : World)   (R : Int → World → Prop) : Prop :=
  Bm t26 (
    R (1 : Int) w) (
    Bm (decide (((data.size : Nat) : Int) > (128 : Int))) (
      R (5 : Int) w) (
      Pn t fun a =>
      LdI .i64 ((a.add 20).add 4) w fun x34 =>
      store_Store_SetSnap.L1 t idx term data (IntKind.i64.wrap ((1 : Int) - x34)) (0 : Int) w  R))
theorem store_Store_SetSnap.B1_eq (t : Option Addr) (idx term : Int) (data : ByteArray) (t26 : Bool) (w : World)   (R : Int → World → Prop) (sL1 : Option Addr → Int → Int → ByteArray → Int → Int → World → Prop) :
    (
  Bm t26 (
    R (1 : Int) w) (
    Bm (decide (((data.size : Nat) : Int) > (128 : Int))) (
      R (5 : Int) w) (
      Pn t fun a =>
      LdI .i64 ((a.add 20).add 4) w fun x34 =>
      sL1 t idx term data (IntKind.i64.wrap ((1 : Int) - x34)) (0 : Int) w))) = kstep Try.prog 97 Try.f95.results.toList (Try.f95.body.getD .skip) (store_Store_SetSnap.RV R) (kvc Try.prog 97 Try.f95.results.toList (Try.f95.body.getD .skip) (store_Store_SetSnap.RV R) [([(0, [1, 1, 1, 1, 0, 1, 0, 0]), (2, [1, 1, 1, 1, 0, 1, 0, 0]), (1, [0]), (0, [1, 1, 1, 1, 1])], fun σ w => dP (slotOf σ 0) fun t_ => dI .i64 (slotOf σ 1) fun idx_ => dI .i64 (slotOf σ 2) fun term_ => dS (slotOf σ 3) fun data_ => dI .i64 (slotOf σ 9) fun a_ => dI .i64 (slotOf σ 10) fun k_ => sL1 t_ idx_ term_ data_ a_ k_ w)] 2000) [(0, [1, 0, 1]), (0, [1, 1])] [(0, .pointer t), (1, .int .i64 idx), (2, .int .i64 term), (3, .string data), (26, .bool t26)] w := by kernel_rfl
theorem store_Store_SetSnap.B1_sound {R : Int → World → Prop}  (t : Option Addr) (idx term : Int) (data : ByteArray) (t26 : Bool) (w : World) (h : store_Store_SetSnap.B1 t idx term data t26 w   R) :
    KW Try.prog 95 97 (store_Store_SetSnap.RV R) ([(0, [1, 0, 1]), (0, [1, 1])].map (toItem (Try.f95.body.getD .skip))) [(0, .pointer t), (1, .int .i64 idx), (2, .int .i64 term), (3, .string data), (26, .bool t26)] w := by
  exact block_spec Try.func95 Try.mixed (stops_cons (fun σ w h => by
      obtain ⟨t_, e0, h⟩ := dP_elim h
      obtain ⟨idx_, e1, h⟩ := dI_elim h
      obtain ⟨term_, e2, h⟩ := dI_elim h
      obtain ⟨data_, e3, h⟩ := dS_elim h
      obtain ⟨a_, e4, h⟩ := dI_elim h
      obtain ⟨k_, e5, h⟩ := dI_elim h
      exact (store_Store_SetSnap.L1_sound  t_ idx_ term_ data_ a_ k_ w h).weaken (Sub.cons (Sub.cons (Sub.cons (Sub.cons (Sub.cons (Sub.cons (Sub.nil _) e5) e4) e3) e2) e1) e0)) stops_nil) (Eq.mp (store_Store_SetSnap.B1_eq t idx term data t26 w   R (fun t_ idx_ term_ data_ a_ k_ w => store_Store_SetSnap.L1 t_ idx_ term_ data_ a_ k_ w  R)) h)
def store_Store_SetSnap.B0 (t : Option Addr) (idx term : Int) (data : ByteArray) (w : World)   (R : Int → World → Prop) : Prop :=
  Bm (decide (idx < (0 : Int))) (
    store_Store_SetSnap.B1 t idx term data true w  R) (
    Bm (decide (idx > (72057594037927936 : Int))) (
      store_Store_SetSnap.B1 t idx term data true w  R) (
      Bm (decide (term < (0 : Int))) (
        store_Store_SetSnap.B1 t idx term data true w  R) (
        store_Store_SetSnap.B1 t idx term data (decide (term > (72057594037927936 : Int))) w  R)))
theorem store_Store_SetSnap.B0_eq (t : Option Addr) (idx term : Int) (data : ByteArray) (w : World)   (R : Int → World → Prop) (sB1 : Option Addr → Int → Int → ByteArray → Bool → World → Prop) :
    (
  Bm (decide (idx < (0 : Int))) (
    sB1 t idx term data true w) (
    Bm (decide (idx > (72057594037927936 : Int))) (
      sB1 t idx term data true w) (
      Bm (decide (term < (0 : Int))) (
        sB1 t idx term data true w) (
        sB1 t idx term data (decide (term > (72057594037927936 : Int))) w)))) = kstep Try.prog 97 Try.f95.results.toList (Try.f95.body.getD .skip) (store_Store_SetSnap.RV R) (kvc Try.prog 97 Try.f95.results.toList (Try.f95.body.getD .skip) (store_Store_SetSnap.RV R) [([(0, [1, 0, 1]), (0, [1, 1])], fun σ w => dP (slotOf σ 0) fun t_ => dI .i64 (slotOf σ 1) fun idx_ => dI .i64 (slotOf σ 2) fun term_ => dS (slotOf σ 3) fun data_ => dB (slotOf σ 26) fun t26_ => sB1 t_ idx_ term_ data_ t26_ w)] 2000) [(0, [])] [(0, .pointer t), (1, .int .i64 idx), (2, .int .i64 term), (3, .string data)] w := by kernel_rfl
theorem store_Store_SetSnap.B0_sound {R : Int → World → Prop}  (t : Option Addr) (idx term : Int) (data : ByteArray) (w : World) (h : store_Store_SetSnap.B0 t idx term data w   R) :
    KW Try.prog 95 97 (store_Store_SetSnap.RV R) ([(0, [])].map (toItem (Try.f95.body.getD .skip))) [(0, .pointer t), (1, .int .i64 idx), (2, .int .i64 term), (3, .string data)] w := by
  exact block_spec Try.func95 Try.mixed (stops_cons (fun σ w h => by
      obtain ⟨t_, e0, h⟩ := dP_elim h
      obtain ⟨idx_, e1, h⟩ := dI_elim h
      obtain ⟨term_, e2, h⟩ := dI_elim h
      obtain ⟨data_, e3, h⟩ := dS_elim h
      obtain ⟨t26_, e4, h⟩ := dB_elim h
      exact (store_Store_SetSnap.B1_sound  t_ idx_ term_ data_ t26_ w h).weaken (Sub.cons (Sub.cons (Sub.cons (Sub.cons (Sub.cons (Sub.nil _) e4) e3) e2) e1) e0)) stops_nil) (Eq.mp (store_Store_SetSnap.B0_eq t idx term data w   R (fun t_ idx_ term_ data_ t26_ w => store_Store_SetSnap.B1 t_ idx_ term_ data_ t26_ w  R)) h)
theorem store_Store_SetSnap.sound (t : Option Addr) (idx term : Int) (data : ByteArray) (w : World) (R : Int → World → Prop) (h : store_Store_SetSnap.B0 t idx term data w R) : store_Store_SetSnap.Call t idx term data w R := by
  have hc := calls_of_block (args := #[.pointer t, .int .i64 idx, .int .i64 term, .string data]) Try.func95 (body := (Try.f95.body.getD .skip)) (by kernel_rfl) (by kernel_rfl) (args_slot _) (store_Store_SetSnap.B0_sound t idx term data w h)
  exact hc.mono fun e w' he => by
    obtain ⟨v, rfl, hv⟩ := he
    exact store_Store_SetSnap.RV_elim hv
def store_Store_write.B0 (t : Option Addr) (b : Int) (x_b : Option Addr) (x_l x_c : Nat) (w : World)   (R : World → Prop) : Prop :=
  Pn t fun a =>
  (0 ≤ b ∧ b < ((14 : Nat) : Int)) ∧
  LdI .u8 (Addr.add (a.add 1) (b.toNat * 1)) w.drew fun x13 =>
  Pn t fun a_1 =>
  store_next.Call x13 w.drew fun r14 w1 =>
  (0 ≤ b ∧ b < ((14 : Nat) : Int)) ∧
  Sts [.int .u8 r14] (Addr.add (a_1.add 1) (b.toNat * 1)) 0 w1 fun w2 =>
  Pn t fun a_2 =>
  (0 ≤ b ∧ b < ((14 : Nat) : Int)) ∧
  LdI .u8 (Addr.add (a_2.add 1) (b.toNat * 1)) w2.drew fun x25 =>
  Pn t fun a_3 =>
  (0 ≤ b ∧ b < ((14 : Nat) : Int)) ∧
  LdI .u8 (Addr.add (a_3.add 1) (b.toNat * 1)) w2.drew fun x31 =>
  Pn x_b fun a_4 =>
  (0 ≤ (0 : Int) ∧ (0 : Int) < ((x_l : Nat) : Int)) ∧
  Sts [.int .u8 x25] a_4 0 w2.drew fun w3 =>
  Pn x_b fun a_5 =>
  (0 ≤ (63 : Int) ∧ (63 : Int) < ((x_l : Nat) : Int)) ∧
  Sts [.int .u8 x31] (a_5.add 63) 0 w3 fun w4 =>
  Pn t fun a_6 =>
  LdP a_6 w4.drew fun x37 =>
  ToStr x_b x_l w4.drew fun s40 =>
  w4.drew.cell? a_6 = some (.pointer x37) ∧
  diskm_Disk_Write.Call x37 b s40 w4.drew fun r41 w5 =>
  R  w5
theorem store_Store_write.B0_eq (t : Option Addr) (b : Int) (x_b : Option Addr) (x_l x_c : Nat) (w : World)   (R : World → Prop)  :
    (
  Pn t fun a =>
  (0 ≤ b ∧ b < ((14 : Nat) : Int)) ∧
  LdI .u8 (Addr.add (a.add 1) (b.toNat * 1)) w.drew fun x13 =>
  Pn t fun a_1 =>
  store_next.Call x13 w.drew fun r14 w1 =>
  (0 ≤ b ∧ b < ((14 : Nat) : Int)) ∧
  Sts [.int .u8 r14] (Addr.add (a_1.add 1) (b.toNat * 1)) 0 w1 fun w2 =>
  Pn t fun a_2 =>
  (0 ≤ b ∧ b < ((14 : Nat) : Int)) ∧
  LdI .u8 (Addr.add (a_2.add 1) (b.toNat * 1)) w2.drew fun x25 =>
  Pn t fun a_3 =>
  (0 ≤ b ∧ b < ((14 : Nat) : Int)) ∧
  LdI .u8 (Addr.add (a_3.add 1) (b.toNat * 1)) w2.drew fun x31 =>
  Pn x_b fun a_4 =>
  (0 ≤ (0 : Int) ∧ (0 : Int) < ((x_l : Nat) : Int)) ∧
  Sts [.int .u8 x25] a_4 0 w2.drew fun w3 =>
  Pn x_b fun a_5 =>
  (0 ≤ (63 : Int) ∧ (63 : Int) < ((x_l : Nat) : Int)) ∧
  Sts [.int .u8 x31] (a_5.add 63) 0 w3 fun w4 =>
  Pn t fun a_6 =>
  LdP a_6 w4.drew fun x37 =>
  ToStr x_b x_l w4.drew fun s40 =>
  w4.drew.cell? a_6 = some (.pointer x37) ∧
  diskm_Disk_Write.Call x37 b s40 w4.drew fun r41 w5 =>
  R  w5) = kstep Try.prog 42 Try.f96.results.toList (Try.f96.body.getD .skip) (store_Store_write.RV R) (kvc Try.prog 42 Try.f96.results.toList (Try.f96.body.getD .skip) (store_Store_write.RV R) [] 2000) [(0, [])] [(0, .pointer t), (1, .int .i64 b), (2, .slice x_b x_l x_c)] w := by kernel_rfl
theorem store_Store_write.B0_sound {R : World → Prop}  (t : Option Addr) (b : Int) (x_b : Option Addr) (x_l x_c : Nat) (w : World) (h : store_Store_write.B0 t b x_b x_l x_c w   R) :
    KW Try.prog 96 42 (store_Store_write.RV R) ([(0, [])].map (toItem (Try.f96.body.getD .skip))) [(0, .pointer t), (1, .int .i64 b), (2, .slice x_b x_l x_c)] w := by
  exact block_spec Try.func96 Try.mixed stops_nil (Eq.mp (store_Store_write.B0_eq t b x_b x_l x_c w   R ) h)
theorem store_Store_write.sound (t : Option Addr) (b : Int) (x_b : Option Addr) (x_l x_c : Nat) (w : World) (R : World → Prop) (h : store_Store_write.B0 t b x_b x_l x_c w R) : store_Store_write.Call t b x_b x_l x_c w R := by
  have hc := calls_of_block (args := #[.pointer t, .int .i64 b, .slice x_b x_l x_c]) Try.func96 (body := (Try.f96.body.getD .skip)) (by kernel_rfl) (by kernel_rfl) (args_slot _) (store_Store_write.B0_sound t b x_b x_l x_c w h)
  exact hc.mono fun e w' he => by
    obtain ⟨v, rfl, hv⟩ := he
    exact store_Store_write.RV_elim hv
def store_encMeta.B0 (m0_0 : Bool) (m0_1 m0_2 m0_3 : Int) (w : World)   (R : Option Addr → Nat → Nat → World → Prop) : Prop :=
  New (.cells #[.bool m0_0, .int .i64 m0_1, .int .i64 m0_2, .int .i64 m0_3] 91) w fun m0_ w1 =>
  Make 5 (.int .u8 (0 : Int)) 1 1 (64 : Int) (64 : Int) w1 fun b4 w2 =>
  LdI .i64 ⟨m0_, 1, none⟩ w2 fun x7 =>
  store_put8.Call (some ⟨b4, 0, none⟩) 64 64 (1 : Int) x7 w2 fun r8_b r8_l r8_c w3 =>
  LdI .i64 ⟨m0_, 2, none⟩ w3 fun x11 =>
  store_put8.Call r8_b r8_l r8_c (9 : Int) x11 w3 fun r12_b r12_l r12_c w4 =>
  LdI .i64 ⟨m0_, 3, none⟩ w4 fun x15 =>
  Pn r12_b fun a =>
  (0 ≤ (32 : Int) ∧ (32 : Int) < ((r12_l : Nat) : Int)) ∧
  Sts [.int .u8 (IntKind.u8.wrap (IntKind.i64.wrap (x15 + (1 : Int))))] (a.add 32) 0 w4 fun w5 =>
  R r12_b r12_l r12_c w5
theorem store_encMeta.B0_eq (m0_0 : Bool) (m0_1 m0_2 m0_3 : Int) (w : World)   (R : Option Addr → Nat → Nat → World → Prop)  :
    (
  New (.cells #[.bool m0_0, .int .i64 m0_1, .int .i64 m0_2, .int .i64 m0_3] 91) w fun m0_ w1 =>
  Make 5 (.int .u8 (0 : Int)) 1 1 (64 : Int) (64 : Int) w1 fun b4 w2 =>
  LdI .i64 ⟨m0_, 1, none⟩ w2 fun x7 =>
  store_put8.Call (some ⟨b4, 0, none⟩) 64 64 (1 : Int) x7 w2 fun r8_b r8_l r8_c w3 =>
  LdI .i64 ⟨m0_, 2, none⟩ w3 fun x11 =>
  store_put8.Call r8_b r8_l r8_c (9 : Int) x11 w3 fun r12_b r12_l r12_c w4 =>
  LdI .i64 ⟨m0_, 3, none⟩ w4 fun x15 =>
  Pn r12_b fun a =>
  (0 ≤ (32 : Int) ∧ (32 : Int) < ((r12_l : Nat) : Int)) ∧
  Sts [.int .u8 (IntKind.u8.wrap (IntKind.i64.wrap (x15 + (1 : Int))))] (a.add 32) 0 w4 fun w5 =>
  R r12_b r12_l r12_c w5) = kstep Try.prog 20 Try.f97.results.toList (Try.f97.body.getD .skip) (store_encMeta.RV R) (kvc Try.prog 20 Try.f97.results.toList (Try.f97.body.getD .skip) (store_encMeta.RV R) [] 2000) [(0, [])] [(0, .agg #[.bool m0_0, .int .i64 m0_1, .int .i64 m0_2, .int .i64 m0_3])] w := by kernel_rfl
theorem store_encMeta.B0_sound {R : Option Addr → Nat → Nat → World → Prop}  (m0_0 : Bool) (m0_1 m0_2 m0_3 : Int) (w : World) (h : store_encMeta.B0 m0_0 m0_1 m0_2 m0_3 w   R) :
    KW Try.prog 97 20 (store_encMeta.RV R) ([(0, [])].map (toItem (Try.f97.body.getD .skip))) [(0, .agg #[.bool m0_0, .int .i64 m0_1, .int .i64 m0_2, .int .i64 m0_3])] w := by
  exact block_spec Try.func97 Try.mixed stops_nil (Eq.mp (store_encMeta.B0_eq m0_0 m0_1 m0_2 m0_3 w   R ) h)
theorem store_encMeta.sound (m0_0 : Bool) (m0_1 m0_2 m0_3 : Int) (w : World) (R : Option Addr → Nat → Nat → World → Prop) (h : store_encMeta.B0 m0_0 m0_1 m0_2 m0_3 w R) : store_encMeta.Call m0_0 m0_1 m0_2 m0_3 w R := by
  have hc := calls_of_block (args := #[.agg #[.bool m0_0, .int .i64 m0_1, .int .i64 m0_2, .int .i64 m0_3]]) Try.func97 (body := (Try.f97.body.getD .skip)) (by kernel_rfl) (by kernel_rfl) (args_slot _) (store_encMeta.B0_sound m0_0 m0_1 m0_2 m0_3 w h)
  exact hc.mono fun e w' he => by
    obtain ⟨v, rfl, hv⟩ := he
    exact store_encMeta.RV_elim hv
def store_encRec.B1 (r : Nat) (b_b : Option Addr) (b_l b_c : Nat) (i : Int) (t26 : Bool) (w : World) (N1 : Nat → Option Addr → Nat → Nat → Int → World → Prop)  (R : Option Addr → Nat → Nat → World → Prop) : Prop :=
  Bm t26 (
    LdS ⟨r, 2, none⟩ w fun x33 =>
    (0 ≤ i ∧ i < ((x33.size : Nat) : Int)) ∧
    Pn b_b fun a =>
    (0 ≤ (IntKind.i64.wrap ((11 : Int) + i)) ∧ (IntKind.i64.wrap ((11 : Int) + i)) < ((b_l : Nat) : Int)) ∧
    Sts [.int .u8 (byteAt x33 i)] (Addr.add a ((IntKind.i64.wrap ((11 : Int) + i)).toNat * 1)) 0 w fun w1 =>
    N1 r b_b b_l b_c (IntKind.i64.wrap (i + (1 : Int))) w1) (
    LdI .i64 ⟨r, 1, none⟩ w fun x39 =>
    store_put8.Call b_b b_l b_c (35 : Int) x39 w fun r40_b r40_l r40_c w2 =>
    R r40_b r40_l r40_c w2)
theorem store_encRec.B1_eq (r : Nat) (b_b : Option Addr) (b_l b_c : Nat) (i : Int) (t26 : Bool) (w : World) (N1 : Nat → Option Addr → Nat → Nat → Int → World → Prop)  (R : Option Addr → Nat → Nat → World → Prop)  :
    (
  Bm t26 (
    LdS ⟨r, 2, none⟩ w fun x33 =>
    (0 ≤ i ∧ i < ((x33.size : Nat) : Int)) ∧
    Pn b_b fun a =>
    (0 ≤ (IntKind.i64.wrap ((11 : Int) + i)) ∧ (IntKind.i64.wrap ((11 : Int) + i)) < ((b_l : Nat) : Int)) ∧
    Sts [.int .u8 (byteAt x33 i)] (Addr.add a ((IntKind.i64.wrap ((11 : Int) + i)).toNat * 1)) 0 w fun w1 =>
    N1 r b_b b_l b_c (IntKind.i64.wrap (i + (1 : Int))) w1) (
    LdI .i64 ⟨r, 1, none⟩ w fun x39 =>
    store_put8.Call b_b b_l b_c (35 : Int) x39 w fun r40_b r40_l r40_c w2 =>
    R r40_b r40_l r40_c w2)) = kstep Try.prog 41 Try.f98.results.toList (Try.f98.body.getD .skip) (store_encRec.RV R) (kvc Try.prog 41 Try.f98.results.toList (Try.f98.body.getD .skip) (store_encRec.RV R) [([(0, [1, 1, 1, 1, 1, 0, 1, 0, 0]), (2, [1, 1, 1, 1, 1, 0, 1, 0, 0]), (1, [0]), (0, [1, 1, 1, 1, 1, 1])], fun σ w => dK (slotOf σ 1) fun r_ => dL (slotOf σ 3) fun b_b_ b_l_ b_c_ => dI .i64 (slotOf σ 4) fun i_ => N1 r_ b_b_ b_l_ b_c_ i_ w)] 2000) [(0, [1, 1, 1, 1, 1, 0, 1, 0, 0, 0, 1]), (0, [1, 1, 1, 1, 1, 0, 1, 0, 0, 1]), (2, [1, 1, 1, 1, 1, 0, 1, 0, 0]), (1, [0]), (0, [1, 1, 1, 1, 1, 1])] [(1, .pointer (some ⟨r, 0, none⟩)), (3, .slice b_b b_l b_c), (4, .int .i64 i), (26, .bool t26)] w := by kernel_rfl
theorem store_encRec.B1_sound {R : Option Addr → Nat → Nat → World → Prop} {N1 : Nat → Option Addr → Nat → Nat → Int → World → Prop} (hN1 : ∀ r b_b b_l b_c i w, N1 r b_b b_l b_c i w → KW Try.prog 98 41 (store_encRec.RV R) ([(0, [1, 1, 1, 1, 1, 0, 1, 0, 0]), (2, [1, 1, 1, 1, 1, 0, 1, 0, 0]), (1, [0]), (0, [1, 1, 1, 1, 1, 1])].map (toItem (Try.f98.body.getD .skip))) [(1, .pointer (some ⟨r, 0, none⟩)), (3, .slice b_b b_l b_c), (4, .int .i64 i)] w) (r : Nat) (b_b : Option Addr) (b_l b_c : Nat) (i : Int) (t26 : Bool) (w : World) (h : store_encRec.B1 r b_b b_l b_c i t26 w N1  R) :
    KW Try.prog 98 41 (store_encRec.RV R) ([(0, [1, 1, 1, 1, 1, 0, 1, 0, 0, 0, 1]), (0, [1, 1, 1, 1, 1, 0, 1, 0, 0, 1]), (2, [1, 1, 1, 1, 1, 0, 1, 0, 0]), (1, [0]), (0, [1, 1, 1, 1, 1, 1])].map (toItem (Try.f98.body.getD .skip))) [(1, .pointer (some ⟨r, 0, none⟩)), (3, .slice b_b b_l b_c), (4, .int .i64 i), (26, .bool t26)] w := by
  exact block_spec Try.func98 Try.mixed (stops_cons (fun σ w h => by
      obtain ⟨r_, e0, h⟩ := dK_elim h
      obtain ⟨b_b_, b_l_, b_c_, e1, h⟩ := dL_elim h
      obtain ⟨i_, e2, h⟩ := dI_elim h
      exact (hN1 r_ b_b_ b_l_ b_c_ i_ w h).weaken (Sub.cons (Sub.cons (Sub.cons (Sub.nil _) e2) e1) e0)) stops_nil) (Eq.mp (store_encRec.B1_eq r b_b b_l b_c i t26 w N1  R ) h)
def store_encRec.L1b (r : Nat) (b_b : Option Addr) (b_l b_c : Nat) (i : Int) (w : World)  (N1 : Nat → Option Addr → Nat → Nat → Int → World → Prop) (R : Option Addr → Nat → Nat → World → Prop) : Prop :=
  LdS ⟨r, 2, none⟩ w fun x20 =>
  Bm (decide (i < ((x20.size : Nat) : Int))) (
    store_encRec.B1 r b_b b_l b_c i (decide (i < (24 : Int))) w N1 R) (
    store_encRec.B1 r b_b b_l b_c i false w N1 R)
theorem store_encRec.L1b_eq (r : Nat) (b_b : Option Addr) (b_l b_c : Nat) (i : Int) (w : World)  (N1 : Nat → Option Addr → Nat → Nat → Int → World → Prop) (R : Option Addr → Nat → Nat → World → Prop) (sB1 : Nat → Option Addr → Nat → Nat → Int → Bool → World → Prop) :
    (
  LdS ⟨r, 2, none⟩ w fun x20 =>
  Bm (decide (i < ((x20.size : Nat) : Int))) (
    sB1 r b_b b_l b_c i (decide (i < (24 : Int))) w) (
    sB1 r b_b b_l b_c i false w)) = kstep Try.prog 41 Try.f98.results.toList (Try.f98.body.getD .skip) (store_encRec.RV R) (kvc Try.prog 41 Try.f98.results.toList (Try.f98.body.getD .skip) (store_encRec.RV R) [([(0, [1, 1, 1, 1, 1, 0, 1, 0, 0, 0, 1]), (0, [1, 1, 1, 1, 1, 0, 1, 0, 0, 1]), (2, [1, 1, 1, 1, 1, 0, 1, 0, 0]), (1, [0]), (0, [1, 1, 1, 1, 1, 1])], fun σ w => dK (slotOf σ 1) fun r_ => dL (slotOf σ 3) fun b_b_ b_l_ b_c_ => dI .i64 (slotOf σ 4) fun i_ => dB (slotOf σ 26) fun t26_ => sB1 r_ b_b_ b_l_ b_c_ i_ t26_ w)] 2000) [(0, [1, 1, 1, 1, 1, 0, 1, 0, 0]), (2, [1, 1, 1, 1, 1, 0, 1, 0, 0]), (1, [0]), (0, [1, 1, 1, 1, 1, 1])] [(1, .pointer (some ⟨r, 0, none⟩)), (3, .slice b_b b_l b_c), (4, .int .i64 i)] w := by kernel_rfl
theorem store_encRec.L1b_sound {R : Option Addr → Nat → Nat → World → Prop} {N1 : Nat → Option Addr → Nat → Nat → Int → World → Prop} (hN1 : ∀ r b_b b_l b_c i w, N1 r b_b b_l b_c i w → KW Try.prog 98 41 (store_encRec.RV R) ([(0, [1, 1, 1, 1, 1, 0, 1, 0, 0]), (2, [1, 1, 1, 1, 1, 0, 1, 0, 0]), (1, [0]), (0, [1, 1, 1, 1, 1, 1])].map (toItem (Try.f98.body.getD .skip))) [(1, .pointer (some ⟨r, 0, none⟩)), (3, .slice b_b b_l b_c), (4, .int .i64 i)] w) (r : Nat) (b_b : Option Addr) (b_l b_c : Nat) (i : Int) (w : World) (h : store_encRec.L1b r b_b b_l b_c i w  N1 R) :
    KW Try.prog 98 41 (store_encRec.RV R) ([(0, [1, 1, 1, 1, 1, 0, 1, 0, 0]), (2, [1, 1, 1, 1, 1, 0, 1, 0, 0]), (1, [0]), (0, [1, 1, 1, 1, 1, 1])].map (toItem (Try.f98.body.getD .skip))) [(1, .pointer (some ⟨r, 0, none⟩)), (3, .slice b_b b_l b_c), (4, .int .i64 i)] w := by
  exact block_spec Try.func98 Try.mixed (stops_cons (fun σ w h => by
      obtain ⟨r_, e0, h⟩ := dK_elim h
      obtain ⟨b_b_, b_l_, b_c_, e1, h⟩ := dL_elim h
      obtain ⟨i_, e2, h⟩ := dI_elim h
      obtain ⟨t26_, e3, h⟩ := dB_elim h
      exact (store_encRec.B1_sound hN1 r_ b_b_ b_l_ b_c_ i_ t26_ w h).weaken (Sub.cons (Sub.cons (Sub.cons (Sub.cons (Sub.nil _) e3) e2) e1) e0)) stops_nil) (Eq.mp (store_encRec.L1b_eq r b_b b_l b_c i w  N1 R (fun r_ b_b_ b_l_ b_c_ i_ t26_ w => store_encRec.B1 r_ b_b_ b_l_ b_c_ i_ t26_ w N1 R)) h)
def store_encRec.L1 (r : Nat) (b_b : Option Addr) (b_l b_c : Nat) (i : Int) (w : World)  (R : Option Addr → Nat → Nat → World → Prop) : Prop :=
  ∃ (I : Nat → Nat → Option Addr → Nat → Nat → Int → World → Prop) (m : Nat), I m r b_b b_l b_c i w ∧ ∀ m r b_b b_l b_c i w, I m r b_b b_l b_c i w → store_encRec.L1b r b_b b_l b_c i w  (fun r' b_b' b_l' b_c' i' w' => ∃ m', m' < m ∧ I m' r' b_b' b_l' b_c' i' w') R
theorem store_encRec.L1_sound {R : Option Addr → Nat → Nat → World → Prop}  (r : Nat) (b_b : Option Addr) (b_l b_c : Nat) (i : Int) (w : World) (h : store_encRec.L1 r b_b b_l b_c i w  R) :
    KW Try.prog 98 41 (store_encRec.RV R) ([(0, [1, 1, 1, 1, 1, 0, 1, 0, 0]), (2, [1, 1, 1, 1, 1, 0, 1, 0, 0]), (1, [0]), (0, [1, 1, 1, 1, 1, 1])].map (toItem (Try.f98.body.getD .skip))) [(1, .pointer (some ⟨r, 0, none⟩)), (3, .slice b_b b_l b_c), (4, .int .i64 i)] w := by
  obtain ⟨I, m, hBase, hr⟩ := h
  refine KW.loop (fun m σ w => ∃ (r : Nat) (b_b : Option Addr) (b_l b_c : Nat) (i : Int), σ = [(1, .pointer (some ⟨r, 0, none⟩)), (3, .slice b_b b_l b_c), (4, .int .i64 i)] ∧ I m r b_b b_l b_c i w) ?_ m _ w ⟨r, b_b, b_l, b_c, i, rfl, hBase⟩
  rintro m ih σ w ⟨r, b_b, b_l, b_c, i, rfl, hI⟩
  exact store_encRec.L1b_sound  (N1 := fun r' b_b' b_l' b_c' i' w' => ∃ m', m' < m ∧ I m' r' b_b' b_l' b_c' i' w') (fun r' b_b' b_l' b_c' i' w' hx => by obtain ⟨m', hlt, hI'⟩ := hx; exact ih m' hlt _ w' ⟨r', b_b', b_l', b_c', i', rfl, hI'⟩) r b_b b_l b_c i w (hr m r b_b b_l b_c i w hI)
def store_encRec.B0 (r_0 r_1 : Int) (r_2 : ByteArray) (w : World)   (R : Option Addr → Nat → Nat → World → Prop) : Prop :=
  New (.cells #[.int .i64 r_0, .int .i64 r_1, .string r_2] 72) w fun r_ w1 =>
  Make 5 (.int .u8 (0 : Int)) 1 1 (64 : Int) (64 : Int) w1 fun b5 w2 =>
  (0 ≤ (1 : Int) ∧ (1 : Int) < ((64 : Nat) : Int)) ∧
  Sts [.int .u8 (1 : Int)] ⟨b5, 1, none⟩ 0 w2 fun w3 =>
  LdI .i64 ⟨r_, 0, none⟩ w3 fun x10 =>
  store_put8.Call (some ⟨b5, 0, none⟩) 64 64 (2 : Int) x10 w3 fun r11_b r11_l r11_c w4 =>
  LdS ⟨r_, 2, none⟩ w4 fun x14 =>
  Pn r11_b fun a =>
  (0 ≤ (10 : Int) ∧ (10 : Int) < ((r11_l : Nat) : Int)) ∧
  Sts [.int .u8 (IntKind.u8.wrap ((x14.size : Nat) : Int))] (a.add 10) 0 w4 fun w5 =>
  store_encRec.L1 r_ r11_b r11_l r11_c (0 : Int) w5  R
theorem store_encRec.B0_eq (r_0 r_1 : Int) (r_2 : ByteArray) (w : World)   (R : Option Addr → Nat → Nat → World → Prop) (sL1 : Nat → Option Addr → Nat → Nat → Int → World → Prop) :
    (
  New (.cells #[.int .i64 r_0, .int .i64 r_1, .string r_2] 72) w fun r_ w1 =>
  Make 5 (.int .u8 (0 : Int)) 1 1 (64 : Int) (64 : Int) w1 fun b5 w2 =>
  (0 ≤ (1 : Int) ∧ (1 : Int) < ((64 : Nat) : Int)) ∧
  Sts [.int .u8 (1 : Int)] ⟨b5, 1, none⟩ 0 w2 fun w3 =>
  LdI .i64 ⟨r_, 0, none⟩ w3 fun x10 =>
  store_put8.Call (some ⟨b5, 0, none⟩) 64 64 (2 : Int) x10 w3 fun r11_b r11_l r11_c w4 =>
  LdS ⟨r_, 2, none⟩ w4 fun x14 =>
  Pn r11_b fun a =>
  (0 ≤ (10 : Int) ∧ (10 : Int) < ((r11_l : Nat) : Int)) ∧
  Sts [.int .u8 (IntKind.u8.wrap ((x14.size : Nat) : Int))] (a.add 10) 0 w4 fun w5 =>
  sL1 r_ r11_b r11_l r11_c (0 : Int) w5) = kstep Try.prog 41 Try.f98.results.toList (Try.f98.body.getD .skip) (store_encRec.RV R) (kvc Try.prog 41 Try.f98.results.toList (Try.f98.body.getD .skip) (store_encRec.RV R) [([(0, [1, 1, 1, 1, 1, 0, 1, 0, 0]), (2, [1, 1, 1, 1, 1, 0, 1, 0, 0]), (1, [0]), (0, [1, 1, 1, 1, 1, 1])], fun σ w => dK (slotOf σ 1) fun r_ => dL (slotOf σ 3) fun b_b_ b_l_ b_c_ => dI .i64 (slotOf σ 4) fun i_ => sL1 r_ b_b_ b_l_ b_c_ i_ w)] 2000) [(0, [])] [(0, .agg #[.int .i64 r_0, .int .i64 r_1, .string r_2])] w := by kernel_rfl
theorem store_encRec.B0_sound {R : Option Addr → Nat → Nat → World → Prop}  (r_0 r_1 : Int) (r_2 : ByteArray) (w : World) (h : store_encRec.B0 r_0 r_1 r_2 w   R) :
    KW Try.prog 98 41 (store_encRec.RV R) ([(0, [])].map (toItem (Try.f98.body.getD .skip))) [(0, .agg #[.int .i64 r_0, .int .i64 r_1, .string r_2])] w := by
  exact block_spec Try.func98 Try.mixed (stops_cons (fun σ w h => by
      obtain ⟨r_, e0, h⟩ := dK_elim h
      obtain ⟨b_b_, b_l_, b_c_, e1, h⟩ := dL_elim h
      obtain ⟨i_, e2, h⟩ := dI_elim h
      exact (store_encRec.L1_sound  r_ b_b_ b_l_ b_c_ i_ w h).weaken (Sub.cons (Sub.cons (Sub.cons (Sub.nil _) e2) e1) e0)) stops_nil) (Eq.mp (store_encRec.B0_eq r_0 r_1 r_2 w   R (fun r_ b_b_ b_l_ b_c_ i_ w => store_encRec.L1 r_ b_b_ b_l_ b_c_ i_ w  R)) h)
theorem store_encRec.sound (r_0 r_1 : Int) (r_2 : ByteArray) (w : World) (R : Option Addr → Nat → Nat → World → Prop) (h : store_encRec.B0 r_0 r_1 r_2 w R) : store_encRec.Call r_0 r_1 r_2 w R := by
  have hc := calls_of_block (args := #[.agg #[.int .i64 r_0, .int .i64 r_1, .string r_2]]) Try.func98 (body := (Try.f98.body.getD .skip)) (by kernel_rfl) (by kernel_rfl) (args_slot _) (store_encRec.B0_sound r_0 r_1 r_2 w h)
  exact hc.mono fun e w' he => by
    obtain ⟨v, rfl, hv⟩ := he
    exact store_encRec.RV_elim hv
def store_chunk.B1 (data : ByteArray) (k : Int) (b_b : Option Addr) (b_l b_c : Nat) (i : Int) (t18 : Bool) (w : World) (N1 : ByteArray → Int → Option Addr → Nat → Nat → Int → World → Prop)  (R : ByteArray → World → Prop) : Prop :=
  Bm t18 (
    (0 ≤ (IntKind.i64.wrap ((IntKind.i64.wrap (k * (64 : Int))) + i)) ∧ (IntKind.i64.wrap ((IntKind.i64.wrap (k * (64 : Int))) + i)) < ((data.size : Nat) : Int)) ∧
    Pn b_b fun a =>
    (0 ≤ i ∧ i < ((b_l : Nat) : Int)) ∧
    Sts [.int .u8 (byteAt data (IntKind.i64.wrap ((IntKind.i64.wrap (k * (64 : Int))) + i)))] (Addr.add a (i.toNat * 1)) 0 w fun w1 =>
    N1 data k b_b b_l b_c (IntKind.i64.wrap (i + (1 : Int))) w1) (
    ToStr b_b b_l w fun s31 =>
    R s31 w)
theorem store_chunk.B1_eq (data : ByteArray) (k : Int) (b_b : Option Addr) (b_l b_c : Nat) (i : Int) (t18 : Bool) (w : World) (N1 : ByteArray → Int → Option Addr → Nat → Nat → Int → World → Prop)  (R : ByteArray → World → Prop)  :
    (
  Bm t18 (
    (0 ≤ (IntKind.i64.wrap ((IntKind.i64.wrap (k * (64 : Int))) + i)) ∧ (IntKind.i64.wrap ((IntKind.i64.wrap (k * (64 : Int))) + i)) < ((data.size : Nat) : Int)) ∧
    Pn b_b fun a =>
    (0 ≤ i ∧ i < ((b_l : Nat) : Int)) ∧
    Sts [.int .u8 (byteAt data (IntKind.i64.wrap ((IntKind.i64.wrap (k * (64 : Int))) + i)))] (Addr.add a (i.toNat * 1)) 0 w fun w1 =>
    N1 data k b_b b_l b_c (IntKind.i64.wrap (i + (1 : Int))) w1) (
    ToStr b_b b_l w fun s31 =>
    R s31 w)) = kstep Try.prog 32 Try.f99.results.toList (Try.f99.body.getD .skip) (store_chunk.RV R) (kvc Try.prog 32 Try.f99.results.toList (Try.f99.body.getD .skip) (store_chunk.RV R) [([(0, [1, 1, 0, 1, 0, 0]), (2, [1, 1, 0, 1, 0, 0]), (1, [0]), (0, [1, 1, 1])], fun σ w => dS (slotOf σ 0) fun data_ => dI .i64 (slotOf σ 1) fun k_ => dL (slotOf σ 5) fun b_b_ b_l_ b_c_ => dI .i64 (slotOf σ 6) fun i_ => N1 data_ k_ b_b_ b_l_ b_c_ i_ w)] 2000) [(0, [1, 1, 0, 1, 0, 0, 0, 1]), (0, [1, 1, 0, 1, 0, 0, 1]), (2, [1, 1, 0, 1, 0, 0]), (1, [0]), (0, [1, 1, 1])] [(0, .string data), (1, .int .i64 k), (5, .slice b_b b_l b_c), (6, .int .i64 i), (18, .bool t18)] w := by kernel_rfl
theorem store_chunk.B1_sound {R : ByteArray → World → Prop} {N1 : ByteArray → Int → Option Addr → Nat → Nat → Int → World → Prop} (hN1 : ∀ data k b_b b_l b_c i w, N1 data k b_b b_l b_c i w → KW Try.prog 99 32 (store_chunk.RV R) ([(0, [1, 1, 0, 1, 0, 0]), (2, [1, 1, 0, 1, 0, 0]), (1, [0]), (0, [1, 1, 1])].map (toItem (Try.f99.body.getD .skip))) [(0, .string data), (1, .int .i64 k), (5, .slice b_b b_l b_c), (6, .int .i64 i)] w) (data : ByteArray) (k : Int) (b_b : Option Addr) (b_l b_c : Nat) (i : Int) (t18 : Bool) (w : World) (h : store_chunk.B1 data k b_b b_l b_c i t18 w N1  R) :
    KW Try.prog 99 32 (store_chunk.RV R) ([(0, [1, 1, 0, 1, 0, 0, 0, 1]), (0, [1, 1, 0, 1, 0, 0, 1]), (2, [1, 1, 0, 1, 0, 0]), (1, [0]), (0, [1, 1, 1])].map (toItem (Try.f99.body.getD .skip))) [(0, .string data), (1, .int .i64 k), (5, .slice b_b b_l b_c), (6, .int .i64 i), (18, .bool t18)] w := by
  exact block_spec Try.func99 Try.mixed (stops_cons (fun σ w h => by
      obtain ⟨data_, e0, h⟩ := dS_elim h
      obtain ⟨k_, e1, h⟩ := dI_elim h
      obtain ⟨b_b_, b_l_, b_c_, e2, h⟩ := dL_elim h
      obtain ⟨i_, e3, h⟩ := dI_elim h
      exact (hN1 data_ k_ b_b_ b_l_ b_c_ i_ w h).weaken (Sub.cons (Sub.cons (Sub.cons (Sub.cons (Sub.nil _) e3) e2) e1) e0)) stops_nil) (Eq.mp (store_chunk.B1_eq data k b_b b_l b_c i t18 w N1  R ) h)
def store_chunk.L1b (data : ByteArray) (k : Int) (b_b : Option Addr) (b_l b_c : Nat) (i : Int) (w : World)  (N1 : ByteArray → Int → Option Addr → Nat → Nat → Int → World → Prop) (R : ByteArray → World → Prop) : Prop :=
  Bm (decide (i < (64 : Int))) (
    store_chunk.B1 data k b_b b_l b_c i (decide ((IntKind.i64.wrap ((IntKind.i64.wrap (k * (64 : Int))) + i)) < ((data.size : Nat) : Int))) w N1 R) (
    store_chunk.B1 data k b_b b_l b_c i false w N1 R)
theorem store_chunk.L1b_eq (data : ByteArray) (k : Int) (b_b : Option Addr) (b_l b_c : Nat) (i : Int) (w : World)  (N1 : ByteArray → Int → Option Addr → Nat → Nat → Int → World → Prop) (R : ByteArray → World → Prop) (sB1 : ByteArray → Int → Option Addr → Nat → Nat → Int → Bool → World → Prop) :
    (
  Bm (decide (i < (64 : Int))) (
    sB1 data k b_b b_l b_c i (decide ((IntKind.i64.wrap ((IntKind.i64.wrap (k * (64 : Int))) + i)) < ((data.size : Nat) : Int))) w) (
    sB1 data k b_b b_l b_c i false w)) = kstep Try.prog 32 Try.f99.results.toList (Try.f99.body.getD .skip) (store_chunk.RV R) (kvc Try.prog 32 Try.f99.results.toList (Try.f99.body.getD .skip) (store_chunk.RV R) [([(0, [1, 1, 0, 1, 0, 0, 0, 1]), (0, [1, 1, 0, 1, 0, 0, 1]), (2, [1, 1, 0, 1, 0, 0]), (1, [0]), (0, [1, 1, 1])], fun σ w => dS (slotOf σ 0) fun data_ => dI .i64 (slotOf σ 1) fun k_ => dL (slotOf σ 5) fun b_b_ b_l_ b_c_ => dI .i64 (slotOf σ 6) fun i_ => dB (slotOf σ 18) fun t18_ => sB1 data_ k_ b_b_ b_l_ b_c_ i_ t18_ w)] 2000) [(0, [1, 1, 0, 1, 0, 0]), (2, [1, 1, 0, 1, 0, 0]), (1, [0]), (0, [1, 1, 1])] [(0, .string data), (1, .int .i64 k), (5, .slice b_b b_l b_c), (6, .int .i64 i)] w := by kernel_rfl
theorem store_chunk.L1b_sound {R : ByteArray → World → Prop} {N1 : ByteArray → Int → Option Addr → Nat → Nat → Int → World → Prop} (hN1 : ∀ data k b_b b_l b_c i w, N1 data k b_b b_l b_c i w → KW Try.prog 99 32 (store_chunk.RV R) ([(0, [1, 1, 0, 1, 0, 0]), (2, [1, 1, 0, 1, 0, 0]), (1, [0]), (0, [1, 1, 1])].map (toItem (Try.f99.body.getD .skip))) [(0, .string data), (1, .int .i64 k), (5, .slice b_b b_l b_c), (6, .int .i64 i)] w) (data : ByteArray) (k : Int) (b_b : Option Addr) (b_l b_c : Nat) (i : Int) (w : World) (h : store_chunk.L1b data k b_b b_l b_c i w  N1 R) :
    KW Try.prog 99 32 (store_chunk.RV R) ([(0, [1, 1, 0, 1, 0, 0]), (2, [1, 1, 0, 1, 0, 0]), (1, [0]), (0, [1, 1, 1])].map (toItem (Try.f99.body.getD .skip))) [(0, .string data), (1, .int .i64 k), (5, .slice b_b b_l b_c), (6, .int .i64 i)] w := by
  exact block_spec Try.func99 Try.mixed (stops_cons (fun σ w h => by
      obtain ⟨data_, e0, h⟩ := dS_elim h
      obtain ⟨k_, e1, h⟩ := dI_elim h
      obtain ⟨b_b_, b_l_, b_c_, e2, h⟩ := dL_elim h
      obtain ⟨i_, e3, h⟩ := dI_elim h
      obtain ⟨t18_, e4, h⟩ := dB_elim h
      exact (store_chunk.B1_sound hN1 data_ k_ b_b_ b_l_ b_c_ i_ t18_ w h).weaken (Sub.cons (Sub.cons (Sub.cons (Sub.cons (Sub.cons (Sub.nil _) e4) e3) e2) e1) e0)) stops_nil) (Eq.mp (store_chunk.L1b_eq data k b_b b_l b_c i w  N1 R (fun data_ k_ b_b_ b_l_ b_c_ i_ t18_ w => store_chunk.B1 data_ k_ b_b_ b_l_ b_c_ i_ t18_ w N1 R)) h)
def store_chunk.L1 (data : ByteArray) (k : Int) (b_b : Option Addr) (b_l b_c : Nat) (i : Int) (w : World)  (R : ByteArray → World → Prop) : Prop :=
  ∃ (I : Nat → ByteArray → Int → Option Addr → Nat → Nat → Int → World → Prop) (m : Nat), I m data k b_b b_l b_c i w ∧ ∀ m data k b_b b_l b_c i w, I m data k b_b b_l b_c i w → store_chunk.L1b data k b_b b_l b_c i w  (fun data' k' b_b' b_l' b_c' i' w' => ∃ m', m' < m ∧ I m' data' k' b_b' b_l' b_c' i' w') R
theorem store_chunk.L1_sound {R : ByteArray → World → Prop}  (data : ByteArray) (k : Int) (b_b : Option Addr) (b_l b_c : Nat) (i : Int) (w : World) (h : store_chunk.L1 data k b_b b_l b_c i w  R) :
    KW Try.prog 99 32 (store_chunk.RV R) ([(0, [1, 1, 0, 1, 0, 0]), (2, [1, 1, 0, 1, 0, 0]), (1, [0]), (0, [1, 1, 1])].map (toItem (Try.f99.body.getD .skip))) [(0, .string data), (1, .int .i64 k), (5, .slice b_b b_l b_c), (6, .int .i64 i)] w := by
  obtain ⟨I, m, hBase, hr⟩ := h
  refine KW.loop (fun m σ w => ∃ (data : ByteArray) (k : Int) (b_b : Option Addr) (b_l b_c : Nat) (i : Int), σ = [(0, .string data), (1, .int .i64 k), (5, .slice b_b b_l b_c), (6, .int .i64 i)] ∧ I m data k b_b b_l b_c i w) ?_ m _ w ⟨data, k, b_b, b_l, b_c, i, rfl, hBase⟩
  rintro m ih σ w ⟨data, k, b_b, b_l, b_c, i, rfl, hI⟩
  exact store_chunk.L1b_sound  (N1 := fun data' k' b_b' b_l' b_c' i' w' => ∃ m', m' < m ∧ I m' data' k' b_b' b_l' b_c' i' w') (fun data' k' b_b' b_l' b_c' i' w' hx => by obtain ⟨m', hlt, hI'⟩ := hx; exact ih m' hlt _ w' ⟨data', k', b_b', b_l', b_c', i', rfl, hI'⟩) data k b_b b_l b_c i w (hr m data k b_b b_l b_c i w hI)
def store_chunk.B0 (data : ByteArray) (k : Int) (w : World)   (R : ByteArray → World → Prop) : Prop :=
  Make 5 (.int .u8 (0 : Int)) 1 1 (64 : Int) (64 : Int) w fun b7 w1 =>
  store_chunk.L1 data k (some ⟨b7, 0, none⟩) 64 64 (0 : Int) w1  R
theorem store_chunk.B0_eq (data : ByteArray) (k : Int) (w : World)   (R : ByteArray → World → Prop) (sL1 : ByteArray → Int → Option Addr → Nat → Nat → Int → World → Prop) :
    (
  Make 5 (.int .u8 (0 : Int)) 1 1 (64 : Int) (64 : Int) w fun b7 w1 =>
  sL1 data k (some ⟨b7, 0, none⟩) 64 64 (0 : Int) w1) = kstep Try.prog 32 Try.f99.results.toList (Try.f99.body.getD .skip) (store_chunk.RV R) (kvc Try.prog 32 Try.f99.results.toList (Try.f99.body.getD .skip) (store_chunk.RV R) [([(0, [1, 1, 0, 1, 0, 0]), (2, [1, 1, 0, 1, 0, 0]), (1, [0]), (0, [1, 1, 1])], fun σ w => dS (slotOf σ 0) fun data_ => dI .i64 (slotOf σ 1) fun k_ => dL (slotOf σ 5) fun b_b_ b_l_ b_c_ => dI .i64 (slotOf σ 6) fun i_ => sL1 data_ k_ b_b_ b_l_ b_c_ i_ w)] 2000) [(0, [])] [(0, .string data), (1, .int .i64 k)] w := by kernel_rfl
theorem store_chunk.B0_sound {R : ByteArray → World → Prop}  (data : ByteArray) (k : Int) (w : World) (h : store_chunk.B0 data k w   R) :
    KW Try.prog 99 32 (store_chunk.RV R) ([(0, [])].map (toItem (Try.f99.body.getD .skip))) [(0, .string data), (1, .int .i64 k)] w := by
  exact block_spec Try.func99 Try.mixed (stops_cons (fun σ w h => by
      obtain ⟨data_, e0, h⟩ := dS_elim h
      obtain ⟨k_, e1, h⟩ := dI_elim h
      obtain ⟨b_b_, b_l_, b_c_, e2, h⟩ := dL_elim h
      obtain ⟨i_, e3, h⟩ := dI_elim h
      exact (store_chunk.L1_sound  data_ k_ b_b_ b_l_ b_c_ i_ w h).weaken (Sub.cons (Sub.cons (Sub.cons (Sub.cons (Sub.nil _) e3) e2) e1) e0)) stops_nil) (Eq.mp (store_chunk.B0_eq data k w   R (fun data_ k_ b_b_ b_l_ b_c_ i_ w => store_chunk.L1 data_ k_ b_b_ b_l_ b_c_ i_ w  R)) h)
theorem store_chunk.sound (data : ByteArray) (k : Int) (w : World) (R : ByteArray → World → Prop) (h : store_chunk.B0 data k w R) : store_chunk.Call data k w R := by
  have hc := calls_of_block (args := #[.string data, .int .i64 k]) Try.func99 (body := (Try.f99.body.getD .skip)) (by kernel_rfl) (by kernel_rfl) (args_slot _) (store_chunk.B0_sound data k w h)
  exact hc.mono fun e w' he => by
    obtain ⟨v, rfl, hv⟩ := he
    exact store_chunk.RV_elim hv
end Go.Proofs.Qxb6500431a
