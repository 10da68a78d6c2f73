import Derived.Test.Qxb6500433aGreatSig
set_option maxRecDepth 100000
set_option linter.unusedVariables false
open Go.Vc
namespace Go.Proofs.Qxb6500433aGreat
def rlogm_Log_rebase.L1b (l : Option Addr) (idx term : Int) (snap : ByteArray) (k : Int) (e : Nat) (j : Int) (w : World)  (N1 : Option Addr → Int → Int → ByteArray → Int → Nat → Int → World → Prop) (R : World → Prop) : Prop :=
  Pn l fun a =>
  LdP a w fun x25 =>
  Pn x25 fun a_1 =>
  LdI .i64 (a_1.add 5) w fun x28 =>
  Bm (decide (j < x28)) (
    Pn l fun a_2 =>
    LdP a_2 w fun x38 =>
    Pn x38 fun a_3 =>
    (0 ≤ j ∧ j < ((6 : Nat) : Int)) ∧
    LdI .i64 (Addr.add (a_3.add 6) (j.toNat * 2)) w fun x43_0 =>
    LdS ((Addr.add (a_3.add 6) (j.toNat * 2)).add 1) w fun x43_1 =>
    (0 ≤ (IntKind.i64.wrap (j - k)) ∧ (IntKind.i64.wrap (j - k)) < ((6 : Nat) : Int)) ∧
    Sts [.int .i64 x43_0, .string x43_1] (Addr.add ⟨e, 0, none⟩ ((IntKind.i64.wrap (j - k)).toNat * 2)) 0 w fun w1 =>
    N1 l idx term snap k e (IntKind.i64.wrap (j + (1 : Int))) w1) (
    Pn l fun a_4 =>
    LdP a_4 w.drew fun x48 =>
    Pn l fun a_5 =>
    LdP a_5 w.drew fun x52 =>
    LdI .i64 ⟨e, 0, none⟩ w.drew fun x53_0 =>
    LdS ⟨e, 1, none⟩ w.drew fun x53_1 =>
    LdI .i64 ⟨e, 2, none⟩ w.drew fun x53_2 =>
    LdS ⟨e, 3, none⟩ w.drew fun x53_3 =>
    LdI .i64 ⟨e, 4, none⟩ w.drew fun x53_4 =>
    LdS ⟨e, 5, none⟩ w.drew fun x53_5 =>
    LdI .i64 ⟨e, 6, none⟩ w.drew fun x53_6 =>
    LdS ⟨e, 7, none⟩ w.drew fun x53_7 =>
    LdI .i64 ⟨e, 8, none⟩ w.drew fun x53_8 =>
    LdS ⟨e, 9, none⟩ w.drew fun x53_9 =>
    LdI .i64 ⟨e, 10, none⟩ w.drew fun x53_10 =>
    LdS ⟨e, 11, none⟩ w.drew fun x53_11 =>
    Pn l fun a_6 =>
    LdP a_6 w.drew fun x57 =>
    Pn x57 fun a_7 =>
    LdI .i64 (a_7.add 5) w.drew fun x60 =>
    Pn x48 fun a_8 =>
    Sts [.int .i64 x53_0, .string x53_1, .int .i64 x53_2, .string x53_3, .int .i64 x53_4, .string x53_5, .int .i64 x53_6, .string x53_7, .int .i64 x53_8, .string x53_9, .int .i64 x53_10, .string x53_11] (a_8.add 6) 0 w.drew fun w2 =>
    Pn x52 fun a_9 =>
    Sts [.int .i64 (IntKind.i64.wrap (x60 - k))] (a_9.add 5) 0 w2 fun w3 =>
    Pn l fun a_10 =>
    LdP a_10 w3.drew fun x70 =>
    Pn l fun a_11 =>
    LdP a_11 w3.drew fun x74 =>
    Pn l fun a_12 =>
    LdP a_12 w3.drew fun x78 =>
    Pn x70 fun a_13 =>
    Sts [.int .i64 idx] (a_13.add 2) 0 w3.drew fun w4 =>
    Pn x74 fun a_14 =>
    Sts [.int .i64 term] (a_14.add 3) 0 w4 fun w5 =>
    Pn x78 fun a_15 =>
    Sts [.string snap] (a_15.add 4) 0 w5 fun w6 =>
    rlogm_Log_step.Call l w6 fun w7 =>
    R  w7)
theorem rlogm_Log_rebase.L1b_eq (l : Option Addr) (idx term : Int) (snap : ByteArray) (k : Int) (e : Nat) (j : Int) (w : World)  (N1 : Option Addr → Int → Int → ByteArray → Int → Nat → Int → World → Prop) (R : World → Prop)  :
    (
  Pn l fun a =>
  LdP a w fun x25 =>
  Pn x25 fun a_1 =>
  LdI .i64 (a_1.add 5) w fun x28 =>
  Bm (decide (j < x28)) (
    Pn l fun a_2 =>
    LdP a_2 w fun x38 =>
    Pn x38 fun a_3 =>
    (0 ≤ j ∧ j < ((6 : Nat) : Int)) ∧
    LdI .i64 (Addr.add (a_3.add 6) (j.toNat * 2)) w fun x43_0 =>
    LdS ((Addr.add (a_3.add 6) (j.toNat * 2)).add 1) w fun x43_1 =>
    (0 ≤ (IntKind.i64.wrap (j - k)) ∧ (IntKind.i64.wrap (j - k)) < ((6 : Nat) : Int)) ∧
    Sts [.int .i64 x43_0, .string x43_1] (Addr.add ⟨e, 0, none⟩ ((IntKind.i64.wrap (j - k)).toNat * 2)) 0 w fun w1 =>
    N1 l idx term snap k e (IntKind.i64.wrap (j + (1 : Int))) w1) (
    Pn l fun a_4 =>
    LdP a_4 w.drew fun x48 =>
    Pn l fun a_5 =>
    LdP a_5 w.drew fun x52 =>
    LdI .i64 ⟨e, 0, none⟩ w.drew fun x53_0 =>
    LdS ⟨e, 1, none⟩ w.drew fun x53_1 =>
    LdI .i64 ⟨e, 2, none⟩ w.drew fun x53_2 =>
    LdS ⟨e, 3, none⟩ w.drew fun x53_3 =>
    LdI .i64 ⟨e, 4, none⟩ w.drew fun x53_4 =>
    LdS ⟨e, 5, none⟩ w.drew fun x53_5 =>
    LdI .i64 ⟨e, 6, none⟩ w.drew fun x53_6 =>
    LdS ⟨e, 7, none⟩ w.drew fun x53_7 =>
    LdI .i64 ⟨e, 8, none⟩ w.drew fun x53_8 =>
    LdS ⟨e, 9, none⟩ w.drew fun x53_9 =>
    LdI .i64 ⟨e, 10, none⟩ w.drew fun x53_10 =>
    LdS ⟨e, 11, none⟩ w.drew fun x53_11 =>
    Pn l fun a_6 =>
    LdP a_6 w.drew fun x57 =>
    Pn x57 fun a_7 =>
    LdI .i64 (a_7.add 5) w.drew fun x60 =>
    Pn x48 fun a_8 =>
    Sts [.int .i64 x53_0, .string x53_1, .int .i64 x53_2, .string x53_3, .int .i64 x53_4, .string x53_5, .int .i64 x53_6, .string x53_7, .int .i64 x53_8, .string x53_9, .int .i64 x53_10, .string x53_11] (a_8.add 6) 0 w.drew fun w2 =>
    Pn x52 fun a_9 =>
    Sts [.int .i64 (IntKind.i64.wrap (x60 - k))] (a_9.add 5) 0 w2 fun w3 =>
    Pn l fun a_10 =>
    LdP a_10 w3.drew fun x70 =>
    Pn l fun a_11 =>
    LdP a_11 w3.drew fun x74 =>
    Pn l fun a_12 =>
    LdP a_12 w3.drew fun x78 =>
    Pn x70 fun a_13 =>
    Sts [.int .i64 idx] (a_13.add 2) 0 w3.drew fun w4 =>
    Pn x74 fun a_14 =>
    Sts [.int .i64 term] (a_14.add 3) 0 w4 fun w5 =>
    Pn x78 fun a_15 =>
    Sts [.string snap] (a_15.add 4) 0 w5 fun w6 =>
    rlogm_Log_step.Call l w6 fun w7 =>
    R  w7)) = kstep Tryz.prog 90 Tryz.f165.results.toList (Tryz.f165.body.getD .skip) (rlogm_Log_rebase.RV R) (kvc Tryz.prog 90 Tryz.f165.results.toList (Tryz.f165.body.getD .skip) (rlogm_Log_rebase.RV R) [([(0, [1, 1, 0, 1, 0, 0]), (2, [1, 1, 0, 1, 0, 0]), (1, [0]), (0, [1, 1, 1])], fun σ w => dP (slotOf σ 0) fun l_ => dI .i64 (slotOf σ 1) fun idx_ => dI .i64 (slotOf σ 2) fun term_ => dS (slotOf σ 3) fun snap_ => dI .i64 (slotOf σ 8) fun k_ => dK (slotOf σ 9) fun e_ => dI .i64 (slotOf σ 10) fun j_ => N1 l_ idx_ term_ snap_ k_ e_ j_ w)] 2000) [(0, [1, 1, 0, 1, 0, 0]), (2, [1, 1, 0, 1, 0, 0]), (1, [0]), (0, [1, 1, 1])] [(0, .pointer l), (1, .int .i64 idx), (2, .int .i64 term), (3, .string snap), (8, .int .i64 k), (9, .pointer (some ⟨e, 0, none⟩)), (10, .int .i64 j)] w := by kernel_rfl
theorem rlogm_Log_rebase.L1b_sound {R : World → Prop} {N1 : Option Addr → Int → Int → ByteArray → Int → Nat → Int → World → Prop} (hN1 : ∀ l idx term snap k e j w, N1 l idx term snap k e j w → KW Tryz.prog 165 90 (rlogm_Log_rebase.RV R) ([(0, [1, 1, 0, 1, 0, 0]), (2, [1, 1, 0, 1, 0, 0]), (1, [0]), (0, [1, 1, 1])].map (toItem (Tryz.f165.body.getD .skip))) [(0, .pointer l), (1, .int .i64 idx), (2, .int .i64 term), (3, .string snap), (8, .int .i64 k), (9, .pointer (some ⟨e, 0, none⟩)), (10, .int .i64 j)] w) (l : Option Addr) (idx term : Int) (snap : ByteArray) (k : Int) (e : Nat) (j : Int) (w : World) (h : rlogm_Log_rebase.L1b l idx term snap k e j w  N1 R) :
    KW Tryz.prog 165 90 (rlogm_Log_rebase.RV R) ([(0, [1, 1, 0, 1, 0, 0]), (2, [1, 1, 0, 1, 0, 0]), (1, [0]), (0, [1, 1, 1])].map (toItem (Tryz.f165.body.getD .skip))) [(0, .pointer l), (1, .int .i64 idx), (2, .int .i64 term), (3, .string snap), (8, .int .i64 k), (9, .pointer (some ⟨e, 0, none⟩)), (10, .int .i64 j)] w := by
  exact block_spec Tryz.func165 Tryz.mixed (stops_cons (fun σ w h => by
      obtain ⟨l_, e0, h⟩ := dP_elim h
      obtain ⟨idx_, e1, h⟩ := dI_elim h
      obtain ⟨term_, e2, h⟩ := dI_elim h
      obtain ⟨snap_, e3, h⟩ := dS_elim h
      obtain ⟨k_, e4, h⟩ := dI_elim h
      obtain ⟨e_, e5, h⟩ := dK_elim h
      obtain ⟨j_, e6, h⟩ := dI_elim h
      exact (hN1 l_ idx_ term_ snap_ k_ e_ j_ w h).weaken (Sub.cons (Sub.cons (Sub.cons (Sub.cons (Sub.cons (Sub.cons (Sub.cons (Sub.nil _) e6) e5) e4) e3) e2) e1) e0)) stops_nil) (Eq.mp (rlogm_Log_rebase.L1b_eq l idx term snap k e j w  N1 R ) h)
def rlogm_Log_rebase.L1 (l : Option Addr) (idx term : Int) (snap : ByteArray) (k : Int) (e : Nat) (j : Int) (w : World)  (R : World → Prop) : Prop :=
  ∃ (I : Nat → Option Addr → Int → Int → ByteArray → Int → Nat → Int → World → Prop) (m : Nat), I m l idx term snap k e j w ∧ ∀ m l idx term snap k e j w, I m l idx term snap k e j w → rlogm_Log_rebase.L1b l idx term snap k e j w  (fun l' idx' term' snap' k' e' j' w' => ∃ m', m' < m ∧ I m' l' idx' term' snap' k' e' j' w') R
theorem rlogm_Log_rebase.L1_sound {R : World → Prop}  (l : Option Addr) (idx term : Int) (snap : ByteArray) (k : Int) (e : Nat) (j : Int) (w : World) (h : rlogm_Log_rebase.L1 l idx term snap k e j w  R) :
    KW Tryz.prog 165 90 (rlogm_Log_rebase.RV R) ([(0, [1, 1, 0, 1, 0, 0]), (2, [1, 1, 0, 1, 0, 0]), (1, [0]), (0, [1, 1, 1])].map (toItem (Tryz.f165.body.getD .skip))) [(0, .pointer l), (1, .int .i64 idx), (2, .int .i64 term), (3, .string snap), (8, .int .i64 k), (9, .pointer (some ⟨e, 0, none⟩)), (10, .int .i64 j)] w := by
  obtain ⟨I, m, hBase, hr⟩ := h
  refine KW.loop (fun m σ w => ∃ (l : Option Addr) (idx term : Int) (snap : ByteArray) (k : Int) (e : Nat) (j : Int), σ = [(0, .pointer l), (1, .int .i64 idx), (2, .int .i64 term), (3, .string snap), (8, .int .i64 k), (9, .pointer (some ⟨e, 0, none⟩)), (10, .int .i64 j)] ∧ I m l idx term snap k e j w) ?_ m _ w ⟨l, idx, term, snap, k, e, j, rfl, hBase⟩
  rintro m ih σ w ⟨l, idx, term, snap, k, e, j, rfl, hI⟩
  exact rlogm_Log_rebase.L1b_sound  (N1 := fun l' idx' term' snap' k' e' j' w' => ∃ m', m' < m ∧ I m' l' idx' term' snap' k' e' j' w') (fun l' idx' term' snap' k' e' j' w' hx => by obtain ⟨m', hlt, hI'⟩ := hx; exact ih m' hlt _ w' ⟨l', idx', term', snap', k', e', j', rfl, hI'⟩) l idx term snap k e j w (hr m l idx term snap k e j w hI)
def rlogm_Log_rebase.B0 (l : Option Addr) (idx term : Int) (snap : ByteArray) (w : World)   (R : World → Prop) : Prop :=
  Pn l fun a =>
  LdP a w fun x15 =>
  Pn x15 fun a_1 =>
  LdI .i64 (a_1.add 2) w fun x18 =>
  New (.cells #[.int .i64 (0 : Int), .string (ByteArray.mk #[]), .int .i64 (0 : Int), .string (ByteArray.mk #[]), .int .i64 (0 : Int), .string (ByteArray.mk #[]), .int .i64 (0 : Int), .string (ByteArray.mk #[]), .int .i64 (0 : Int), .string (ByteArray.mk #[]), .int .i64 (0 : Int), .string (ByteArray.mk #[])] 141) w fun e_ w1 =>
  rlogm_Log_rebase.L1 l idx term snap (IntKind.i64.wrap (idx - x18)) e_ (IntKind.i64.wrap (idx - x18)) w1  R
theorem rlogm_Log_rebase.B0_eq (l : Option Addr) (idx term : Int) (snap : ByteArray) (w : World)   (R : World → Prop) (sL1 : Option Addr → Int → Int → ByteArray → Int → Nat → Int → World → Prop) :
    (
  Pn l fun a =>
  LdP a w fun x15 =>
  Pn x15 fun a_1 =>
  LdI .i64 (a_1.add 2) w fun x18 =>
  New (.cells #[.int .i64 (0 : Int), .string (ByteArray.mk #[]), .int .i64 (0 : Int), .string (ByteArray.mk #[]), .int .i64 (0 : Int), .string (ByteArray.mk #[]), .int .i64 (0 : Int), .string (ByteArray.mk #[]), .int .i64 (0 : Int), .string (ByteArray.mk #[]), .int .i64 (0 : Int), .string (ByteArray.mk #[])] 141) w fun e_ w1 =>
  sL1 l idx term snap (IntKind.i64.wrap (idx - x18)) e_ (IntKind.i64.wrap (idx - x18)) w1) = kstep Tryz.prog 90 Tryz.f165.results.toList (Tryz.f165.body.getD .skip) (rlogm_Log_rebase.RV R) (kvc Tryz.prog 90 Tryz.f165.results.toList (Tryz.f165.body.getD .skip) (rlogm_Log_rebase.RV R) [([(0, [1, 1, 0, 1, 0, 0]), (2, [1, 1, 0, 1, 0, 0]), (1, [0]), (0, [1, 1, 1])], fun σ w => dP (slotOf σ 0) fun l_ => dI .i64 (slotOf σ 1) fun idx_ => dI .i64 (slotOf σ 2) fun term_ => dS (slotOf σ 3) fun snap_ => dI .i64 (slotOf σ 8) fun k_ => dK (slotOf σ 9) fun e_ => dI .i64 (slotOf σ 10) fun j_ => sL1 l_ idx_ term_ snap_ k_ e_ j_ w)] 2000) [(0, [])] [(0, .pointer l), (1, .int .i64 idx), (2, .int .i64 term), (3, .string snap)] w := by kernel_rfl
theorem rlogm_Log_rebase.B0_sound {R : World → Prop}  (l : Option Addr) (idx term : Int) (snap : ByteArray) (w : World) (h : rlogm_Log_rebase.B0 l idx term snap w   R) :
    KW Tryz.prog 165 90 (rlogm_Log_rebase.RV R) ([(0, [])].map (toItem (Tryz.f165.body.getD .skip))) [(0, .pointer l), (1, .int .i64 idx), (2, .int .i64 term), (3, .string snap)] w := by
  exact block_spec Tryz.func165 Tryz.mixed (stops_cons (fun σ w h => by
      obtain ⟨l_, e0, h⟩ := dP_elim h
      obtain ⟨idx_, e1, h⟩ := dI_elim h
      obtain ⟨term_, e2, h⟩ := dI_elim h
      obtain ⟨snap_, e3, h⟩ := dS_elim h
      obtain ⟨k_, e4, h⟩ := dI_elim h
      obtain ⟨e_, e5, h⟩ := dK_elim h
      obtain ⟨j_, e6, h⟩ := dI_elim h
      exact (rlogm_Log_rebase.L1_sound  l_ idx_ term_ snap_ k_ e_ j_ w h).weaken (Sub.cons (Sub.cons (Sub.cons (Sub.cons (Sub.cons (Sub.cons (Sub.cons (Sub.nil _) e6) e5) e4) e3) e2) e1) e0)) stops_nil) (Eq.mp (rlogm_Log_rebase.B0_eq l idx term snap w   R (fun l_ idx_ term_ snap_ k_ e_ j_ w => rlogm_Log_rebase.L1 l_ idx_ term_ snap_ k_ e_ j_ w  R)) h)
theorem rlogm_Log_rebase.sound (l : Option Addr) (idx term : Int) (snap : ByteArray) (w : World) (R : World → Prop) (h : rlogm_Log_rebase.B0 l idx term snap w R) : rlogm_Log_rebase.Call l idx term snap w R := by
  have hc := calls_of_block (args := #[.pointer l, .int .i64 idx, .int .i64 term, .string snap]) Tryz.func165 (body := (Tryz.f165.body.getD .skip)) (by kernel_rfl) (by kernel_rfl) (args_slot _) (rlogm_Log_rebase.B0_sound l idx term snap w h)
  exact hc.mono fun e w' he => by
    obtain ⟨v, rfl, hv⟩ := he
    exact rlogm_Log_rebase.RV_elim hv
def rlogm_Log_pop.B0 (l : Option Addr) (w : World)   (R : World → Prop) : Prop :=
  Pn l fun a =>
  LdP a w fun x5 =>
  Pn x5 fun a_1 =>
  LdI .i64 (a_1.add 5) w fun x8 =>
  Pn x5 fun a_2 =>
  Sts [.int .i64 (IntKind.i64.wrap (x8 - (1 : Int)))] (a_2.add 5) 0 w fun w1 =>
  Pn l fun a_3 =>
  LdP a_3 w1.drew fun x15 =>
  Pn l fun a_4 =>
  LdP a_4 w1.drew fun x19 =>
  Pn x19 fun a_5 =>
  LdI .i64 (a_5.add 5) w1.drew fun x22 =>
  Pn x15 fun a_6 =>
  (0 ≤ x22 ∧ x22 < ((6 : Nat) : Int)) ∧
  Sts [.int .i64 (0 : Int), .string (ByteArray.mk #[])] (Addr.add (a_6.add 6) (x22.toNat * 2)) 0 w1.drew fun w2 =>
  rlogm_Log_step.Call l w2 fun w3 =>
  R  w3
theorem rlogm_Log_pop.B0_eq (l : Option Addr) (w : World)   (R : World → Prop)  :
    (
  Pn l fun a =>
  LdP a w fun x5 =>
  Pn x5 fun a_1 =>
  LdI .i64 (a_1.add 5) w fun x8 =>
  Pn x5 fun a_2 =>
  Sts [.int .i64 (IntKind.i64.wrap (x8 - (1 : Int)))] (a_2.add 5) 0 w fun w1 =>
  Pn l fun a_3 =>
  LdP a_3 w1.drew fun x15 =>
  Pn l fun a_4 =>
  LdP a_4 w1.drew fun x19 =>
  Pn x19 fun a_5 =>
  LdI .i64 (a_5.add 5) w1.drew fun x22 =>
  Pn x15 fun a_6 =>
  (0 ≤ x22 ∧ x22 < ((6 : Nat) : Int)) ∧
  Sts [.int .i64 (0 : Int), .string (ByteArray.mk #[])] (Addr.add (a_6.add 6) (x22.toNat * 2)) 0 w1.drew fun w2 =>
  rlogm_Log_step.Call l w2 fun w3 =>
  R  w3) = kstep Tryz.prog 29 Tryz.f166.results.toList (Tryz.f166.body.getD .skip) (rlogm_Log_pop.RV R) (kvc Tryz.prog 29 Tryz.f166.results.toList (Tryz.f166.body.getD .skip) (rlogm_Log_pop.RV R) [] 2000) [(0, [])] [(0, .pointer l)] w := by kernel_rfl
theorem rlogm_Log_pop.B0_sound {R : World → Prop}  (l : Option Addr) (w : World) (h : rlogm_Log_pop.B0 l w   R) :
    KW Tryz.prog 166 29 (rlogm_Log_pop.RV R) ([(0, [])].map (toItem (Tryz.f166.body.getD .skip))) [(0, .pointer l)] w := by
  exact block_spec Tryz.func166 Tryz.mixed stops_nil (Eq.mp (rlogm_Log_pop.B0_eq l w   R ) h)
theorem rlogm_Log_pop.sound (l : Option Addr) (w : World) (R : World → Prop) (h : rlogm_Log_pop.B0 l w R) : rlogm_Log_pop.Call l w R := by
  have hc := calls_of_block (args := #[.pointer l]) Tryz.func166 (body := (Tryz.f166.body.getD .skip)) (by kernel_rfl) (by kernel_rfl) (args_slot _) (rlogm_Log_pop.B0_sound l w h)
  exact hc.mono fun e w' he => by
    obtain ⟨v, rfl, hv⟩ := he
    exact rlogm_Log_pop.RV_elim hv
def rlog_Log_Compact.B0 (l : Option Addr) (upTo : Int) (snap : ByteArray) (w : World)   (R : Int → World → Prop) : Prop :=
  Bm (decide (((snap.size : Nat) : Int) > (128 : Int))) (
    R (5 : Int) w) (
    Pn l fun a =>
    LdI .i64 (a.add 3) w fun x15 =>
    Bm (decide (upTo ≤ x15)) (
      R (7 : Int) w) (
      Pn l fun a_1 =>
      LdI .i64 (a_1.add 6) w fun x21 =>
      Bm (decide (upTo > x21)) (
        R (2 : Int) w) (
        rlog_slotOf.Call upTo w fun r24 w1 =>
        Pn l fun a_2 =>
        (0 ≤ r24 ∧ r24 < ((6 : Nat) : Int)) ∧
        LdI .i64 (Addr.add (a_2.add 7) (r24.toNat * 1)) w1 fun x32 =>
        rlog_Log_rebase.Call l upTo x32 snap w1 fun r34 w2 =>
        R r34 w2)))
theorem rlog_Log_Compact.B0_eq (l : Option Addr) (upTo : Int) (snap : ByteArray) (w : World)   (R : Int → World → Prop)  :
    (
  Bm (decide (((snap.size : Nat) : Int) > (128 : Int))) (
    R (5 : Int) w) (
    Pn l fun a =>
    LdI .i64 (a.add 3) w fun x15 =>
    Bm (decide (upTo ≤ x15)) (
      R (7 : Int) w) (
      Pn l fun a_1 =>
      LdI .i64 (a_1.add 6) w fun x21 =>
      Bm (decide (upTo > x21)) (
        R (2 : Int) w) (
        rlog_slotOf.Call upTo w fun r24 w1 =>
        Pn l fun a_2 =>
        (0 ≤ r24 ∧ r24 < ((6 : Nat) : Int)) ∧
        LdI .i64 (Addr.add (a_2.add 7) (r24.toNat * 1)) w1 fun x32 =>
        rlog_Log_rebase.Call l upTo x32 snap w1 fun r34 w2 =>
        R r34 w2)))) = kstep Tryz.prog 35 Tryz.f167.results.toList (Tryz.f167.body.getD .skip) (rlog_Log_Compact.RV R) (kvc Tryz.prog 35 Tryz.f167.results.toList (Tryz.f167.body.getD .skip) (rlog_Log_Compact.RV R) [] 2000) [(0, [])] [(0, .pointer l), (1, .int .i64 upTo), (2, .string snap)] w := by kernel_rfl
theorem rlog_Log_Compact.B0_sound {R : Int → World → Prop}  (l : Option Addr) (upTo : Int) (snap : ByteArray) (w : World) (h : rlog_Log_Compact.B0 l upTo snap w   R) :
    KW Tryz.prog 167 35 (rlog_Log_Compact.RV R) ([(0, [])].map (toItem (Tryz.f167.body.getD .skip))) [(0, .pointer l), (1, .int .i64 upTo), (2, .string snap)] w := by
  exact block_spec Tryz.func167 Tryz.mixed stops_nil (Eq.mp (rlog_Log_Compact.B0_eq l upTo snap w   R ) h)
theorem rlog_Log_Compact.sound (l : Option Addr) (upTo : Int) (snap : ByteArray) (w : World) (R : Int → World → Prop) (h : rlog_Log_Compact.B0 l upTo snap w R) : rlog_Log_Compact.Call l upTo snap w R := by
  have hc := calls_of_block (args := #[.pointer l, .int .i64 upTo, .string snap]) Tryz.func167 (body := (Tryz.f167.body.getD .skip)) (by kernel_rfl) (by kernel_rfl) (args_slot _) (rlog_Log_Compact.B0_sound l upTo snap w h)
  exact hc.mono fun e w' he => by
    obtain ⟨v, rfl, hv⟩ := he
    exact rlog_Log_Compact.RV_elim hv
def rlogm_Log_Compact.B0 (l : Option Addr) (upTo : Int) (snap : ByteArray) (w : World)   (R : Int → World → Prop) : Prop :=
  Bm (decide (((snap.size : Nat) : Int) > (128 : Int))) (
    R (5 : Int) w) (
    Pn l fun a =>
    LdP a w fun x16 =>
    Pn x16 fun a_1 =>
    LdI .i64 (a_1.add 2) w fun x19 =>
    Bm (decide (upTo ≤ x19)) (
      R (7 : Int) w) (
      rlogm_Log_Last.Call l w fun r23 w1 =>
      Bm (decide (upTo > r23)) (
        R (2 : Int) w1) (
        rlogm_Log_TermAt.Call l upTo w1 fun r28_0 r28_1 w2 =>
        rlogm_Log_rebase.Call l upTo r28_0 snap w2 fun w3 =>
        R (0 : Int) w3)))
theorem rlogm_Log_Compact.B0_eq (l : Option Addr) (upTo : Int) (snap : ByteArray) (w : World)   (R : Int → World → Prop)  :
    (
  Bm (decide (((snap.size : Nat) : Int) > (128 : Int))) (
    R (5 : Int) w) (
    Pn l fun a =>
    LdP a w fun x16 =>
    Pn x16 fun a_1 =>
    LdI .i64 (a_1.add 2) w fun x19 =>
    Bm (decide (upTo ≤ x19)) (
      R (7 : Int) w) (
      rlogm_Log_Last.Call l w fun r23 w1 =>
      Bm (decide (upTo > r23)) (
        R (2 : Int) w1) (
        rlogm_Log_TermAt.Call l upTo w1 fun r28_0 r28_1 w2 =>
        rlogm_Log_rebase.Call l upTo r28_0 snap w2 fun w3 =>
        R (0 : Int) w3)))) = kstep Tryz.prog 36 Tryz.f168.results.toList (Tryz.f168.body.getD .skip) (rlogm_Log_Compact.RV R) (kvc Tryz.prog 36 Tryz.f168.results.toList (Tryz.f168.body.getD .skip) (rlogm_Log_Compact.RV R) [] 2000) [(0, [])] [(0, .pointer l), (1, .int .i64 upTo), (2, .string snap)] w := by kernel_rfl
theorem rlogm_Log_Compact.B0_sound {R : Int → World → Prop}  (l : Option Addr) (upTo : Int) (snap : ByteArray) (w : World) (h : rlogm_Log_Compact.B0 l upTo snap w   R) :
    KW Tryz.prog 168 36 (rlogm_Log_Compact.RV R) ([(0, [])].map (toItem (Tryz.f168.body.getD .skip))) [(0, .pointer l), (1, .int .i64 upTo), (2, .string snap)] w := by
  exact block_spec Tryz.func168 Tryz.mixed stops_nil (Eq.mp (rlogm_Log_Compact.B0_eq l upTo snap w   R ) h)
theorem rlogm_Log_Compact.sound (l : Option Addr) (upTo : Int) (snap : ByteArray) (w : World) (R : Int → World → Prop) (h : rlogm_Log_Compact.B0 l upTo snap w R) : rlogm_Log_Compact.Call l upTo snap w R := by
  have hc := calls_of_block (args := #[.pointer l, .int .i64 upTo, .string snap]) Tryz.func168 (body := (Tryz.f168.body.getD .skip)) (by kernel_rfl) (by kernel_rfl) (args_slot _) (rlogm_Log_Compact.B0_sound l upTo snap w h)
  exact hc.mono fun e w' he => by
    obtain ⟨v, rfl, hv⟩ := he
    exact rlogm_Log_Compact.RV_elim hv
def store_Store_write.B0 (t : Option Addr) (b : Int) (x_b : Option Addr) (x_l x_c : Nat) (w : World)   (R : World → Prop) : Prop :=
  Pn t fun a =>
  (0 ≤ b ∧ b < ((14 : Nat) : Int)) ∧
  LdI .u8 (Addr.add (a.add 1) (b.toNat * 1)) w.drew fun x13 =>
  Pn t fun a_1 =>
  store_next.Call x13 w.drew fun r14 w1 =>
  (0 ≤ b ∧ b < ((14 : Nat) : Int)) ∧
  Sts [.int .u8 r14] (Addr.add (a_1.add 1) (b.toNat * 1)) 0 w1 fun w2 =>
  Pn t fun a_2 =>
  (0 ≤ b ∧ b < ((14 : Nat) : Int)) ∧
  LdI .u8 (Addr.add (a_2.add 1) (b.toNat * 1)) w2.drew fun x25 =>
  Pn t fun a_3 =>
  (0 ≤ b ∧ b < ((14 : Nat) : Int)) ∧
  LdI .u8 (Addr.add (a_3.add 1) (b.toNat * 1)) w2.drew fun x31 =>
  Pn x_b fun a_4 =>
  (0 ≤ (0 : Int) ∧ (0 : Int) < ((x_l : Nat) : Int)) ∧
  Sts [.int .u8 x25] a_4 0 w2.drew fun w3 =>
  Pn x_b fun a_5 =>
  (0 ≤ (63 : Int) ∧ (63 : Int) < ((x_l : Nat) : Int)) ∧
  Sts [.int .u8 x31] (a_5.add 63) 0 w3 fun w4 =>
  Pn t fun a_6 =>
  LdP a_6 w4.drew fun x37 =>
  ToStr x_b x_l w4.drew fun s40 =>
  w4.drew.cell? a_6 = some (.pointer x37) ∧
  diskm_Disk_Write.Call x37 b s40 w4.drew fun r41 w5 =>
  R  w5
theorem store_Store_write.B0_eq (t : Option Addr) (b : Int) (x_b : Option Addr) (x_l x_c : Nat) (w : World)   (R : World → Prop)  :
    (
  Pn t fun a =>
  (0 ≤ b ∧ b < ((14 : Nat) : Int)) ∧
  LdI .u8 (Addr.add (a.add 1) (b.toNat * 1)) w.drew fun x13 =>
  Pn t fun a_1 =>
  store_next.Call x13 w.drew fun r14 w1 =>
  (0 ≤ b ∧ b < ((14 : Nat) : Int)) ∧
  Sts [.int .u8 r14] (Addr.add (a_1.add 1) (b.toNat * 1)) 0 w1 fun w2 =>
  Pn t fun a_2 =>
  (0 ≤ b ∧ b < ((14 : Nat) : Int)) ∧
  LdI .u8 (Addr.add (a_2.add 1) (b.toNat * 1)) w2.drew fun x25 =>
  Pn t fun a_3 =>
  (0 ≤ b ∧ b < ((14 : Nat) : Int)) ∧
  LdI .u8 (Addr.add (a_3.add 1) (b.toNat * 1)) w2.drew fun x31 =>
  Pn x_b fun a_4 =>
  (0 ≤ (0 : Int) ∧ (0 : Int) < ((x_l : Nat) : Int)) ∧
  Sts [.int .u8 x25] a_4 0 w2.drew fun w3 =>
  Pn x_b fun a_5 =>
  (0 ≤ (63 : Int) ∧ (63 : Int) < ((x_l : Nat) : Int)) ∧
  Sts [.int .u8 x31] (a_5.add 63) 0 w3 fun w4 =>
  Pn t fun a_6 =>
  LdP a_6 w4.drew fun x37 =>
  ToStr x_b x_l w4.drew fun s40 =>
  w4.drew.cell? a_6 = some (.pointer x37) ∧
  diskm_Disk_Write.Call x37 b s40 w4.drew fun r41 w5 =>
  R  w5) = kstep Tryz.prog 42 Tryz.f169.results.toList (Tryz.f169.body.getD .skip) (store_Store_write.RV R) (kvc Tryz.prog 42 Tryz.f169.results.toList (Tryz.f169.body.getD .skip) (store_Store_write.RV R) [] 2000) [(0, [])] [(0, .pointer t), (1, .int .i64 b), (2, .slice x_b x_l x_c)] w := by kernel_rfl
theorem store_Store_write.B0_sound {R : World → Prop}  (t : Option Addr) (b : Int) (x_b : Option Addr) (x_l x_c : Nat) (w : World) (h : store_Store_write.B0 t b x_b x_l x_c w   R) :
    KW Tryz.prog 169 42 (store_Store_write.RV R) ([(0, [])].map (toItem (Tryz.f169.body.getD .skip))) [(0, .pointer t), (1, .int .i64 b), (2, .slice x_b x_l x_c)] w := by
  exact block_spec Tryz.func169 Tryz.mixed stops_nil (Eq.mp (store_Store_write.B0_eq t b x_b x_l x_c w   R ) h)
theorem store_Store_write.sound (t : Option Addr) (b : Int) (x_b : Option Addr) (x_l x_c : Nat) (w : World) (R : World → Prop) (h : store_Store_write.B0 t b x_b x_l x_c w R) : store_Store_write.Call t b x_b x_l x_c w R := by
  have hc := calls_of_block (args := #[.pointer t, .int .i64 b, .slice x_b x_l x_c]) Tryz.func169 (body := (Tryz.f169.body.getD .skip)) (by kernel_rfl) (by kernel_rfl) (args_slot _) (store_Store_write.B0_sound t b x_b x_l x_c w h)
  exact hc.mono fun e w' he => by
    obtain ⟨v, rfl, hv⟩ := he
    exact store_Store_write.RV_elim hv
def store_Store_SetMeta.B1 (t : Option Addr) (term vote : Int) (t21 : Bool) (w : World)   (R : Int → World → Prop) : Prop :=
  Bm t21 (
    R (1 : Int) w) (
    Pn t fun a =>
    LdI .i64 ((a.add 15).add 1) w fun x27 =>
    Pn t fun a_1 =>
    Sts [.bool true, .int .i64 (IntKind.i64.wrap (x27 + (1 : Int))), .int .i64 term, .int .i64 vote] (a_1.add 15) 0 w fun w1 =>
    Pn t fun a_2 =>
    LdI .i64 (a_2.add 19) w1 fun x38 =>
    Pn t fun a_3 =>
    Sts [.int .i64 (IntKind.i64.wrap ((1 : Int) - x38))] (a_3.add 19) 0 w1 fun w2 =>
    Pn t fun a_4 =>
    LdB (a_4.add 15) w2 fun x45_0 =>
    LdI .i64 ((a_4.add 15).add 1) w2 fun x45_1 =>
    LdI .i64 ((a_4.add 15).add 2) w2 fun x45_2 =>
    LdI .i64 ((a_4.add 15).add 3) w2 fun x45_3 =>
    store_encMeta.Call x45_0 x45_1 x45_2 x45_3 w2 fun r46_b r46_l r46_c w3 =>
    Pn t fun a_5 =>
    LdI .i64 (a_5.add 19) w3 fun x51 =>
    store_Store_write.Call t (IntKind.i64.wrap ((0 : Int) + x51)) r46_b r46_l r46_c w3 fun w4 =>
    R (0 : Int) w4)
theorem store_Store_SetMeta.B1_eq (t : Option Addr) (term vote : Int) (t21 : Bool) (w : World)   (R : Int → World → Prop)  :
    (
  Bm t21 (
    R (1 : Int) w) (
    Pn t fun a =>
    LdI .i64 ((a.add 15).add 1) w fun x27 =>
    Pn t fun a_1 =>
    Sts [.bool true, .int .i64 (IntKind.i64.wrap (x27 + (1 : Int))), .int .i64 term, .int .i64 vote] (a_1.add 15) 0 w fun w1 =>
    Pn t fun a_2 =>
    LdI .i64 (a_2.add 19) w1 fun x38 =>
    Pn t fun a_3 =>
    Sts [.int .i64 (IntKind.i64.wrap ((1 : Int) - x38))] (a_3.add 19) 0 w1 fun w2 =>
    Pn t fun a_4 =>
    LdB (a_4.add 15) w2 fun x45_0 =>
    LdI .i64 ((a_4.add 15).add 1) w2 fun x45_1 =>
    LdI .i64 ((a_4.add 15).add 2) w2 fun x45_2 =>
    LdI .i64 ((a_4.add 15).add 3) w2 fun x45_3 =>
    store_encMeta.Call x45_0 x45_1 x45_2 x45_3 w2 fun r46_b r46_l r46_c w3 =>
    Pn t fun a_5 =>
    LdI .i64 (a_5.add 19) w3 fun x51 =>
    store_Store_write.Call t (IntKind.i64.wrap ((0 : Int) + x51)) r46_b r46_l r46_c w3 fun w4 =>
    R (0 : Int) w4)) = kstep Tryz.prog 55 Tryz.f170.results.toList (Tryz.f170.body.getD .skip) (store_Store_SetMeta.RV R) (kvc Tryz.prog 55 Tryz.f170.results.toList (Tryz.f170.body.getD .skip) (store_Store_SetMeta.RV R) [] 2000) [(0, [1, 0, 1]), (0, [1, 1])] [(0, .pointer t), (1, .int .i64 term), (2, .int .i64 vote), (21, .bool t21)] w := by kernel_rfl
theorem store_Store_SetMeta.B1_sound {R : Int → World → Prop}  (t : Option Addr) (term vote : Int) (t21 : Bool) (w : World) (h : store_Store_SetMeta.B1 t term vote t21 w   R) :
    KW Tryz.prog 170 55 (store_Store_SetMeta.RV R) ([(0, [1, 0, 1]), (0, [1, 1])].map (toItem (Tryz.f170.body.getD .skip))) [(0, .pointer t), (1, .int .i64 term), (2, .int .i64 vote), (21, .bool t21)] w := by
  exact block_spec Tryz.func170 Tryz.mixed stops_nil (Eq.mp (store_Store_SetMeta.B1_eq t term vote t21 w   R ) h)
def store_Store_SetMeta.B0 (t : Option Addr) (term vote : Int) (w : World)   (R : Int → World → Prop) : Prop :=
  Bm (decide (term < (0 : Int))) (
    store_Store_SetMeta.B1 t term vote true w  R) (
    Bm (decide (term > (72057594037927936 : Int))) (
      store_Store_SetMeta.B1 t term vote true w  R) (
      Bm (decide (vote < (-1 : Int))) (
        store_Store_SetMeta.B1 t term vote true w  R) (
        store_Store_SetMeta.B1 t term vote (decide (vote ≥ (3 : Int))) w  R)))
theorem store_Store_SetMeta.B0_eq (t : Option Addr) (term vote : Int) (w : World)   (R : Int → World → Prop) (sB1 : Option Addr → Int → Int → Bool → World → Prop) :
    (
  Bm (decide (term < (0 : Int))) (
    sB1 t term vote true w) (
    Bm (decide (term > (72057594037927936 : Int))) (
      sB1 t term vote true w) (
      Bm (decide (vote < (-1 : Int))) (
        sB1 t term vote true w) (
        sB1 t term vote (decide (vote ≥ (3 : Int))) w)))) = kstep Tryz.prog 55 Tryz.f170.results.toList (Tryz.f170.body.getD .skip) (store_Store_SetMeta.RV R) (kvc Tryz.prog 55 Tryz.f170.results.toList (Tryz.f170.body.getD .skip) (store_Store_SetMeta.RV R) [([(0, [1, 0, 1]), (0, [1, 1])], fun σ w => dP (slotOf σ 0) fun t_ => dI .i64 (slotOf σ 1) fun term_ => dI .i64 (slotOf σ 2) fun vote_ => dB (slotOf σ 21) fun t21_ => sB1 t_ term_ vote_ t21_ w)] 2000) [(0, [])] [(0, .pointer t), (1, .int .i64 term), (2, .int .i64 vote)] w := by kernel_rfl
theorem store_Store_SetMeta.B0_sound {R : Int → World → Prop}  (t : Option Addr) (term vote : Int) (w : World) (h : store_Store_SetMeta.B0 t term vote w   R) :
    KW Tryz.prog 170 55 (store_Store_SetMeta.RV R) ([(0, [])].map (toItem (Tryz.f170.body.getD .skip))) [(0, .pointer t), (1, .int .i64 term), (2, .int .i64 vote)] w := by
  exact block_spec Tryz.func170 Tryz.mixed (stops_cons (fun σ w h => by
      obtain ⟨t_, e0, h⟩ := dP_elim h
      obtain ⟨term_, e1, h⟩ := dI_elim h
      obtain ⟨vote_, e2, h⟩ := dI_elim h
      obtain ⟨t21_, e3, h⟩ := dB_elim h
      exact (store_Store_SetMeta.B1_sound  t_ term_ vote_ t21_ w h).weaken (Sub.cons (Sub.cons (Sub.cons (Sub.cons (Sub.nil _) e3) e2) e1) e0)) stops_nil) (Eq.mp (store_Store_SetMeta.B0_eq t term vote w   R (fun t_ term_ vote_ t21_ w => store_Store_SetMeta.B1 t_ term_ vote_ t21_ w  R)) h)
theorem store_Store_SetMeta.sound (t : Option Addr) (term vote : Int) (w : World) (R : Int → World → Prop) (h : store_Store_SetMeta.B0 t term vote w R) : store_Store_SetMeta.Call t term vote w R := by
  have hc := calls_of_block (args := #[.pointer t, .int .i64 term, .int .i64 vote]) Tryz.func170 (body := (Tryz.f170.body.getD .skip)) (by kernel_rfl) (by kernel_rfl) (args_slot _) (store_Store_SetMeta.B0_sound t term vote w h)
  exact hc.mono fun e w' he => by
    obtain ⟨v, rfl, hv⟩ := he
    exact store_Store_SetMeta.RV_elim hv
def elect_Elect_peer.B0 (e : Option Addr) (p : Int) (w : World)   (R : Bool → World → Prop) : Prop :=
  Bm (decide (p ≥ (0 : Int))) (
    Bm (decide (p < (3 : Int))) (
      Pn e fun a =>
      LdI .i64 a w fun x16 =>
      R (p != x16) w) (
      R false w)) (
    R false w)
theorem elect_Elect_peer.B0_eq (e : Option Addr) (p : Int) (w : World)   (R : Bool → World → Prop)  :
    (
  Bm (decide (p ≥ (0 : Int))) (
    Bm (decide (p < (3 : Int))) (
      Pn e fun a =>
      LdI .i64 a w fun x16 =>
      R (p != x16) w) (
      R false w)) (
    R false w)) = kstep Tryz.prog 19 Tryz.f171.results.toList (Tryz.f171.body.getD .skip) (elect_Elect_peer.RV R) (kvc Tryz.prog 19 Tryz.f171.results.toList (Tryz.f171.body.getD .skip) (elect_Elect_peer.RV R) [] 2000) [(0, [])] [(0, .pointer e), (1, .int .i64 p)] w := by kernel_rfl
theorem elect_Elect_peer.B0_sound {R : Bool → World → Prop}  (e : Option Addr) (p : Int) (w : World) (h : elect_Elect_peer.B0 e p w   R) :
    KW Tryz.prog 171 19 (elect_Elect_peer.RV R) ([(0, [])].map (toItem (Tryz.f171.body.getD .skip))) [(0, .pointer e), (1, .int .i64 p)] w := by
  exact block_spec Tryz.func171 Tryz.mixed stops_nil (Eq.mp (elect_Elect_peer.B0_eq e p w   R ) h)
theorem elect_Elect_peer.sound (e : Option Addr) (p : Int) (w : World) (R : Bool → World → Prop) (h : elect_Elect_peer.B0 e p w R) : elect_Elect_peer.Call e p w R := by
  have hc := calls_of_block (args := #[.pointer e, .int .i64 p]) Tryz.func171 (body := (Tryz.f171.body.getD .skip)) (by kernel_rfl) (by kernel_rfl) (args_slot _) (elect_Elect_peer.B0_sound e p w h)
  exact hc.mono fun e w' he => by
    obtain ⟨v, rfl, hv⟩ := he
    exact elect_Elect_peer.RV_elim hv
def elect_count.L1b (n w0 : Int) (w : World)  (N1 : Int → Int → World → Prop) (R : Int → World → Prop) : Prop :=
  Bm (decide (w0 > (0 : Int))) (
    0 ≤ (1 : Int) ∧
    N1 (IntKind.i64.wrap (n + (IntKind.i64.wrap (BitVec.ofInt IntKind.i64.bits w0 &&& BitVec.ofInt IntKind.i64.bits (1 : Int)).toNat))) (w0.fdiv (2 ^ (min (1 : Int).toNat IntKind.i64.bits))) w) (
    R n w)
theorem elect_count.L1b_eq (n w0 : Int) (w : World)  (N1 : Int → Int → World → Prop) (R : Int → World → Prop)  :
    (
  Bm (decide (w0 > (0 : Int))) (
    0 ≤ (1 : Int) ∧
    N1 (IntKind.i64.wrap (n + (IntKind.i64.wrap (BitVec.ofInt IntKind.i64.bits w0 &&& BitVec.ofInt IntKind.i64.bits (1 : Int)).toNat))) (w0.fdiv (2 ^ (min (1 : Int).toNat IntKind.i64.bits))) w) (
    R n w)) = kstep Tryz.prog 15 Tryz.f172.results.toList (Tryz.f172.body.getD .skip) (elect_count.RV R) (kvc Tryz.prog 15 Tryz.f172.results.toList (Tryz.f172.body.getD .skip) (elect_count.RV R) [([(0, [1, 1, 0, 1, 0, 0]), (2, [1, 1, 0, 1, 0, 0]), (1, [0]), (0, [1, 1, 1])], fun σ w => dI .i64 (slotOf σ 3) fun n_ => dI .i64 (slotOf σ 4) fun w0_ => N1 n_ w0_ w)] 2000) [(0, [1, 1, 0, 1, 0, 0]), (2, [1, 1, 0, 1, 0, 0]), (1, [0]), (0, [1, 1, 1])] [(3, .int .i64 n), (4, .int .i64 w0)] w := by kernel_rfl
theorem elect_count.L1b_sound {R : Int → World → Prop} {N1 : Int → Int → World → Prop} (hN1 : ∀ n w0 w, N1 n w0 w → KW Tryz.prog 172 15 (elect_count.RV R) ([(0, [1, 1, 0, 1, 0, 0]), (2, [1, 1, 0, 1, 0, 0]), (1, [0]), (0, [1, 1, 1])].map (toItem (Tryz.f172.body.getD .skip))) [(3, .int .i64 n), (4, .int .i64 w0)] w) (n w0 : Int) (w : World) (h : elect_count.L1b n w0 w  N1 R) :
    KW Tryz.prog 172 15 (elect_count.RV R) ([(0, [1, 1, 0, 1, 0, 0]), (2, [1, 1, 0, 1, 0, 0]), (1, [0]), (0, [1, 1, 1])].map (toItem (Tryz.f172.body.getD .skip))) [(3, .int .i64 n), (4, .int .i64 w0)] w := by
  exact block_spec Tryz.func172 Tryz.mixed (stops_cons (fun σ w h => by
      obtain ⟨n_, e0, h⟩ := dI_elim h
      obtain ⟨w0_, e1, h⟩ := dI_elim h
      exact (hN1 n_ w0_ w h).weaken (Sub.cons (Sub.cons (Sub.nil _) e1) e0)) stops_nil) (Eq.mp (elect_count.L1b_eq n w0 w  N1 R ) h)
def elect_count.L1 (n w0 : Int) (w : World)  (R : Int → World → Prop) : Prop :=
  ∃ (I : Nat → Int → Int → World → Prop) (m : Nat), I m n w0 w ∧ ∀ m n w0 w, I m n w0 w → elect_count.L1b n w0 w  (fun n' w0' w' => ∃ m', m' < m ∧ I m' n' w0' w') R
theorem elect_count.L1_sound {R : Int → World → Prop}  (n w0 : Int) (w : World) (h : elect_count.L1 n w0 w  R) :
    KW Tryz.prog 172 15 (elect_count.RV R) ([(0, [1, 1, 0, 1, 0, 0]), (2, [1, 1, 0, 1, 0, 0]), (1, [0]), (0, [1, 1, 1])].map (toItem (Tryz.f172.body.getD .skip))) [(3, .int .i64 n), (4, .int .i64 w0)] w := by
  obtain ⟨I, m, hBase, hr⟩ := h
  refine KW.loop (fun m σ w => ∃ (n w0 : Int), σ = [(3, .int .i64 n), (4, .int .i64 w0)] ∧ I m n w0 w) ?_ m _ w ⟨n, w0, rfl, hBase⟩
  rintro m ih σ w ⟨n, w0, rfl, hI⟩
  exact elect_count.L1b_sound  (N1 := fun n' w0' w' => ∃ m', m' < m ∧ I m' n' w0' w') (fun n' w0' w' hx => by obtain ⟨m', hlt, hI'⟩ := hx; exact ih m' hlt _ w' ⟨n', w0', rfl, hI'⟩) n w0 w (hr m n w0 w hI)
def elect_count.B0 (mask : Int) (w : World)   (R : Int → World → Prop) : Prop :=
  elect_count.L1 (0 : Int) mask w  R
theorem elect_count.B0_eq (mask : Int) (w : World)   (R : Int → World → Prop) (sL1 : Int → Int → World → Prop) :
    (
  sL1 (0 : Int) mask w) = kstep Tryz.prog 15 Tryz.f172.results.toList (Tryz.f172.body.getD .skip) (elect_count.RV R) (kvc Tryz.prog 15 Tryz.f172.results.toList (Tryz.f172.body.getD .skip) (elect_count.RV R) [([(0, [1, 1, 0, 1, 0, 0]), (2, [1, 1, 0, 1, 0, 0]), (1, [0]), (0, [1, 1, 1])], fun σ w => dI .i64 (slotOf σ 3) fun n_ => dI .i64 (slotOf σ 4) fun w0_ => sL1 n_ w0_ w)] 2000) [(0, [])] [(0, .int .i64 mask)] w := by kernel_rfl
theorem elect_count.B0_sound {R : Int → World → Prop}  (mask : Int) (w : World) (h : elect_count.B0 mask w   R) :
    KW Tryz.prog 172 15 (elect_count.RV R) ([(0, [])].map (toItem (Tryz.f172.body.getD .skip))) [(0, .int .i64 mask)] w := by
  exact block_spec Tryz.func172 Tryz.mixed (stops_cons (fun σ w h => by
      obtain ⟨n_, e0, h⟩ := dI_elim h
      obtain ⟨w0_, e1, h⟩ := dI_elim h
      exact (elect_count.L1_sound  n_ w0_ w h).weaken (Sub.cons (Sub.cons (Sub.nil _) e1) e0)) stops_nil) (Eq.mp (elect_count.B0_eq mask w   R (fun n_ w0_ w => elect_count.L1 n_ w0_ w  R)) h)
theorem elect_count.sound (mask : Int) (w : World) (R : Int → World → Prop) (h : elect_count.B0 mask w R) : elect_count.Call mask w R := by
  have hc := calls_of_block (args := #[.int .i64 mask]) Tryz.func172 (body := (Tryz.f172.body.getD .skip)) (by kernel_rfl) (by kernel_rfl) (args_slot _) (elect_count.B0_sound mask w h)
  exact hc.mono fun e w' he => by
    obtain ⟨v, rfl, hv⟩ := he
    exact elect_count.RV_elim hv
def rlog_Log_Append.B2 (l : Option Addr) (e : Nat) (t38 : Bool) (w : World)   (R : Int → World → Prop) : Prop :=
  Bm t38 (
    R (6 : Int) w) (
    Pn l fun a =>
    LdI .i64 (a.add 6) w fun x42 =>
    rlog_slotOf.Call (IntKind.i64.wrap (x42 + (1 : Int))) w fun r45 w1 =>
    Pn l fun a_1 =>
    LdP a_1 w1.drew fun x49 =>
    LdI .i64 ⟨e, 0, none⟩ w1.drew fun x53 =>
    LdS ⟨e, 1, none⟩ w1.drew fun x55 =>
    store_Store_PutRec.Call x49 r45 (IntKind.i64.wrap (x42 + (1 : Int))) x53 x55 w1.drew fun r57 w2 =>
    Bm (r57 != (0 : Int)) (
      R r57 w2) (
      LdI .i64 ⟨e, 0, none⟩ w2.drew fun x65 =>
      Pn l fun a_2 =>
      rlog_slotOf.Call (IntKind.i64.wrap (x42 + (1 : Int))) w2.drew fun r63 w3 =>
      w3.cell? ⟨e, 0, none⟩ = some (.int .i64 x65) ∧
      (0 ≤ r63 ∧ r63 < ((6 : Nat) : Int)) ∧
      Sts [.int .i64 x65] (Addr.add (a_2.add 7) (r63.toNat * 1)) 0 w3 fun w4 =>
      LdS ⟨e, 1, none⟩ w4.drew fun x73 =>
      Pn l fun a_3 =>
      rlog_slotOf.Call (IntKind.i64.wrap (x42 + (1 : Int))) w4.drew fun r71 w5 =>
      w5.cell? ⟨e, 1, none⟩ = some (.string x73) ∧
      (0 ≤ r71 ∧ r71 < ((6 : Nat) : Int)) ∧
      Sts [.string x73] (Addr.add (a_3.add 13) (r71.toNat * 1)) 0 w5 fun w6 =>
      Pn l fun a_4 =>
      Sts [.int .i64 (IntKind.i64.wrap (x42 + (1 : Int)))] (a_4.add 6) 0 w6 fun w7 =>
      R (0 : Int) w7))
theorem rlog_Log_Append.B2_eq (l : Option Addr) (e : Nat) (t38 : Bool) (w : World)   (R : Int → World → Prop)  :
    (
  Bm t38 (
    R (6 : Int) w) (
    Pn l fun a =>
    LdI .i64 (a.add 6) w fun x42 =>
    rlog_slotOf.Call (IntKind.i64.wrap (x42 + (1 : Int))) w fun r45 w1 =>
    Pn l fun a_1 =>
    LdP a_1 w1.drew fun x49 =>
    LdI .i64 ⟨e, 0, none⟩ w1.drew fun x53 =>
    LdS ⟨e, 1, none⟩ w1.drew fun x55 =>
    store_Store_PutRec.Call x49 r45 (IntKind.i64.wrap (x42 + (1 : Int))) x53 x55 w1.drew fun r57 w2 =>
    Bm (r57 != (0 : Int)) (
      R r57 w2) (
      LdI .i64 ⟨e, 0, none⟩ w2.drew fun x65 =>
      Pn l fun a_2 =>
      rlog_slotOf.Call (IntKind.i64.wrap (x42 + (1 : Int))) w2.drew fun r63 w3 =>
      w3.cell? ⟨e, 0, none⟩ = some (.int .i64 x65) ∧
      (0 ≤ r63 ∧ r63 < ((6 : Nat) : Int)) ∧
      Sts [.int .i64 x65] (Addr.add (a_2.add 7) (r63.toNat * 1)) 0 w3 fun w4 =>
      LdS ⟨e, 1, none⟩ w4.drew fun x73 =>
      Pn l fun a_3 =>
      rlog_slotOf.Call (IntKind.i64.wrap (x42 + (1 : Int))) w4.drew fun r71 w5 =>
      w5.cell? ⟨e, 1, none⟩ = some (.string x73) ∧
      (0 ≤ r71 ∧ r71 < ((6 : Nat) : Int)) ∧
      Sts [.string x73] (Addr.add (a_3.add 13) (r71.toNat * 1)) 0 w5 fun w6 =>
      Pn l fun a_4 =>
      Sts [.int .i64 (IntKind.i64.wrap (x42 + (1 : Int)))] (a_4.add 6) 0 w6 fun w7 =>
      R (0 : Int) w7))) = kstep Tryz.prog 81 Tryz.f173.results.toList (Tryz.f173.body.getD .skip) (rlog_Log_Append.RV R) (kvc Tryz.prog 81 Tryz.f173.results.toList (Tryz.f173.body.getD .skip) (rlog_Log_Append.RV R) [] 2000) [(0, [1, 1, 0, 1]), (0, [1, 1, 1])] [(0, .pointer l), (3, .pointer (some ⟨e, 0, none⟩)), (38, .bool t38)] w := by kernel_rfl
theorem rlog_Log_Append.B2_sound {R : Int → World → Prop}  (l : Option Addr) (e : Nat) (t38 : Bool) (w : World) (h : rlog_Log_Append.B2 l e t38 w   R) :
    KW Tryz.prog 173 81 (rlog_Log_Append.RV R) ([(0, [1, 1, 0, 1]), (0, [1, 1, 1])].map (toItem (Tryz.f173.body.getD .skip))) [(0, .pointer l), (3, .pointer (some ⟨e, 0, none⟩)), (38, .bool t38)] w := by
  exact block_spec Tryz.func173 Tryz.mixed stops_nil (Eq.mp (rlog_Log_Append.B2_eq l e t38 w   R ) h)
def rlog_Log_Append.B1 (l : Option Addr) (e : Nat) (t21 : Bool) (w : World)   (R : Int → World → Prop) : Prop :=
  Bm t21 (
    R (4 : Int) w) (
    Pn l fun a =>
    LdI .i64 (a.add 6) w.drew fun x25 =>
    Pn l fun a_1 =>
    LdI .i64 (a_1.add 3) w.drew fun x29 =>
    Bm (decide ((IntKind.i64.wrap (x25 - x29)) ≥ (6 : Int))) (
      rlog_Log_Append.B2 l e true w.drew  R) (
      Pn l fun a_2 =>
      LdI .i64 (a_2.add 6) w.drew fun x36 =>
      rlog_Log_Append.B2 l e (decide (x36 ≥ (72057594037927936 : Int))) w.drew  R))
theorem rlog_Log_Append.B1_eq (l : Option Addr) (e : Nat) (t21 : Bool) (w : World)   (R : Int → World → Prop) (sB2 : Option Addr → Nat → Bool → World → Prop) :
    (
  Bm t21 (
    R (4 : Int) w) (
    Pn l fun a =>
    LdI .i64 (a.add 6) w.drew fun x25 =>
    Pn l fun a_1 =>
    LdI .i64 (a_1.add 3) w.drew fun x29 =>
    Bm (decide ((IntKind.i64.wrap (x25 - x29)) ≥ (6 : Int))) (
      sB2 l e true w.drew) (
      Pn l fun a_2 =>
      LdI .i64 (a_2.add 6) w.drew fun x36 =>
      sB2 l e (decide (x36 ≥ (72057594037927936 : Int))) w.drew))) = kstep Tryz.prog 81 Tryz.f173.results.toList (Tryz.f173.body.getD .skip) (rlog_Log_Append.RV R) (kvc Tryz.prog 81 Tryz.f173.results.toList (Tryz.f173.body.getD .skip) (rlog_Log_Append.RV R) [([(0, [1, 1, 0, 1]), (0, [1, 1, 1])], fun σ w => dP (slotOf σ 0) fun l_ => dK (slotOf σ 3) fun e_ => dB (slotOf σ 38) fun t38_ => sB2 l_ e_ t38_ w)] 2000) [(0, [1, 0, 1]), (0, [1, 1])] [(0, .pointer l), (3, .pointer (some ⟨e, 0, none⟩)), (21, .bool t21)] w := by kernel_rfl
theorem rlog_Log_Append.B1_sound {R : Int → World → Prop}  (l : Option Addr) (e : Nat) (t21 : Bool) (w : World) (h : rlog_Log_Append.B1 l e t21 w   R) :
    KW Tryz.prog 173 81 (rlog_Log_Append.RV R) ([(0, [1, 0, 1]), (0, [1, 1])].map (toItem (Tryz.f173.body.getD .skip))) [(0, .pointer l), (3, .pointer (some ⟨e, 0, none⟩)), (21, .bool t21)] w := by
  exact block_spec Tryz.func173 Tryz.mixed (stops_cons (fun σ w h => by
      obtain ⟨l_, e0, h⟩ := dP_elim h
      obtain ⟨e_, e1, h⟩ := dK_elim h
      obtain ⟨t38_, e2, h⟩ := dB_elim h
      exact (rlog_Log_Append.B2_sound  l_ e_ t38_ w h).weaken (Sub.cons (Sub.cons (Sub.cons (Sub.nil _) e2) e1) e0)) stops_nil) (Eq.mp (rlog_Log_Append.B1_eq l e t21 w   R (fun l_ e_ t38_ w => rlog_Log_Append.B2 l_ e_ t38_ w  R)) h)
def rlog_Log_Append.B0 (l : Option Addr) (e_0 : Int) (e_1 : ByteArray) (w : World)   (R : Int → World → Prop) : Prop :=
  New (.cells #[.int .i64 e_0, .string e_1] 103) w fun e_ w1 =>
  LdI .i64 ⟨e_, 0, none⟩ w1 fun x9 =>
  Bm (decide (x9 < (0 : Int))) (
    rlog_Log_Append.B1 l e_ true w1  R) (
    LdI .i64 ⟨e_, 0, none⟩ w1 fun x13 =>
    Bm (decide (x13 > (72057594037927936 : Int))) (
      rlog_Log_Append.B1 l e_ true w1  R) (
      LdS ⟨e_, 1, none⟩ w1 fun x18 =>
      rlog_Log_Append.B1 l e_ (decide (((x18.size : Nat) : Int) > (24 : Int))) w1  R))
theorem rlog_Log_Append.B0_eq (l : Option Addr) (e_0 : Int) (e_1 : ByteArray) (w : World)   (R : Int → World → Prop) (sB1 : Option Addr → Nat → Bool → World → Prop) :
    (
  New (.cells #[.int .i64 e_0, .string e_1] 103) w fun e_ w1 =>
  LdI .i64 ⟨e_, 0, none⟩ w1 fun x9 =>
  Bm (decide (x9 < (0 : Int))) (
    sB1 l e_ true w1) (
    LdI .i64 ⟨e_, 0, none⟩ w1 fun x13 =>
    Bm (decide (x13 > (72057594037927936 : Int))) (
      sB1 l e_ true w1) (
      LdS ⟨e_, 1, none⟩ w1 fun x18 =>
      sB1 l e_ (decide (((x18.size : Nat) : Int) > (24 : Int))) w1))) = kstep Tryz.prog 81 Tryz.f173.results.toList (Tryz.f173.body.getD .skip) (rlog_Log_Append.RV R) (kvc Tryz.prog 81 Tryz.f173.results.toList (Tryz.f173.body.getD .skip) (rlog_Log_Append.RV R) [([(0, [1, 0, 1]), (0, [1, 1])], fun σ w => dP (slotOf σ 0) fun l_ => dK (slotOf σ 3) fun e_ => dB (slotOf σ 21) fun t21_ => sB1 l_ e_ t21_ w)] 2000) [(0, [])] [(0, .pointer l), (1, .agg #[.int .i64 e_0, .string e_1])] w := by kernel_rfl
theorem rlog_Log_Append.B0_sound {R : Int → World → Prop}  (l : Option Addr) (e_0 : Int) (e_1 : ByteArray) (w : World) (h : rlog_Log_Append.B0 l e_0 e_1 w   R) :
    KW Tryz.prog 173 81 (rlog_Log_Append.RV R) ([(0, [])].map (toItem (Tryz.f173.body.getD .skip))) [(0, .pointer l), (1, .agg #[.int .i64 e_0, .string e_1])] w := by
  exact block_spec Tryz.func173 Tryz.mixed (stops_cons (fun σ w h => by
      obtain ⟨l_, e0, h⟩ := dP_elim h
      obtain ⟨e_, e1, h⟩ := dK_elim h
      obtain ⟨t21_, e2, h⟩ := dB_elim h
      exact (rlog_Log_Append.B1_sound  l_ e_ t21_ w h).weaken (Sub.cons (Sub.cons (Sub.cons (Sub.nil _) e2) e1) e0)) stops_nil) (Eq.mp (rlog_Log_Append.B0_eq l e_0 e_1 w   R (fun l_ e_ t21_ w => rlog_Log_Append.B1 l_ e_ t21_ w  R)) h)
theorem rlog_Log_Append.sound (l : Option Addr) (e_0 : Int) (e_1 : ByteArray) (w : World) (R : Int → World → Prop) (h : rlog_Log_Append.B0 l e_0 e_1 w R) : rlog_Log_Append.Call l e_0 e_1 w R := by
  have hc := calls_of_block (args := #[.pointer l, .agg #[.int .i64 e_0, .string e_1]]) Tryz.func173 (body := (Tryz.f173.body.getD .skip)) (by kernel_rfl) (by kernel_rfl) (args_slot _) (rlog_Log_Append.B0_sound l e_0 e_1 w h)
  exact hc.mono fun e w' he => by
    obtain ⟨v, rfl, hv⟩ := he
    exact rlog_Log_Append.RV_elim hv
def sync_Sync_agree.B1 (s : Option Addr) (prev : Int) (ents_b : Option Addr) (ents_l ents_c : Nat) (k : Int) (t24 : Bool) (w : World) (N1 : Option Addr → Int → Option Addr → Nat → Nat → Int → World → Prop)  (R : Int → World → Prop) : Prop :=
  Bm t24 (
    Pn s fun a =>
    LdP a w fun x29 =>
    rlog_Log_TermAt.Call x29 (IntKind.i64.wrap ((IntKind.i64.wrap (prev + (1 : Int))) + k)) w fun r34_0 r34_1 w1 =>
    Pn ents_b fun a_1 =>
    (0 ≤ k ∧ k < ((ents_l : Nat) : Int)) ∧
    LdI .i64 (Addr.add a_1 (k.toNat * 2)) w1 fun x42 =>
    Bm (r34_0 != x42) (
      R k w1) (
      N1 s prev ents_b ents_l ents_c (IntKind.i64.wrap (k + (1 : Int))) w1)) (
    R k w)
theorem sync_Sync_agree.B1_eq (s : Option Addr) (prev : Int) (ents_b : Option Addr) (ents_l ents_c : Nat) (k : Int) (t24 : Bool) (w : World) (N1 : Option Addr → Int → Option Addr → Nat → Nat → Int → World → Prop)  (R : Int → World → Prop)  :
    (
  Bm t24 (
    Pn s fun a =>
    LdP a w fun x29 =>
    rlog_Log_TermAt.Call x29 (IntKind.i64.wrap ((IntKind.i64.wrap (prev + (1 : Int))) + k)) w fun r34_0 r34_1 w1 =>
    Pn ents_b fun a_1 =>
    (0 ≤ k ∧ k < ((ents_l : Nat) : Int)) ∧
    LdI .i64 (Addr.add a_1 (k.toNat * 2)) w1 fun x42 =>
    Bm (r34_0 != x42) (
      R k w1) (
      N1 s prev ents_b ents_l ents_c (IntKind.i64.wrap (k + (1 : Int))) w1)) (
    R k w)) = kstep Tryz.prog 48 Tryz.f174.results.toList (Tryz.f174.body.getD .skip) (sync_Sync_agree.RV R) (kvc Tryz.prog 48 Tryz.f174.results.toList (Tryz.f174.body.getD .skip) (sync_Sync_agree.RV R) [([(0, [1, 1, 0, 0, 0]), (2, [1, 1, 0, 0, 0]), (1, [0]), (0, [1, 1, 1])], fun σ w => dP (slotOf σ 0) fun s_ => dI .i64 (slotOf σ 1) fun prev_ => dL (slotOf σ 2) fun ents_b_ ents_l_ ents_c_ => dI .i64 (slotOf σ 7) fun k_ => N1 s_ prev_ ents_b_ ents_l_ ents_c_ k_ w)] 2000) [(0, [1, 1, 0, 0, 0, 0, 1]), (0, [1, 1, 0, 0, 0, 1]), (2, [1, 1, 0, 0, 0]), (1, [0]), (0, [1, 1, 1])] [(0, .pointer s), (1, .int .i64 prev), (2, .slice ents_b ents_l ents_c), (7, .int .i64 k), (24, .bool t24)] w := by kernel_rfl
theorem sync_Sync_agree.B1_sound {R : Int → World → Prop} {N1 : Option Addr → Int → Option Addr → Nat → Nat → Int → World → Prop} (hN1 : ∀ s prev ents_b ents_l ents_c k w, N1 s prev ents_b ents_l ents_c k w → KW Tryz.prog 174 48 (sync_Sync_agree.RV R) ([(0, [1, 1, 0, 0, 0]), (2, [1, 1, 0, 0, 0]), (1, [0]), (0, [1, 1, 1])].map (toItem (Tryz.f174.body.getD .skip))) [(0, .pointer s), (1, .int .i64 prev), (2, .slice ents_b ents_l ents_c), (7, .int .i64 k)] w) (s : Option Addr) (prev : Int) (ents_b : Option Addr) (ents_l ents_c : Nat) (k : Int) (t24 : Bool) (w : World) (h : sync_Sync_agree.B1 s prev ents_b ents_l ents_c k t24 w N1  R) :
    KW Tryz.prog 174 48 (sync_Sync_agree.RV R) ([(0, [1, 1, 0, 0, 0, 0, 1]), (0, [1, 1, 0, 0, 0, 1]), (2, [1, 1, 0, 0, 0]), (1, [0]), (0, [1, 1, 1])].map (toItem (Tryz.f174.body.getD .skip))) [(0, .pointer s), (1, .int .i64 prev), (2, .slice ents_b ents_l ents_c), (7, .int .i64 k), (24, .bool t24)] w := by
  exact block_spec Tryz.func174 Tryz.mixed (stops_cons (fun σ w h => by
      obtain ⟨s_, e0, h⟩ := dP_elim h
      obtain ⟨prev_, e1, h⟩ := dI_elim h
      obtain ⟨ents_b_, ents_l_, ents_c_, e2, h⟩ := dL_elim h
      obtain ⟨k_, e3, h⟩ := dI_elim h
      exact (hN1 s_ prev_ ents_b_ ents_l_ ents_c_ k_ w h).weaken (Sub.cons (Sub.cons (Sub.cons (Sub.cons (Sub.nil _) e3) e2) e1) e0)) stops_nil) (Eq.mp (sync_Sync_agree.B1_eq s prev ents_b ents_l ents_c k t24 w N1  R ) h)
def sync_Sync_agree.L1b (s : Option Addr) (prev : Int) (ents_b : Option Addr) (ents_l ents_c : Nat) (k : Int) (w : World)  (N1 : Option Addr → Int → Option Addr → Nat → Nat → Int → World → Prop) (R : Int → World → Prop) : Prop :=
  Bm (decide (k < ((ents_l : Nat) : Int))) (
    Pn s fun a =>
    LdI .i64 (a.add 9) w fun x22 =>
    sync_Sync_agree.B1 s prev ents_b ents_l ents_c k (decide ((IntKind.i64.wrap ((IntKind.i64.wrap (prev + (1 : Int))) + k)) ≤ x22)) w N1 R) (
    sync_Sync_agree.B1 s prev ents_b ents_l ents_c k false w N1 R)
theorem sync_Sync_agree.L1b_eq (s : Option Addr) (prev : Int) (ents_b : Option Addr) (ents_l ents_c : Nat) (k : Int) (w : World)  (N1 : Option Addr → Int → Option Addr → Nat → Nat → Int → World → Prop) (R : Int → World → Prop) (sB1 : Option Addr → Int → Option Addr → Nat → Nat → Int → Bool → World → Prop) :
    (
  Bm (decide (k < ((ents_l : Nat) : Int))) (
    Pn s fun a =>
    LdI .i64 (a.add 9) w fun x22 =>
    sB1 s prev ents_b ents_l ents_c k (decide ((IntKind.i64.wrap ((IntKind.i64.wrap (prev + (1 : Int))) + k)) ≤ x22)) w) (
    sB1 s prev ents_b ents_l ents_c k false w)) = kstep Tryz.prog 48 Tryz.f174.results.toList (Tryz.f174.body.getD .skip) (sync_Sync_agree.RV R) (kvc Tryz.prog 48 Tryz.f174.results.toList (Tryz.f174.body.getD .skip) (sync_Sync_agree.RV R) [([(0, [1, 1, 0, 0, 0, 0, 1]), (0, [1, 1, 0, 0, 0, 1]), (2, [1, 1, 0, 0, 0]), (1, [0]), (0, [1, 1, 1])], fun σ w => dP (slotOf σ 0) fun s_ => dI .i64 (slotOf σ 1) fun prev_ => dL (slotOf σ 2) fun ents_b_ ents_l_ ents_c_ => dI .i64 (slotOf σ 7) fun k_ => dB (slotOf σ 24) fun t24_ => sB1 s_ prev_ ents_b_ ents_l_ ents_c_ k_ t24_ w)] 2000) [(0, [1, 1, 0, 0, 0]), (2, [1, 1, 0, 0, 0]), (1, [0]), (0, [1, 1, 1])] [(0, .pointer s), (1, .int .i64 prev), (2, .slice ents_b ents_l ents_c), (7, .int .i64 k)] w := by kernel_rfl
theorem sync_Sync_agree.L1b_sound {R : Int → World → Prop} {N1 : Option Addr → Int → Option Addr → Nat → Nat → Int → World → Prop} (hN1 : ∀ s prev ents_b ents_l ents_c k w, N1 s prev ents_b ents_l ents_c k w → KW Tryz.prog 174 48 (sync_Sync_agree.RV R) ([(0, [1, 1, 0, 0, 0]), (2, [1, 1, 0, 0, 0]), (1, [0]), (0, [1, 1, 1])].map (toItem (Tryz.f174.body.getD .skip))) [(0, .pointer s), (1, .int .i64 prev), (2, .slice ents_b ents_l ents_c), (7, .int .i64 k)] w) (s : Option Addr) (prev : Int) (ents_b : Option Addr) (ents_l ents_c : Nat) (k : Int) (w : World) (h : sync_Sync_agree.L1b s prev ents_b ents_l ents_c k w  N1 R) :
    KW Tryz.prog 174 48 (sync_Sync_agree.RV R) ([(0, [1, 1, 0, 0, 0]), (2, [1, 1, 0, 0, 0]), (1, [0]), (0, [1, 1, 1])].map (toItem (Tryz.f174.body.getD .skip))) [(0, .pointer s), (1, .int .i64 prev), (2, .slice ents_b ents_l ents_c), (7, .int .i64 k)] w := by
  exact block_spec Tryz.func174 Tryz.mixed (stops_cons (fun σ w h => by
      obtain ⟨s_, e0, h⟩ := dP_elim h
      obtain ⟨prev_, e1, h⟩ := dI_elim h
      obtain ⟨ents_b_, ents_l_, ents_c_, e2, h⟩ := dL_elim h
      obtain ⟨k_, e3, h⟩ := dI_elim h
      obtain ⟨t24_, e4, h⟩ := dB_elim h
      exact (sync_Sync_agree.B1_sound hN1 s_ prev_ ents_b_ ents_l_ ents_c_ k_ t24_ w h).weaken (Sub.cons (Sub.cons (Sub.cons (Sub.cons (Sub.cons (Sub.nil _) e4) e3) e2) e1) e0)) stops_nil) (Eq.mp (sync_Sync_agree.L1b_eq s prev ents_b ents_l ents_c k w  N1 R (fun s_ prev_ ents_b_ ents_l_ ents_c_ k_ t24_ w => sync_Sync_agree.B1 s_ prev_ ents_b_ ents_l_ ents_c_ k_ t24_ w N1 R)) h)
def sync_Sync_agree.L1 (s : Option Addr) (prev : Int) (ents_b : Option Addr) (ents_l ents_c : Nat) (k : Int) (w : World)  (R : Int → World → Prop) : Prop :=
  ∃ (I : Nat → Option Addr → Int → Option Addr → Nat → Nat → Int → World → Prop) (m : Nat), I m s prev ents_b ents_l ents_c k w ∧ ∀ m s prev ents_b ents_l ents_c k w, I m s prev ents_b ents_l ents_c k w → sync_Sync_agree.L1b s prev ents_b ents_l ents_c k w  (fun s' prev' ents_b' ents_l' ents_c' k' w' => ∃ m', m' < m ∧ I m' s' prev' ents_b' ents_l' ents_c' k' w') R
theorem sync_Sync_agree.L1_sound {R : Int → World → Prop}  (s : Option Addr) (prev : Int) (ents_b : Option Addr) (ents_l ents_c : Nat) (k : Int) (w : World) (h : sync_Sync_agree.L1 s prev ents_b ents_l ents_c k w  R) :
    KW Tryz.prog 174 48 (sync_Sync_agree.RV R) ([(0, [1, 1, 0, 0, 0]), (2, [1, 1, 0, 0, 0]), (1, [0]), (0, [1, 1, 1])].map (toItem (Tryz.f174.body.getD .skip))) [(0, .pointer s), (1, .int .i64 prev), (2, .slice ents_b ents_l ents_c), (7, .int .i64 k)] w := by
  obtain ⟨I, m, hBase, hr⟩ := h
  refine KW.loop (fun m σ w => ∃ (s : Option Addr) (prev : Int) (ents_b : Option Addr) (ents_l ents_c : Nat) (k : Int), σ = [(0, .pointer s), (1, .int .i64 prev), (2, .slice ents_b ents_l ents_c), (7, .int .i64 k)] ∧ I m s prev ents_b ents_l ents_c k w) ?_ m _ w ⟨s, prev, ents_b, ents_l, ents_c, k, rfl, hBase⟩
  rintro m ih σ w ⟨s, prev, ents_b, ents_l, ents_c, k, rfl, hI⟩
  exact sync_Sync_agree.L1b_sound  (N1 := fun s' prev' ents_b' ents_l' ents_c' k' w' => ∃ m', m' < m ∧ I m' s' prev' ents_b' ents_l' ents_c' k' w') (fun s' prev' ents_b' ents_l' ents_c' k' w' hx => by obtain ⟨m', hlt, hI'⟩ := hx; exact ih m' hlt _ w' ⟨s', prev', ents_b', ents_l', ents_c', k', rfl, hI'⟩) s prev ents_b ents_l ents_c k w (hr m s prev ents_b ents_l ents_c k w hI)
def sync_Sync_agree.B0 (s : Option Addr) (prev : Int) (ents_b : Option Addr) (ents_l ents_c : Nat) (w : World)   (R : Int → World → Prop) : Prop :=
  sync_Sync_agree.L1 s prev ents_b ents_l ents_c (0 : Int) w  R
theorem sync_Sync_agree.B0_eq (s : Option Addr) (prev : Int) (ents_b : Option Addr) (ents_l ents_c : Nat) (w : World)   (R : Int → World → Prop) (sL1 : Option Addr → Int → Option Addr → Nat → Nat → Int → World → Prop) :
    (
  sL1 s prev ents_b ents_l ents_c (0 : Int) w) = kstep Tryz.prog 48 Tryz.f174.results.toList (Tryz.f174.body.getD .skip) (sync_Sync_agree.RV R) (kvc Tryz.prog 48 Tryz.f174.results.toList (Tryz.f174.body.getD .skip) (sync_Sync_agree.RV R) [([(0, [1, 1, 0, 0, 0]), (2, [1, 1, 0, 0, 0]), (1, [0]), (0, [1, 1, 1])], fun σ w => dP (slotOf σ 0) fun s_ => dI .i64 (slotOf σ 1) fun prev_ => dL (slotOf σ 2) fun ents_b_ ents_l_ ents_c_ => dI .i64 (slotOf σ 7) fun k_ => sL1 s_ prev_ ents_b_ ents_l_ ents_c_ k_ w)] 2000) [(0, [])] [(0, .pointer s), (1, .int .i64 prev), (2, .slice ents_b ents_l ents_c)] w := by kernel_rfl
theorem sync_Sync_agree.B0_sound {R : Int → World → Prop}  (s : Option Addr) (prev : Int) (ents_b : Option Addr) (ents_l ents_c : Nat) (w : World) (h : sync_Sync_agree.B0 s prev ents_b ents_l ents_c w   R) :
    KW Tryz.prog 174 48 (sync_Sync_agree.RV R) ([(0, [])].map (toItem (Tryz.f174.body.getD .skip))) [(0, .pointer s), (1, .int .i64 prev), (2, .slice ents_b ents_l ents_c)] w := by
  exact block_spec Tryz.func174 Tryz.mixed (stops_cons (fun σ w h => by
      obtain ⟨s_, e0, h⟩ := dP_elim h
      obtain ⟨prev_, e1, h⟩ := dI_elim h
      obtain ⟨ents_b_, ents_l_, ents_c_, e2, h⟩ := dL_elim h
      obtain ⟨k_, e3, h⟩ := dI_elim h
      exact (sync_Sync_agree.L1_sound  s_ prev_ ents_b_ ents_l_ ents_c_ k_ w h).weaken (Sub.cons (Sub.cons (Sub.cons (Sub.cons (Sub.nil _) e3) e2) e1) e0)) stops_nil) (Eq.mp (sync_Sync_agree.B0_eq s prev ents_b ents_l ents_c w   R (fun s_ prev_ ents_b_ ents_l_ ents_c_ k_ w => sync_Sync_agree.L1 s_ prev_ ents_b_ ents_l_ ents_c_ k_ w  R)) h)
theorem sync_Sync_agree.sound (s : Option Addr) (prev : Int) (ents_b : Option Addr) (ents_l ents_c : Nat) (w : World) (R : Int → World → Prop) (h : sync_Sync_agree.B0 s prev ents_b ents_l ents_c w R) : sync_Sync_agree.Call s prev ents_b ents_l ents_c w R := by
  have hc := calls_of_block (args := #[.pointer s, .int .i64 prev, .slice ents_b ents_l ents_c]) Tryz.func174 (body := (Tryz.f174.body.getD .skip)) (by kernel_rfl) (by kernel_rfl) (args_slot _) (sync_Sync_agree.B0_sound s prev ents_b ents_l ents_c w h)
  exact hc.mono fun e w' he => by
    obtain ⟨v, rfl, hv⟩ := he
    exact sync_Sync_agree.RV_elim hv
def sync_Sync_repair.L1b (s : Option Addr) (i : Int) (ents_b : Option Addr) (ents_l ents_c : Nat) (k : Int) (w : World)  (N1 : Option Addr → Int → Option Addr → Nat → Nat → Int → World → Prop) (R : Int → World → Prop) : Prop :=
  Bm (decide (k < ((ents_l : Nat) : Int))) (
    Pn ents_b fun a =>
    (0 ≤ k ∧ k < ((ents_l : Nat) : Int)) ∧
    LdI .i64 (Addr.add a (k.toNat * 2)) w fun x40_0 =>
    LdS ((Addr.add a (k.toNat * 2)).add 1) w fun x40_1 =>
    sync_Sync_grow.Call s x40_0 x40_1 w fun r41 w1 =>
    Bm (r41 != (0 : Int)) (
      R (IntKind.i64.wrap (i - (1 : Int))) w1) (
      N1 s (IntKind.i64.wrap (i + (1 : Int))) ents_b ents_l ents_c (IntKind.i64.wrap (k + (1 : Int))) w1)) (
    R (IntKind.i64.wrap (i - (1 : Int))) w)
theorem sync_Sync_repair.L1b_eq (s : Option Addr) (i : Int) (ents_b : Option Addr) (ents_l ents_c : Nat) (k : Int) (w : World)  (N1 : Option Addr → Int → Option Addr → Nat → Nat → Int → World → Prop) (R : Int → World → Prop)  :
    (
  Bm (decide (k < ((ents_l : Nat) : Int))) (
    Pn ents_b fun a =>
    (0 ≤ k ∧ k < ((ents_l : Nat) : Int)) ∧
    LdI .i64 (Addr.add a (k.toNat * 2)) w fun x40_0 =>
    LdS ((Addr.add a (k.toNat * 2)).add 1) w fun x40_1 =>
    sync_Sync_grow.Call s x40_0 x40_1 w fun r41 w1 =>
    Bm (r41 != (0 : Int)) (
      R (IntKind.i64.wrap (i - (1 : Int))) w1) (
      N1 s (IntKind.i64.wrap (i + (1 : Int))) ents_b ents_l ents_c (IntKind.i64.wrap (k + (1 : Int))) w1)) (
    R (IntKind.i64.wrap (i - (1 : Int))) w)) = kstep Tryz.prog 52 Tryz.f175.results.toList (Tryz.f175.body.getD .skip) (sync_Sync_repair.RV R) (kvc Tryz.prog 52 Tryz.f175.results.toList (Tryz.f175.body.getD .skip) (sync_Sync_repair.RV R) [([(0, [1, 1, 0, 0, 0]), (2, [1, 1, 0, 0, 0]), (1, [0]), (0, [1, 1, 1])], fun σ w => dP (slotOf σ 0) fun s_ => dI .i64 (slotOf σ 1) fun i_ => dL (slotOf σ 2) fun ents_b_ ents_l_ ents_c_ => dI .i64 (slotOf σ 3) fun k_ => N1 s_ i_ ents_b_ ents_l_ ents_c_ k_ w)] 2000) [(0, [1, 1, 0, 0, 0]), (2, [1, 1, 0, 0, 0]), (1, [0]), (0, [1, 1, 1])] [(0, .pointer s), (1, .int .i64 i), (2, .slice ents_b ents_l ents_c), (3, .int .i64 k)] w := by kernel_rfl
theorem sync_Sync_repair.L1b_sound {R : Int → World → Prop} {N1 : Option Addr → Int → Option Addr → Nat → Nat → Int → World → Prop} (hN1 : ∀ s i ents_b ents_l ents_c k w, N1 s i ents_b ents_l ents_c k w → KW Tryz.prog 175 52 (sync_Sync_repair.RV R) ([(0, [1, 1, 0, 0, 0]), (2, [1, 1, 0, 0, 0]), (1, [0]), (0, [1, 1, 1])].map (toItem (Tryz.f175.body.getD .skip))) [(0, .pointer s), (1, .int .i64 i), (2, .slice ents_b ents_l ents_c), (3, .int .i64 k)] w) (s : Option Addr) (i : Int) (ents_b : Option Addr) (ents_l ents_c : Nat) (k : Int) (w : World) (h : sync_Sync_repair.L1b s i ents_b ents_l ents_c k w  N1 R) :
    KW Tryz.prog 175 52 (sync_Sync_repair.RV R) ([(0, [1, 1, 0, 0, 0]), (2, [1, 1, 0, 0, 0]), (1, [0]), (0, [1, 1, 1])].map (toItem (Tryz.f175.body.getD .skip))) [(0, .pointer s), (1, .int .i64 i), (2, .slice ents_b ents_l ents_c), (3, .int .i64 k)] w := by
  exact block_spec Tryz.func175 Tryz.mixed (stops_cons (fun σ w h => by
      obtain ⟨s_, e0, h⟩ := dP_elim h
      obtain ⟨i_, e1, h⟩ := dI_elim h
      obtain ⟨ents_b_, ents_l_, ents_c_, e2, h⟩ := dL_elim h
      obtain ⟨k_, e3, h⟩ := dI_elim h
      exact (hN1 s_ i_ ents_b_ ents_l_ ents_c_ k_ w h).weaken (Sub.cons (Sub.cons (Sub.cons (Sub.cons (Sub.nil _) e3) e2) e1) e0)) stops_nil) (Eq.mp (sync_Sync_repair.L1b_eq s i ents_b ents_l ents_c k w  N1 R ) h)
def sync_Sync_repair.L1 (s : Option Addr) (i : Int) (ents_b : Option Addr) (ents_l ents_c : Nat) (k : Int) (w : World)  (R : Int → World → Prop) : Prop :=
  ∃ (I : Nat → Option Addr → Int → Option Addr → Nat → Nat → Int → World → Prop) (m : Nat), I m s i ents_b ents_l ents_c k w ∧ ∀ m s i ents_b ents_l ents_c k w, I m s i ents_b ents_l ents_c k w → sync_Sync_repair.L1b s i ents_b ents_l ents_c k w  (fun s' i' ents_b' ents_l' ents_c' k' w' => ∃ m', m' < m ∧ I m' s' i' ents_b' ents_l' ents_c' k' w') R
theorem sync_Sync_repair.L1_sound {R : Int → World → Prop}  (s : Option Addr) (i : Int) (ents_b : Option Addr) (ents_l ents_c : Nat) (k : Int) (w : World) (h : sync_Sync_repair.L1 s i ents_b ents_l ents_c k w  R) :
    KW Tryz.prog 175 52 (sync_Sync_repair.RV R) ([(0, [1, 1, 0, 0, 0]), (2, [1, 1, 0, 0, 0]), (1, [0]), (0, [1, 1, 1])].map (toItem (Tryz.f175.body.getD .skip))) [(0, .pointer s), (1, .int .i64 i), (2, .slice ents_b ents_l ents_c), (3, .int .i64 k)] w := by
  obtain ⟨I, m, hBase, hr⟩ := h
  refine KW.loop (fun m σ w => ∃ (s : Option Addr) (i : Int) (ents_b : Option Addr) (ents_l ents_c : Nat) (k : Int), σ = [(0, .pointer s), (1, .int .i64 i), (2, .slice ents_b ents_l ents_c), (3, .int .i64 k)] ∧ I m s i ents_b ents_l ents_c k w) ?_ m _ w ⟨s, i, ents_b, ents_l, ents_c, k, rfl, hBase⟩
  rintro m ih σ w ⟨s, i, ents_b, ents_l, ents_c, k, rfl, hI⟩
  exact sync_Sync_repair.L1b_sound  (N1 := fun s' i' ents_b' ents_l' ents_c' k' w' => ∃ m', m' < m ∧ I m' s' i' ents_b' ents_l' ents_c' k' w') (fun s' i' ents_b' ents_l' ents_c' k' w' hx => by obtain ⟨m', hlt, hI'⟩ := hx; exact ih m' hlt _ w' ⟨s', i', ents_b', ents_l', ents_c', k', rfl, hI'⟩) s i ents_b ents_l ents_c k w (hr m s i ents_b ents_l ents_c k w hI)
def sync_Sync_repair.B1 (s : Option Addr) (i : Int) (ents_b : Option Addr) (ents_l ents_c : Nat) (k : Int) (w : World)   (R : Int → World → Prop) : Prop :=
  sync_Sync_repair.L1 s i ents_b ents_l ents_c k w  R
theorem sync_Sync_repair.B1_eq (s : Option Addr) (i : Int) (ents_b : Option Addr) (ents_l ents_c : Nat) (k : Int) (w : World)   (R : Int → World → Prop) (sL1 : Option Addr → Int → Option Addr → Nat → Nat → Int → World → Prop) :
    (
  sL1 s i ents_b ents_l ents_c k w) = kstep Tryz.prog 52 Tryz.f175.results.toList (Tryz.f175.body.getD .skip) (sync_Sync_repair.RV R) (kvc Tryz.prog 52 Tryz.f175.results.toList (Tryz.f175.body.getD .skip) (sync_Sync_repair.RV R) [([(0, [1, 1, 0, 0, 0]), (2, [1, 1, 0, 0, 0]), (1, [0]), (0, [1, 1, 1])], fun σ w => dP (slotOf σ 0) fun s_ => dI .i64 (slotOf σ 1) fun i_ => dL (slotOf σ 2) fun ents_b_ ents_l_ ents_c_ => dI .i64 (slotOf σ 3) fun k_ => sL1 s_ i_ ents_b_ ents_l_ ents_c_ k_ w)] 2000) [(0, [1, 1])] [(0, .pointer s), (1, .int .i64 i), (2, .slice ents_b ents_l ents_c), (3, .int .i64 k)] w := by kernel_rfl
theorem sync_Sync_repair.B1_sound {R : Int → World → Prop}  (s : Option Addr) (i : Int) (ents_b : Option Addr) (ents_l ents_c : Nat) (k : Int) (w : World) (h : sync_Sync_repair.B1 s i ents_b ents_l ents_c k w   R) :
    KW Tryz.prog 175 52 (sync_Sync_repair.RV R) ([(0, [1, 1])].map (toItem (Tryz.f175.body.getD .skip))) [(0, .pointer s), (1, .int .i64 i), (2, .slice ents_b ents_l ents_c), (3, .int .i64 k)] w := by
  exact block_spec Tryz.func175 Tryz.mixed (stops_cons (fun σ w h => by
      obtain ⟨s_, e0, h⟩ := dP_elim h
      obtain ⟨i_, e1, h⟩ := dI_elim h
      obtain ⟨ents_b_, ents_l_, ents_c_, e2, h⟩ := dL_elim h
      obtain ⟨k_, e3, h⟩ := dI_elim h
      exact (sync_Sync_repair.L1_sound  s_ i_ ents_b_ ents_l_ ents_c_ k_ w h).weaken (Sub.cons (Sub.cons (Sub.cons (Sub.cons (Sub.nil _) e3) e2) e1) e0)) stops_nil) (Eq.mp (sync_Sync_repair.B1_eq s i ents_b ents_l ents_c k w   R (fun s_ i_ ents_b_ ents_l_ ents_c_ k_ w => sync_Sync_repair.L1 s_ i_ ents_b_ ents_l_ ents_c_ k_ w  R)) h)
def sync_Sync_repair.B0 (s : Option Addr) (i : Int) (ents_b : Option Addr) (ents_l ents_c : Nat) (k : Int) (w : World)   (R : Int → World → Prop) : Prop :=
  Pn s fun a =>
  LdI .i64 (a.add 9) w fun x14 =>
  Bm (decide (i ≤ x14)) (
    Pn s fun a_1 =>
    LdI .i64 (a_1.add 2) w fun x20 =>
    Bm (decide (i ≤ x20)) (
      R (IntKind.i64.wrap (i - (1 : Int))) w) (
      Pn s fun a_2 =>
      LdP a_2 w fun x27 =>
      rlog_Log_TruncateFrom.Call x27 i w fun r29 w1 =>
      sync_Sync_refresh.Call s w1 fun w2 =>
      sync_Sync_repair.B1 s i ents_b ents_l ents_c k w2  R)) (
    sync_Sync_repair.B1 s i ents_b ents_l ents_c k w  R)
theorem sync_Sync_repair.B0_eq (s : Option Addr) (i : Int) (ents_b : Option Addr) (ents_l ents_c : Nat) (k : Int) (w : World)   (R : Int → World → Prop) (sB1 : Option Addr → Int → Option Addr → Nat → Nat → Int → World → Prop) :
    (
  Pn s fun a =>
  LdI .i64 (a.add 9) w fun x14 =>
  Bm (decide (i ≤ x14)) (
    Pn s fun a_1 =>
    LdI .i64 (a_1.add 2) w fun x20 =>
    Bm (decide (i ≤ x20)) (
      R (IntKind.i64.wrap (i - (1 : Int))) w) (
      Pn s fun a_2 =>
      LdP a_2 w fun x27 =>
      rlog_Log_TruncateFrom.Call x27 i w fun r29 w1 =>
      sync_Sync_refresh.Call s w1 fun w2 =>
      sB1 s i ents_b ents_l ents_c k w2)) (
    sB1 s i ents_b ents_l ents_c k w)) = kstep Tryz.prog 52 Tryz.f175.results.toList (Tryz.f175.body.getD .skip) (sync_Sync_repair.RV R) (kvc Tryz.prog 52 Tryz.f175.results.toList (Tryz.f175.body.getD .skip) (sync_Sync_repair.RV R) [([(0, [1, 1])], fun σ w => dP (slotOf σ 0) fun s_ => dI .i64 (slotOf σ 1) fun i_ => dL (slotOf σ 2) fun ents_b_ ents_l_ ents_c_ => dI .i64 (slotOf σ 3) fun k_ => sB1 s_ i_ ents_b_ ents_l_ ents_c_ k_ w)] 2000) [(0, [])] [(0, .pointer s), (1, .int .i64 i), (2, .slice ents_b ents_l ents_c), (3, .int .i64 k)] w := by kernel_rfl
theorem sync_Sync_repair.B0_sound {R : Int → World → Prop}  (s : Option Addr) (i : Int) (ents_b : Option Addr) (ents_l ents_c : Nat) (k : Int) (w : World) (h : sync_Sync_repair.B0 s i ents_b ents_l ents_c k w   R) :
    KW Tryz.prog 175 52 (sync_Sync_repair.RV R) ([(0, [])].map (toItem (Tryz.f175.body.getD .skip))) [(0, .pointer s), (1, .int .i64 i), (2, .slice ents_b ents_l ents_c), (3, .int .i64 k)] w := by
  exact block_spec Tryz.func175 Tryz.mixed (stops_cons (fun σ w h => by
      obtain ⟨s_, e0, h⟩ := dP_elim h
      obtain ⟨i_, e1, h⟩ := dI_elim h
      obtain ⟨ents_b_, ents_l_, ents_c_, e2, h⟩ := dL_elim h
      obtain ⟨k_, e3, h⟩ := dI_elim h
      exact (sync_Sync_repair.B1_sound  s_ i_ ents_b_ ents_l_ ents_c_ k_ w h).weaken (Sub.cons (Sub.cons (Sub.cons (Sub.cons (Sub.nil _) e3) e2) e1) e0)) stops_nil) (Eq.mp (sync_Sync_repair.B0_eq s i ents_b ents_l ents_c k w   R (fun s_ i_ ents_b_ ents_l_ ents_c_ k_ w => sync_Sync_repair.B1 s_ i_ ents_b_ ents_l_ ents_c_ k_ w  R)) h)
theorem sync_Sync_repair.sound (s : Option Addr) (i : Int) (ents_b : Option Addr) (ents_l ents_c : Nat) (k : Int) (w : World) (R : Int → World → Prop) (h : sync_Sync_repair.B0 s i ents_b ents_l ents_c k w R) : sync_Sync_repair.Call s i ents_b ents_l ents_c k w R := by
  have hc := calls_of_block (args := #[.pointer s, .int .i64 i, .slice ents_b ents_l ents_c, .int .i64 k]) Tryz.func175 (body := (Tryz.f175.body.getD .skip)) (by kernel_rfl) (by kernel_rfl) (args_slot _) (sync_Sync_repair.B0_sound s i ents_b ents_l ents_c k w h)
  exact hc.mono fun e w' he => by
    obtain ⟨v, rfl, hv⟩ := he
    exact sync_Sync_repair.RV_elim hv
end Go.Proofs.Qxb6500433aGreat
