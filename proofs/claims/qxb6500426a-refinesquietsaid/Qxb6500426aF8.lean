import Derived.Test.Qxb6500426aSig
set_option maxRecDepth 100000
set_option linter.unusedVariables false
open Go.Vc
namespace Go.Proofs.Qxb6500426a
def seg_sums_add.B0 (x : Option Addr) (b : Int) (w : World)   (R : World → Prop) : Prop :=
  Pn x fun a =>
  LdI .u8 a w fun x7 =>
  Pn x fun a_1 =>
  Sts [.int .u8 (IntKind.u8.wrap (x7 + b))] a_1 0 w fun w1 =>
  Pn x fun a_2 =>
  LdI .u8 (a_2.add 1) w1.drew fun x15 =>
  Pn x fun a_3 =>
  LdI .u8 a_3 w1.drew fun x19 =>
  Pn x fun a_4 =>
  Sts [.int .u8 (IntKind.u8.wrap (x15 + x19))] (a_4.add 1) 0 w1.drew fun w2 =>
  R  w2
theorem seg_sums_add.B0_eq (x : Option Addr) (b : Int) (w : World)   (R : World → Prop)  :
    (
  Pn x fun a =>
  LdI .u8 a w fun x7 =>
  Pn x fun a_1 =>
  Sts [.int .u8 (IntKind.u8.wrap (x7 + b))] a_1 0 w fun w1 =>
  Pn x fun a_2 =>
  LdI .u8 (a_2.add 1) w1.drew fun x15 =>
  Pn x fun a_3 =>
  LdI .u8 a_3 w1.drew fun x19 =>
  Pn x fun a_4 =>
  Sts [.int .u8 (IntKind.u8.wrap (x15 + x19))] (a_4.add 1) 0 w1.drew fun w2 =>
  R  w2) = kstep Try.prog 23 Try.f82.results.toList (Try.f82.body.getD .skip) (seg_sums_add.RV R) (kvc Try.prog 23 Try.f82.results.toList (Try.f82.body.getD .skip) (seg_sums_add.RV R) [] 2000) [(0, [])] [(0, .pointer x), (1, .int .u8 b)] w := by kernel_rfl
theorem seg_sums_add.B0_sound {R : World → Prop}  (x : Option Addr) (b : Int) (w : World) (h : seg_sums_add.B0 x b w   R) :
    KW Try.prog 82 23 (seg_sums_add.RV R) ([(0, [])].map (toItem (Try.f82.body.getD .skip))) [(0, .pointer x), (1, .int .u8 b)] w := by
  exact block_spec Try.func82 Try.mixed stops_nil (Eq.mp (seg_sums_add.B0_eq x b w   R ) h)
theorem seg_sums_add.sound (x : Option Addr) (b : Int) (w : World) (R : World → Prop) (h : seg_sums_add.B0 x b w R) : seg_sums_add.Call x b w R := by
  have hc := calls_of_block (args := #[.pointer x, .int .u8 b]) Try.func82 (body := (Try.f82.body.getD .skip)) (by kernel_rfl) (by kernel_rfl) (args_slot _) (seg_sums_add.B0_sound x b w h)
  exact hc.mono fun e w' he => by
    obtain ⟨v, rfl, hv⟩ := he
    exact seg_sums_add.RV_elim hv
def seg_sums_all.L1b (x b_b : Option Addr) (b_l b_c : Nat) (i : Int) (w : World)  (N1 : Option Addr → Option Addr → Nat → Nat → Int → World → Prop) (R : World → Prop) : Prop :=
  Bm (decide (i < ((b_l : Nat) : Int))) (
    Pn b_b fun a =>
    (0 ≤ i ∧ i < ((b_l : Nat) : Int)) ∧
    LdI .u8 (Addr.add a (i.toNat * 1)) w fun x15 =>
    seg_sums_add.Call x x15 w fun w1 =>
    N1 x b_b b_l b_c (IntKind.i64.wrap (i + (1 : Int))) w1) (
    R  w)
theorem seg_sums_all.L1b_eq (x b_b : Option Addr) (b_l b_c : Nat) (i : Int) (w : World)  (N1 : Option Addr → Option Addr → Nat → Nat → Int → World → Prop) (R : World → Prop)  :
    (
  Bm (decide (i < ((b_l : Nat) : Int))) (
    Pn b_b fun a =>
    (0 ≤ i ∧ i < ((b_l : Nat) : Int)) ∧
    LdI .u8 (Addr.add a (i.toNat * 1)) w fun x15 =>
    seg_sums_add.Call x x15 w fun w1 =>
    N1 x b_b b_l b_c (IntKind.i64.wrap (i + (1 : Int))) w1) (
    R  w)) = kstep Try.prog 17 Try.f83.results.toList (Try.f83.body.getD .skip) (seg_sums_all.RV R) (kvc Try.prog 17 Try.f83.results.toList (Try.f83.body.getD .skip) (seg_sums_all.RV R) [([(0, [1, 0, 0]), (2, [1, 0, 0]), (1, [0])], fun σ w => dP (slotOf σ 0) fun x_ => dL (slotOf σ 1) fun b_b_ b_l_ b_c_ => dI .i64 (slotOf σ 4) fun i_ => N1 x_ b_b_ b_l_ b_c_ i_ w)] 2000) [(0, [1, 0, 0]), (2, [1, 0, 0]), (1, [0])] [(0, .pointer x), (1, .slice b_b b_l b_c), (4, .int .i64 i)] w := by kernel_rfl
theorem seg_sums_all.L1b_sound {R : World → Prop} {N1 : Option Addr → Option Addr → Nat → Nat → Int → World → Prop} (hN1 : ∀ x b_b b_l b_c i w, N1 x b_b b_l b_c i w → KW Try.prog 83 17 (seg_sums_all.RV R) ([(0, [1, 0, 0]), (2, [1, 0, 0]), (1, [0])].map (toItem (Try.f83.body.getD .skip))) [(0, .pointer x), (1, .slice b_b b_l b_c), (4, .int .i64 i)] w) (x b_b : Option Addr) (b_l b_c : Nat) (i : Int) (w : World) (h : seg_sums_all.L1b x b_b b_l b_c i w  N1 R) :
    KW Try.prog 83 17 (seg_sums_all.RV R) ([(0, [1, 0, 0]), (2, [1, 0, 0]), (1, [0])].map (toItem (Try.f83.body.getD .skip))) [(0, .pointer x), (1, .slice b_b b_l b_c), (4, .int .i64 i)] w := by
  exact block_spec Try.func83 Try.mixed (stops_cons (fun σ w h => by
      obtain ⟨x_, e0, h⟩ := dP_elim h
      obtain ⟨b_b_, b_l_, b_c_, e1, h⟩ := dL_elim h
      obtain ⟨i_, e2, h⟩ := dI_elim h
      exact (hN1 x_ b_b_ b_l_ b_c_ i_ w h).weaken (Sub.cons (Sub.cons (Sub.cons (Sub.nil _) e2) e1) e0)) stops_nil) (Eq.mp (seg_sums_all.L1b_eq x b_b b_l b_c i w  N1 R ) h)
def seg_sums_all.L1 (x b_b : Option Addr) (b_l b_c : Nat) (i : Int) (w : World)  (R : World → Prop) : Prop :=
  ∃ (I : Nat → Option Addr → Option Addr → Nat → Nat → Int → World → Prop) (m : Nat), I m x b_b b_l b_c i w ∧ ∀ m x b_b b_l b_c i w, I m x b_b b_l b_c i w → seg_sums_all.L1b x b_b b_l b_c i w  (fun x' b_b' b_l' b_c' i' w' => ∃ m', m' < m ∧ I m' x' b_b' b_l' b_c' i' w') R
theorem seg_sums_all.L1_sound {R : World → Prop}  (x b_b : Option Addr) (b_l b_c : Nat) (i : Int) (w : World) (h : seg_sums_all.L1 x b_b b_l b_c i w  R) :
    KW Try.prog 83 17 (seg_sums_all.RV R) ([(0, [1, 0, 0]), (2, [1, 0, 0]), (1, [0])].map (toItem (Try.f83.body.getD .skip))) [(0, .pointer x), (1, .slice b_b b_l b_c), (4, .int .i64 i)] w := by
  obtain ⟨I, m, hBase, hr⟩ := h
  refine KW.loop (fun m σ w => ∃ (x b_b : Option Addr) (b_l b_c : Nat) (i : Int), σ = [(0, .pointer x), (1, .slice b_b b_l b_c), (4, .int .i64 i)] ∧ I m x b_b b_l b_c i w) ?_ m _ w ⟨x, b_b, b_l, b_c, i, rfl, hBase⟩
  rintro m ih σ w ⟨x, b_b, b_l, b_c, i, rfl, hI⟩
  exact seg_sums_all.L1b_sound  (N1 := fun x' b_b' b_l' b_c' i' w' => ∃ m', m' < m ∧ I m' x' b_b' b_l' b_c' i' w') (fun x' b_b' b_l' b_c' i' w' hx => by obtain ⟨m', hlt, hI'⟩ := hx; exact ih m' hlt _ w' ⟨x', b_b', b_l', b_c', i', rfl, hI'⟩) x b_b b_l b_c i w (hr m x b_b b_l b_c i w hI)
def seg_sums_all.B0 (x b_b : Option Addr) (b_l b_c : Nat) (w : World)   (R : World → Prop) : Prop :=
  seg_sums_all.L1 x b_b b_l b_c (0 : Int) w  R
theorem seg_sums_all.B0_eq (x b_b : Option Addr) (b_l b_c : Nat) (w : World)   (R : World → Prop) (sL1 : Option Addr → Option Addr → Nat → Nat → Int → World → Prop) :
    (
  sL1 x b_b b_l b_c (0 : Int) w) = kstep Try.prog 17 Try.f83.results.toList (Try.f83.body.getD .skip) (seg_sums_all.RV R) (kvc Try.prog 17 Try.f83.results.toList (Try.f83.body.getD .skip) (seg_sums_all.RV R) [([(0, [1, 0, 0]), (2, [1, 0, 0]), (1, [0])], fun σ w => dP (slotOf σ 0) fun x_ => dL (slotOf σ 1) fun b_b_ b_l_ b_c_ => dI .i64 (slotOf σ 4) fun i_ => sL1 x_ b_b_ b_l_ b_c_ i_ w)] 2000) [(0, [])] [(0, .pointer x), (1, .slice b_b b_l b_c)] w := by kernel_rfl
theorem seg_sums_all.B0_sound {R : World → Prop}  (x b_b : Option Addr) (b_l b_c : Nat) (w : World) (h : seg_sums_all.B0 x b_b b_l b_c w   R) :
    KW Try.prog 83 17 (seg_sums_all.RV R) ([(0, [])].map (toItem (Try.f83.body.getD .skip))) [(0, .pointer x), (1, .slice b_b b_l b_c)] w := by
  exact block_spec Try.func83 Try.mixed (stops_cons (fun σ w h => by
      obtain ⟨x_, e0, h⟩ := dP_elim h
      obtain ⟨b_b_, b_l_, b_c_, e1, h⟩ := dL_elim h
      obtain ⟨i_, e2, h⟩ := dI_elim h
      exact (seg_sums_all.L1_sound  x_ b_b_ b_l_ b_c_ i_ w h).weaken (Sub.cons (Sub.cons (Sub.cons (Sub.nil _) e2) e1) e0)) stops_nil) (Eq.mp (seg_sums_all.B0_eq x b_b b_l b_c w   R (fun x_ b_b_ b_l_ b_c_ i_ w => seg_sums_all.L1 x_ b_b_ b_l_ b_c_ i_ w  R)) h)
theorem seg_sums_all.sound (x b_b : Option Addr) (b_l b_c : Nat) (w : World) (R : World → Prop) (h : seg_sums_all.B0 x b_b b_l b_c w R) : seg_sums_all.Call x b_b b_l b_c w R := by
  have hc := calls_of_block (args := #[.pointer x, .slice b_b b_l b_c]) Try.func83 (body := (Try.f83.body.getD .skip)) (by kernel_rfl) (by kernel_rfl) (args_slot _) (seg_sums_all.B0_sound x b_b b_l b_c w h)
  exact hc.mono fun e w' he => by
    obtain ⟨v, rfl, hv⟩ := he
    exact seg_sums_all.RV_elim hv
def api_SeqDiff.B0 (a b : Int) (w : World)   (R : Int → World → Prop) : Prop :=
  (256 : Int) ≠ 0 ∧
  api_SeqAdd.Call a (IntKind.i64.wrap (0 - (b.tmod (256 : Int)))) w fun r10 w1 =>
  Bm (decide (r10 ≥ (128 : Int))) (
    R (IntKind.i64.wrap (r10 - (256 : Int))) w1) (
    R r10 w1)
theorem api_SeqDiff.B0_eq (a b : Int) (w : World)   (R : Int → World → Prop)  :
    (
  (256 : Int) ≠ 0 ∧
  api_SeqAdd.Call a (IntKind.i64.wrap (0 - (b.tmod (256 : Int)))) w fun r10 w1 =>
  Bm (decide (r10 ≥ (128 : Int))) (
    R (IntKind.i64.wrap (r10 - (256 : Int))) w1) (
    R r10 w1)) = kstep Try.prog 16 Try.f84.results.toList (Try.f84.body.getD .skip) (api_SeqDiff.RV R) (kvc Try.prog 16 Try.f84.results.toList (Try.f84.body.getD .skip) (api_SeqDiff.RV R) [] 2000) [(0, [])] [(0, .int .i64 a), (1, .int .i64 b)] w := by kernel_rfl
theorem api_SeqDiff.B0_sound {R : Int → World → Prop}  (a b : Int) (w : World) (h : api_SeqDiff.B0 a b w   R) :
    KW Try.prog 84 16 (api_SeqDiff.RV R) ([(0, [])].map (toItem (Try.f84.body.getD .skip))) [(0, .int .i64 a), (1, .int .i64 b)] w := by
  exact block_spec Try.func84 Try.mixed stops_nil (Eq.mp (api_SeqDiff.B0_eq a b w   R ) h)
theorem api_SeqDiff.sound (a b : Int) (w : World) (R : Int → World → Prop) (h : api_SeqDiff.B0 a b w R) : api_SeqDiff.Call a b w R := by
  have hc := calls_of_block (args := #[.int .i64 a, .int .i64 b]) Try.func84 (body := (Try.f84.body.getD .skip)) (by kernel_rfl) (by kernel_rfl) (args_slot _) (api_SeqDiff.B0_sound a b w h)
  exact hc.mono fun e w' he => by
    obtain ⟨v, rfl, hv⟩ := he
    exact api_SeqDiff.RV_elim hv
end Go.Proofs.Qxb6500426a
