import Derived.Test.Qxb6500432aSig
set_option maxRecDepth 100000
set_option linter.unusedVariables false
open Go.Vc
namespace Go.Proofs.Qxb6500432a
def store_put8.L1b (b_b : Option Addr) (b_l b_c : Nat) (at0 v i : Int) (w : World)  (N1 : Option Addr → Nat → Nat → Int → Int → Int → World → Prop) (R : Option Addr → Nat → Nat → World → Prop) : Prop :=
  Bm (decide (i ≥ (0 : Int))) (
    Pn b_b fun a =>
    (0 ≤ (IntKind.i64.wrap (at0 + i)) ∧ (IntKind.i64.wrap (at0 + i)) < ((b_l : Nat) : Int)) ∧
    Sts [.int .u8 (IntKind.u8.wrap v)] (Addr.add a ((IntKind.i64.wrap (at0 + i)).toNat * 1)) 0 w fun w1 =>
    0 ≤ (8 : Int) ∧
    N1 b_b b_l b_c at0 (v.fdiv (2 ^ (min (8 : Int).toNat IntKind.i64.bits))) (IntKind.i64.wrap (i - (1 : Int))) w1) (
    R b_b b_l b_c w)
theorem store_put8.L1b_eq (b_b : Option Addr) (b_l b_c : Nat) (at0 v i : Int) (w : World)  (N1 : Option Addr → Nat → Nat → Int → Int → Int → World → Prop) (R : Option Addr → Nat → Nat → World → Prop)  :
    (
  Bm (decide (i ≥ (0 : Int))) (
    Pn b_b fun a =>
    (0 ≤ (IntKind.i64.wrap (at0 + i)) ∧ (IntKind.i64.wrap (at0 + i)) < ((b_l : Nat) : Int)) ∧
    Sts [.int .u8 (IntKind.u8.wrap v)] (Addr.add a ((IntKind.i64.wrap (at0 + i)).toNat * 1)) 0 w fun w1 =>
    0 ≤ (8 : Int) ∧
    N1 b_b b_l b_c at0 (v.fdiv (2 ^ (min (8 : Int).toNat IntKind.i64.bits))) (IntKind.i64.wrap (i - (1 : Int))) w1) (
    R b_b b_l b_c w)) = kstep Try.prog 22 Try.f65.results.toList (Try.f65.body.getD .skip) (store_put8.RV R) (kvc Try.prog 22 Try.f65.results.toList (Try.f65.body.getD .skip) (store_put8.RV R) [([(0, [1, 0, 1, 0, 0]), (2, [1, 0, 1, 0, 0]), (1, [0]), (0, [1, 1])], fun σ w => dL (slotOf σ 0) fun b_b_ b_l_ b_c_ => dI .i64 (slotOf σ 1) fun at0_ => dI .i64 (slotOf σ 2) fun v_ => dI .i64 (slotOf σ 7) fun i_ => N1 b_b_ b_l_ b_c_ at0_ v_ i_ w)] 2000) [(0, [1, 0, 1, 0, 0]), (2, [1, 0, 1, 0, 0]), (1, [0]), (0, [1, 1])] [(0, .slice b_b b_l b_c), (1, .int .i64 at0), (2, .int .i64 v), (7, .int .i64 i)] w := by kernel_rfl
theorem store_put8.L1b_sound {R : Option Addr → Nat → Nat → World → Prop} {N1 : Option Addr → Nat → Nat → Int → Int → Int → World → Prop} (hN1 : ∀ b_b b_l b_c at0 v i w, N1 b_b b_l b_c at0 v i w → KW Try.prog 65 22 (store_put8.RV R) ([(0, [1, 0, 1, 0, 0]), (2, [1, 0, 1, 0, 0]), (1, [0]), (0, [1, 1])].map (toItem (Try.f65.body.getD .skip))) [(0, .slice b_b b_l b_c), (1, .int .i64 at0), (2, .int .i64 v), (7, .int .i64 i)] w) (b_b : Option Addr) (b_l b_c : Nat) (at0 v i : Int) (w : World) (h : store_put8.L1b b_b b_l b_c at0 v i w  N1 R) :
    KW Try.prog 65 22 (store_put8.RV R) ([(0, [1, 0, 1, 0, 0]), (2, [1, 0, 1, 0, 0]), (1, [0]), (0, [1, 1])].map (toItem (Try.f65.body.getD .skip))) [(0, .slice b_b b_l b_c), (1, .int .i64 at0), (2, .int .i64 v), (7, .int .i64 i)] w := by
  exact block_spec Try.func65 Try.mixed (stops_cons (fun σ w h => by
      obtain ⟨b_b_, b_l_, b_c_, e0, h⟩ := dL_elim h
      obtain ⟨at0_, e1, h⟩ := dI_elim h
      obtain ⟨v_, e2, h⟩ := dI_elim h
      obtain ⟨i_, e3, h⟩ := dI_elim h
      exact (hN1 b_b_ b_l_ b_c_ at0_ v_ i_ w h).weaken (Sub.cons (Sub.cons (Sub.cons (Sub.cons (Sub.nil _) e3) e2) e1) e0)) stops_nil) (Eq.mp (store_put8.L1b_eq b_b b_l b_c at0 v i w  N1 R ) h)
def store_put8.L1 (b_b : Option Addr) (b_l b_c : Nat) (at0 v i : Int) (w : World)  (R : Option Addr → Nat → Nat → World → Prop) : Prop :=
  ∃ (I : Nat → Option Addr → Nat → Nat → Int → Int → Int → World → Prop) (m : Nat), I m b_b b_l b_c at0 v i w ∧ ∀ m b_b b_l b_c at0 v i w, I m b_b b_l b_c at0 v i w → store_put8.L1b b_b b_l b_c at0 v i w  (fun b_b' b_l' b_c' at0' v' i' w' => ∃ m', m' < m ∧ I m' b_b' b_l' b_c' at0' v' i' w') R
theorem store_put8.L1_sound {R : Option Addr → Nat → Nat → World → Prop}  (b_b : Option Addr) (b_l b_c : Nat) (at0 v i : Int) (w : World) (h : store_put8.L1 b_b b_l b_c at0 v i w  R) :
    KW Try.prog 65 22 (store_put8.RV R) ([(0, [1, 0, 1, 0, 0]), (2, [1, 0, 1, 0, 0]), (1, [0]), (0, [1, 1])].map (toItem (Try.f65.body.getD .skip))) [(0, .slice b_b b_l b_c), (1, .int .i64 at0), (2, .int .i64 v), (7, .int .i64 i)] w := by
  obtain ⟨I, m, h0, hr⟩ := h
  refine KW.loop (fun m σ w => ∃ (b_b : Option Addr) (b_l b_c : Nat) (at0 v i : Int), σ = [(0, .slice b_b b_l b_c), (1, .int .i64 at0), (2, .int .i64 v), (7, .int .i64 i)] ∧ I m b_b b_l b_c at0 v i w) ?_ m _ w ⟨b_b, b_l, b_c, at0, v, i, rfl, h0⟩
  rintro m ih σ w ⟨b_b, b_l, b_c, at0, v, i, rfl, hI⟩
  exact store_put8.L1b_sound  (N1 := fun b_b' b_l' b_c' at0' v' i' w' => ∃ m', m' < m ∧ I m' b_b' b_l' b_c' at0' v' i' w') (fun b_b' b_l' b_c' at0' v' i' w' hx => by obtain ⟨m', hlt, hI'⟩ := hx; exact ih m' hlt _ w' ⟨b_b', b_l', b_c', at0', v', i', rfl, hI'⟩) b_b b_l b_c at0 v i w (hr m b_b b_l b_c at0 v i w hI)
def store_put8.B0 (b_b : Option Addr) (b_l b_c : Nat) (at0 v : Int) (w : World)   (R : Option Addr → Nat → Nat → World → Prop) : Prop :=
  store_put8.L1 b_b b_l b_c at0 v (7 : Int) w  R
theorem store_put8.B0_eq (b_b : Option Addr) (b_l b_c : Nat) (at0 v : Int) (w : World)   (R : Option Addr → Nat → Nat → World → Prop) (sL1 : Option Addr → Nat → Nat → Int → Int → Int → World → Prop) :
    (
  sL1 b_b b_l b_c at0 v (7 : Int) w) = kstep Try.prog 22 Try.f65.results.toList (Try.f65.body.getD .skip) (store_put8.RV R) (kvc Try.prog 22 Try.f65.results.toList (Try.f65.body.getD .skip) (store_put8.RV R) [([(0, [1, 0, 1, 0, 0]), (2, [1, 0, 1, 0, 0]), (1, [0]), (0, [1, 1])], fun σ w => dL (slotOf σ 0) fun b_b_ b_l_ b_c_ => dI .i64 (slotOf σ 1) fun at0_ => dI .i64 (slotOf σ 2) fun v_ => dI .i64 (slotOf σ 7) fun i_ => sL1 b_b_ b_l_ b_c_ at0_ v_ i_ w)] 2000) [(0, [])] [(0, .slice b_b b_l b_c), (1, .int .i64 at0), (2, .int .i64 v)] w := by kernel_rfl
theorem store_put8.B0_sound {R : Option Addr → Nat → Nat → World → Prop}  (b_b : Option Addr) (b_l b_c : Nat) (at0 v : Int) (w : World) (h : store_put8.B0 b_b b_l b_c at0 v w   R) :
    KW Try.prog 65 22 (store_put8.RV R) ([(0, [])].map (toItem (Try.f65.body.getD .skip))) [(0, .slice b_b b_l b_c), (1, .int .i64 at0), (2, .int .i64 v)] w := by
  exact block_spec Try.func65 Try.mixed (stops_cons (fun σ w h => by
      obtain ⟨b_b_, b_l_, b_c_, e0, h⟩ := dL_elim h
      obtain ⟨at0_, e1, h⟩ := dI_elim h
      obtain ⟨v_, e2, h⟩ := dI_elim h
      obtain ⟨i_, e3, h⟩ := dI_elim h
      exact (store_put8.L1_sound  b_b_ b_l_ b_c_ at0_ v_ i_ w h).weaken (Sub.cons (Sub.cons (Sub.cons (Sub.cons (Sub.nil _) e3) e2) e1) e0)) stops_nil) (Eq.mp (store_put8.B0_eq b_b b_l b_c at0 v w   R (fun b_b_ b_l_ b_c_ at0_ v_ i_ w => store_put8.L1 b_b_ b_l_ b_c_ at0_ v_ i_ w  R)) h)
theorem store_put8.sound (b_b : Option Addr) (b_l b_c : Nat) (at0 v : Int) (w : World) (R : Option Addr → Nat → Nat → World → Prop) (h : store_put8.B0 b_b b_l b_c at0 v w R) : store_put8.Call b_b b_l b_c at0 v w R := by
  have hc := calls_of_block (args := #[.slice b_b b_l b_c, .int .i64 at0, .int .i64 v]) Try.func65 (body := (Try.f65.body.getD .skip)) (by kernel_rfl) (by kernel_rfl) (args_slot _) (store_put8.B0_sound b_b b_l b_c at0 v w h)
  exact hc.mono fun e w' he => by
    obtain ⟨v, rfl, hv⟩ := he
    exact store_put8.RV_elim hv
def store_next.B0 (old : Int) (w : World)   (R : Int → World → Prop) : Prop :=
  (255 : Int) ≠ 0 ∧
  R (IntKind.u8.wrap (IntKind.i64.wrap (((IntKind.i64.wrap old).tmod (255 : Int)) + (1 : Int)))) w
theorem store_next.B0_eq (old : Int) (w : World)   (R : Int → World → Prop)  :
    (
  (255 : Int) ≠ 0 ∧
  R (IntKind.u8.wrap (IntKind.i64.wrap (((IntKind.i64.wrap old).tmod (255 : Int)) + (1 : Int)))) w) = kstep Try.prog 8 Try.f66.results.toList (Try.f66.body.getD .skip) (store_next.RV R) (kvc Try.prog 8 Try.f66.results.toList (Try.f66.body.getD .skip) (store_next.RV R) [] 2000) [(0, [])] [(0, .int .u8 old)] w := by kernel_rfl
theorem store_next.B0_sound {R : Int → World → Prop}  (old : Int) (w : World) (h : store_next.B0 old w   R) :
    KW Try.prog 66 8 (store_next.RV R) ([(0, [])].map (toItem (Try.f66.body.getD .skip))) [(0, .int .u8 old)] w := by
  exact block_spec Try.func66 Try.mixed stops_nil (Eq.mp (store_next.B0_eq old w   R ) h)
theorem store_next.sound (old : Int) (w : World) (R : Int → World → Prop) (h : store_next.B0 old w R) : store_next.Call old w R := by
  have hc := calls_of_block (args := #[.int .u8 old]) Try.func66 (body := (Try.f66.body.getD .skip)) (by kernel_rfl) (by kernel_rfl) (args_slot _) (store_next.B0_sound old w h)
  exact hc.mono fun e w' he => by
    obtain ⟨v, rfl, hv⟩ := he
    exact store_next.RV_elim hv
end Go.Proofs.Qxb6500432a
