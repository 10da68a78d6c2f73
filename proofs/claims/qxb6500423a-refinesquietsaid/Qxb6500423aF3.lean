import Derived.Test.Qxb6500423aSig
set_option maxRecDepth 100000
set_option linter.unusedVariables false
open Go.Vc
namespace Go.Proofs.Qxb6500423a
def framem_sumA.L1b (b_b : Option Addr) (b_l b_c : Nat) (s i : Int) (w : World)  (N1 : Option Addr → Nat → Nat → Int → Int → World → Prop) (R : Int → World → Prop) : Prop :=
  Bm (decide (i < ((b_l : Nat) : Int))) (
    Pn b_b fun a =>
    (0 ≤ i ∧ i < ((b_l : Nat) : Int)) ∧
    LdI .u8 (Addr.add a (i.toNat * 1)) w fun x15 =>
    (256 : Int) ≠ 0 ∧
    N1 b_b b_l b_c ((IntKind.i64.wrap (s + (IntKind.i64.wrap x15))).tmod (256 : Int)) (IntKind.i64.wrap (i + (1 : Int))) w) (
    R s w)
theorem framem_sumA.L1b_eq (b_b : Option Addr) (b_l b_c : Nat) (s i : Int) (w : World)  (N1 : Option Addr → Nat → Nat → Int → Int → World → Prop) (R : Int → World → Prop)  :
    (
  Bm (decide (i < ((b_l : Nat) : Int))) (
    Pn b_b fun a =>
    (0 ≤ i ∧ i < ((b_l : Nat) : Int)) ∧
    LdI .u8 (Addr.add a (i.toNat * 1)) w fun x15 =>
    (256 : Int) ≠ 0 ∧
    N1 b_b b_l b_c ((IntKind.i64.wrap (s + (IntKind.i64.wrap x15))).tmod (256 : Int)) (IntKind.i64.wrap (i + (1 : Int))) w) (
    R s w)) = kstep Try.prog 20 Try.f38.results.toList (Try.f38.body.getD .skip) (framem_sumA.RV R) (kvc Try.prog 20 Try.f38.results.toList (Try.f38.body.getD .skip) (framem_sumA.RV R) [([(0, [1, 1, 0, 1, 0, 0]), (2, [1, 1, 0, 1, 0, 0]), (1, [0]), (0, [1, 1, 1])], fun σ w => dL (slotOf σ 0) fun b_b_ b_l_ b_c_ => dI .i64 (slotOf σ 3) fun s_ => dI .i64 (slotOf σ 4) fun i_ => N1 b_b_ b_l_ b_c_ s_ i_ w)] 2000) [(0, [1, 1, 0, 1, 0, 0]), (2, [1, 1, 0, 1, 0, 0]), (1, [0]), (0, [1, 1, 1])] [(0, .slice b_b b_l b_c), (3, .int .i64 s), (4, .int .i64 i)] w := by kernel_rfl
theorem framem_sumA.L1b_sound {R : Int → World → Prop} {N1 : Option Addr → Nat → Nat → Int → Int → World → Prop} (hN1 : ∀ b_b b_l b_c s i w, N1 b_b b_l b_c s i w → KW Try.prog 38 20 (framem_sumA.RV R) ([(0, [1, 1, 0, 1, 0, 0]), (2, [1, 1, 0, 1, 0, 0]), (1, [0]), (0, [1, 1, 1])].map (toItem (Try.f38.body.getD .skip))) [(0, .slice b_b b_l b_c), (3, .int .i64 s), (4, .int .i64 i)] w) (b_b : Option Addr) (b_l b_c : Nat) (s i : Int) (w : World) (h : framem_sumA.L1b b_b b_l b_c s i w  N1 R) :
    KW Try.prog 38 20 (framem_sumA.RV R) ([(0, [1, 1, 0, 1, 0, 0]), (2, [1, 1, 0, 1, 0, 0]), (1, [0]), (0, [1, 1, 1])].map (toItem (Try.f38.body.getD .skip))) [(0, .slice b_b b_l b_c), (3, .int .i64 s), (4, .int .i64 i)] w := by
  exact block_spec Try.func38 Try.mixed (stops_cons (fun σ w h => by
      obtain ⟨b_b_, b_l_, b_c_, e0, h⟩ := dL_elim h
      obtain ⟨s_, e1, h⟩ := dI_elim h
      obtain ⟨i_, e2, h⟩ := dI_elim h
      exact (hN1 b_b_ b_l_ b_c_ s_ i_ w h).weaken (Sub.cons (Sub.cons (Sub.cons (Sub.nil _) e2) e1) e0)) stops_nil) (Eq.mp (framem_sumA.L1b_eq b_b b_l b_c s i w  N1 R ) h)
def framem_sumA.L1 (b_b : Option Addr) (b_l b_c : Nat) (s i : Int) (w : World)  (R : Int → World → Prop) : Prop :=
  ∃ (I : Nat → Option Addr → Nat → Nat → Int → Int → World → Prop) (m : Nat), I m b_b b_l b_c s i w ∧ ∀ m b_b b_l b_c s i w, I m b_b b_l b_c s i w → framem_sumA.L1b b_b b_l b_c s i w  (fun b_b' b_l' b_c' s' i' w' => ∃ m', m' < m ∧ I m' b_b' b_l' b_c' s' i' w') R
theorem framem_sumA.L1_sound {R : Int → World → Prop}  (b_b : Option Addr) (b_l b_c : Nat) (s i : Int) (w : World) (h : framem_sumA.L1 b_b b_l b_c s i w  R) :
    KW Try.prog 38 20 (framem_sumA.RV R) ([(0, [1, 1, 0, 1, 0, 0]), (2, [1, 1, 0, 1, 0, 0]), (1, [0]), (0, [1, 1, 1])].map (toItem (Try.f38.body.getD .skip))) [(0, .slice b_b b_l b_c), (3, .int .i64 s), (4, .int .i64 i)] w := by
  obtain ⟨I, m, h0, hr⟩ := h
  refine KW.loop (fun m σ w => ∃ (b_b : Option Addr) (b_l b_c : Nat) (s i : Int), σ = [(0, .slice b_b b_l b_c), (3, .int .i64 s), (4, .int .i64 i)] ∧ I m b_b b_l b_c s i w) ?_ m _ w ⟨b_b, b_l, b_c, s, i, rfl, h0⟩
  rintro m ih σ w ⟨b_b, b_l, b_c, s, i, rfl, hI⟩
  exact framem_sumA.L1b_sound  (N1 := fun b_b' b_l' b_c' s' i' w' => ∃ m', m' < m ∧ I m' b_b' b_l' b_c' s' i' w') (fun b_b' b_l' b_c' s' i' w' hx => by obtain ⟨m', hlt, hI'⟩ := hx; exact ih m' hlt _ w' ⟨b_b', b_l', b_c', s', i', rfl, hI'⟩) b_b b_l b_c s i w (hr m b_b b_l b_c s i w hI)
def framem_sumA.B0 (b_b : Option Addr) (b_l b_c : Nat) (w : World)   (R : Int → World → Prop) : Prop :=
  framem_sumA.L1 b_b b_l b_c (0 : Int) (0 : Int) w  R
theorem framem_sumA.B0_eq (b_b : Option Addr) (b_l b_c : Nat) (w : World)   (R : Int → World → Prop) (sL1 : Option Addr → Nat → Nat → Int → Int → World → Prop) :
    (
  sL1 b_b b_l b_c (0 : Int) (0 : Int) w) = kstep Try.prog 20 Try.f38.results.toList (Try.f38.body.getD .skip) (framem_sumA.RV R) (kvc Try.prog 20 Try.f38.results.toList (Try.f38.body.getD .skip) (framem_sumA.RV R) [([(0, [1, 1, 0, 1, 0, 0]), (2, [1, 1, 0, 1, 0, 0]), (1, [0]), (0, [1, 1, 1])], fun σ w => dL (slotOf σ 0) fun b_b_ b_l_ b_c_ => dI .i64 (slotOf σ 3) fun s_ => dI .i64 (slotOf σ 4) fun i_ => sL1 b_b_ b_l_ b_c_ s_ i_ w)] 2000) [(0, [])] [(0, .slice b_b b_l b_c)] w := by kernel_rfl
theorem framem_sumA.B0_sound {R : Int → World → Prop}  (b_b : Option Addr) (b_l b_c : Nat) (w : World) (h : framem_sumA.B0 b_b b_l b_c w   R) :
    KW Try.prog 38 20 (framem_sumA.RV R) ([(0, [])].map (toItem (Try.f38.body.getD .skip))) [(0, .slice b_b b_l b_c)] w := by
  exact block_spec Try.func38 Try.mixed (stops_cons (fun σ w h => by
      obtain ⟨b_b_, b_l_, b_c_, e0, h⟩ := dL_elim h
      obtain ⟨s_, e1, h⟩ := dI_elim h
      obtain ⟨i_, e2, h⟩ := dI_elim h
      exact (framem_sumA.L1_sound  b_b_ b_l_ b_c_ s_ i_ w h).weaken (Sub.cons (Sub.cons (Sub.cons (Sub.nil _) e2) e1) e0)) stops_nil) (Eq.mp (framem_sumA.B0_eq b_b b_l b_c w   R (fun b_b_ b_l_ b_c_ s_ i_ w => framem_sumA.L1 b_b_ b_l_ b_c_ s_ i_ w  R)) h)
theorem framem_sumA.sound (b_b : Option Addr) (b_l b_c : Nat) (w : World) (R : Int → World → Prop) (h : framem_sumA.B0 b_b b_l b_c w R) : framem_sumA.Call b_b b_l b_c w R := by
  have hc := calls_of_block (args := #[.slice b_b b_l b_c]) Try.func38 (body := (Try.f38.body.getD .skip)) (by kernel_rfl) (by kernel_rfl) (args_slot _) (framem_sumA.B0_sound b_b b_l b_c w h)
  exact hc.mono fun e w' he => by
    obtain ⟨v, rfl, hv⟩ := he
    exact framem_sumA.RV_elim hv
def framem_sumB.L1b (b_b : Option Addr) (b_l b_c : Nat) (s i : Int) (w : World)  (N1 : Option Addr → Nat → Nat → Int → Int → World → Prop) (R : Int → World → Prop) : Prop :=
  Bm (decide (i < ((b_l : Nat) : Int))) (
    Pn b_b fun a =>
    (0 ≤ i ∧ i < ((b_l : Nat) : Int)) ∧
    LdI .u8 (Addr.add a (i.toNat * 1)) w fun x19 =>
    (256 : Int) ≠ 0 ∧
    N1 b_b b_l b_c ((IntKind.i64.wrap (s + (IntKind.i64.wrap ((IntKind.i64.wrap (((b_l : Nat) : Int) - i)) * (IntKind.i64.wrap x19))))).tmod (256 : Int)) (IntKind.i64.wrap (i + (1 : Int))) w) (
    R s w)
theorem framem_sumB.L1b_eq (b_b : Option Addr) (b_l b_c : Nat) (s i : Int) (w : World)  (N1 : Option Addr → Nat → Nat → Int → Int → World → Prop) (R : Int → World → Prop)  :
    (
  Bm (decide (i < ((b_l : Nat) : Int))) (
    Pn b_b fun a =>
    (0 ≤ i ∧ i < ((b_l : Nat) : Int)) ∧
    LdI .u8 (Addr.add a (i.toNat * 1)) w fun x19 =>
    (256 : Int) ≠ 0 ∧
    N1 b_b b_l b_c ((IntKind.i64.wrap (s + (IntKind.i64.wrap ((IntKind.i64.wrap (((b_l : Nat) : Int) - i)) * (IntKind.i64.wrap x19))))).tmod (256 : Int)) (IntKind.i64.wrap (i + (1 : Int))) w) (
    R s w)) = kstep Try.prog 25 Try.f39.results.toList (Try.f39.body.getD .skip) (framem_sumB.RV R) (kvc Try.prog 25 Try.f39.results.toList (Try.f39.body.getD .skip) (framem_sumB.RV R) [([(0, [1, 1, 0, 1, 0, 0]), (2, [1, 1, 0, 1, 0, 0]), (1, [0]), (0, [1, 1, 1])], fun σ w => dL (slotOf σ 0) fun b_b_ b_l_ b_c_ => dI .i64 (slotOf σ 3) fun s_ => dI .i64 (slotOf σ 4) fun i_ => N1 b_b_ b_l_ b_c_ s_ i_ w)] 2000) [(0, [1, 1, 0, 1, 0, 0]), (2, [1, 1, 0, 1, 0, 0]), (1, [0]), (0, [1, 1, 1])] [(0, .slice b_b b_l b_c), (3, .int .i64 s), (4, .int .i64 i)] w := by kernel_rfl
theorem framem_sumB.L1b_sound {R : Int → World → Prop} {N1 : Option Addr → Nat → Nat → Int → Int → World → Prop} (hN1 : ∀ b_b b_l b_c s i w, N1 b_b b_l b_c s i w → KW Try.prog 39 25 (framem_sumB.RV R) ([(0, [1, 1, 0, 1, 0, 0]), (2, [1, 1, 0, 1, 0, 0]), (1, [0]), (0, [1, 1, 1])].map (toItem (Try.f39.body.getD .skip))) [(0, .slice b_b b_l b_c), (3, .int .i64 s), (4, .int .i64 i)] w) (b_b : Option Addr) (b_l b_c : Nat) (s i : Int) (w : World) (h : framem_sumB.L1b b_b b_l b_c s i w  N1 R) :
    KW Try.prog 39 25 (framem_sumB.RV R) ([(0, [1, 1, 0, 1, 0, 0]), (2, [1, 1, 0, 1, 0, 0]), (1, [0]), (0, [1, 1, 1])].map (toItem (Try.f39.body.getD .skip))) [(0, .slice b_b b_l b_c), (3, .int .i64 s), (4, .int .i64 i)] w := by
  exact block_spec Try.func39 Try.mixed (stops_cons (fun σ w h => by
      obtain ⟨b_b_, b_l_, b_c_, e0, h⟩ := dL_elim h
      obtain ⟨s_, e1, h⟩ := dI_elim h
      obtain ⟨i_, e2, h⟩ := dI_elim h
      exact (hN1 b_b_ b_l_ b_c_ s_ i_ w h).weaken (Sub.cons (Sub.cons (Sub.cons (Sub.nil _) e2) e1) e0)) stops_nil) (Eq.mp (framem_sumB.L1b_eq b_b b_l b_c s i w  N1 R ) h)
def framem_sumB.L1 (b_b : Option Addr) (b_l b_c : Nat) (s i : Int) (w : World)  (R : Int → World → Prop) : Prop :=
  ∃ (I : Nat → Option Addr → Nat → Nat → Int → Int → World → Prop) (m : Nat), I m b_b b_l b_c s i w ∧ ∀ m b_b b_l b_c s i w, I m b_b b_l b_c s i w → framem_sumB.L1b b_b b_l b_c s i w  (fun b_b' b_l' b_c' s' i' w' => ∃ m', m' < m ∧ I m' b_b' b_l' b_c' s' i' w') R
theorem framem_sumB.L1_sound {R : Int → World → Prop}  (b_b : Option Addr) (b_l b_c : Nat) (s i : Int) (w : World) (h : framem_sumB.L1 b_b b_l b_c s i w  R) :
    KW Try.prog 39 25 (framem_sumB.RV R) ([(0, [1, 1, 0, 1, 0, 0]), (2, [1, 1, 0, 1, 0, 0]), (1, [0]), (0, [1, 1, 1])].map (toItem (Try.f39.body.getD .skip))) [(0, .slice b_b b_l b_c), (3, .int .i64 s), (4, .int .i64 i)] w := by
  obtain ⟨I, m, h0, hr⟩ := h
  refine KW.loop (fun m σ w => ∃ (b_b : Option Addr) (b_l b_c : Nat) (s i : Int), σ = [(0, .slice b_b b_l b_c), (3, .int .i64 s), (4, .int .i64 i)] ∧ I m b_b b_l b_c s i w) ?_ m _ w ⟨b_b, b_l, b_c, s, i, rfl, h0⟩
  rintro m ih σ w ⟨b_b, b_l, b_c, s, i, rfl, hI⟩
  exact framem_sumB.L1b_sound  (N1 := fun b_b' b_l' b_c' s' i' w' => ∃ m', m' < m ∧ I m' b_b' b_l' b_c' s' i' w') (fun b_b' b_l' b_c' s' i' w' hx => by obtain ⟨m', hlt, hI'⟩ := hx; exact ih m' hlt _ w' ⟨b_b', b_l', b_c', s', i', rfl, hI'⟩) b_b b_l b_c s i w (hr m b_b b_l b_c s i w hI)
def framem_sumB.B0 (b_b : Option Addr) (b_l b_c : Nat) (w : World)   (R : Int → World → Prop) : Prop :=
  framem_sumB.L1 b_b b_l b_c (0 : Int) (0 : Int) w  R
theorem framem_sumB.B0_eq (b_b : Option Addr) (b_l b_c : Nat) (w : World)   (R : Int → World → Prop) (sL1 : Option Addr → Nat → Nat → Int → Int → World → Prop) :
    (
  sL1 b_b b_l b_c (0 : Int) (0 : Int) w) = kstep Try.prog 25 Try.f39.results.toList (Try.f39.body.getD .skip) (framem_sumB.RV R) (kvc Try.prog 25 Try.f39.results.toList (Try.f39.body.getD .skip) (framem_sumB.RV R) [([(0, [1, 1, 0, 1, 0, 0]), (2, [1, 1, 0, 1, 0, 0]), (1, [0]), (0, [1, 1, 1])], fun σ w => dL (slotOf σ 0) fun b_b_ b_l_ b_c_ => dI .i64 (slotOf σ 3) fun s_ => dI .i64 (slotOf σ 4) fun i_ => sL1 b_b_ b_l_ b_c_ s_ i_ w)] 2000) [(0, [])] [(0, .slice b_b b_l b_c)] w := by kernel_rfl
theorem framem_sumB.B0_sound {R : Int → World → Prop}  (b_b : Option Addr) (b_l b_c : Nat) (w : World) (h : framem_sumB.B0 b_b b_l b_c w   R) :
    KW Try.prog 39 25 (framem_sumB.RV R) ([(0, [])].map (toItem (Try.f39.body.getD .skip))) [(0, .slice b_b b_l b_c)] w := by
  exact block_spec Try.func39 Try.mixed (stops_cons (fun σ w h => by
      obtain ⟨b_b_, b_l_, b_c_, e0, h⟩ := dL_elim h
      obtain ⟨s_, e1, h⟩ := dI_elim h
      obtain ⟨i_, e2, h⟩ := dI_elim h
      exact (framem_sumB.L1_sound  b_b_ b_l_ b_c_ s_ i_ w h).weaken (Sub.cons (Sub.cons (Sub.cons (Sub.nil _) e2) e1) e0)) stops_nil) (Eq.mp (framem_sumB.B0_eq b_b b_l b_c w   R (fun b_b_ b_l_ b_c_ s_ i_ w => framem_sumB.L1 b_b_ b_l_ b_c_ s_ i_ w  R)) h)
theorem framem_sumB.sound (b_b : Option Addr) (b_l b_c : Nat) (w : World) (R : Int → World → Prop) (h : framem_sumB.B0 b_b b_l b_c w R) : framem_sumB.Call b_b b_l b_c w R := by
  have hc := calls_of_block (args := #[.slice b_b b_l b_c]) Try.func39 (body := (Try.f39.body.getD .skip)) (by kernel_rfl) (by kernel_rfl) (args_slot _) (framem_sumB.B0_sound b_b b_l b_c w h)
  exact hc.mono fun e w' he => by
    obtain ⟨v, rfl, hv⟩ := he
    exact framem_sumB.RV_elim hv
def frame_sound.B1 (t41 : Bool) (w : World)   (R : Int → World → Prop) : Prop :=
  Bm t41 (
    R (4 : Int) w) (
    R (0 : Int) w)
theorem frame_sound.B1_eq (t41 : Bool) (w : World)   (R : Int → World → Prop)  :
    (
  Bm t41 (
    R (4 : Int) w) (
    R (0 : Int) w)) = kstep Try.prog 42 Try.f40.results.toList (Try.f40.body.getD .skip) (frame_sound.RV R) (kvc Try.prog 42 Try.f40.results.toList (Try.f40.body.getD .skip) (frame_sound.RV R) [] 2000) [(0, [1, 1, 1, 1, 1, 1, 1, 1, 1, 0, 1]), (0, [1, 1, 1, 1, 1, 1, 1, 1, 1, 1])] [(41, .bool t41)] w := by kernel_rfl
theorem frame_sound.B1_sound {R : Int → World → Prop}  (t41 : Bool) (w : World) (h : frame_sound.B1 t41 w   R) :
    KW Try.prog 40 42 (frame_sound.RV R) ([(0, [1, 1, 1, 1, 1, 1, 1, 1, 1, 0, 1]), (0, [1, 1, 1, 1, 1, 1, 1, 1, 1, 1])].map (toItem (Try.f40.body.getD .skip))) [(41, .bool t41)] w := by
  exact block_spec Try.func40 Try.mixed stops_nil (Eq.mp (frame_sound.B1_eq t41 w   R ) h)
def frame_sound.B0 (raw_b : Option Addr) (raw_l raw_c : Nat) (w : World)   (R : Int → World → Prop) : Prop :=
  Bm (decide ((IntKind.i64.wrap (((raw_l : Nat) : Int) - (2 : Int))) < (4 : Int))) (
    R (1 : Int) w) (
    Bm (decide ((IntKind.i64.wrap (((raw_l : Nat) : Int) - (2 : Int))) > (28 : Int))) (
      R (2 : Int) w) (
      Pn raw_b fun a =>
      (0 ≤ (3 : Int) ∧ (3 : Int) < ((raw_l : Nat) : Int)) ∧
      LdI .u8 (a.add 3) w fun x16 =>
      Bm ((IntKind.i64.wrap x16) != (IntKind.i64.wrap ((IntKind.i64.wrap (((raw_l : Nat) : Int) - (2 : Int))) - (4 : Int)))) (
        R (3 : Int) w) (
        New (.cells #[.int .u8 (0 : Int), .int .u8 (0 : Int)] 72) w fun u_ w1 =>
        (0 ≤ (IntKind.i64.wrap (((raw_l : Nat) : Int) - (2 : Int))) ∧ (IntKind.i64.wrap (((raw_l : Nat) : Int) - (2 : Int))) ≤ ((raw_c : Nat) : Int)) ∧
        frame_Sum_AddAll.Call (some ⟨u_, 0, none⟩) (slBase raw_b ((0 : Nat) : Int) ((raw_c : Nat) : Int) 1) ((IntKind.i64.wrap (((raw_l : Nat) : Int) - (2 : Int))).toNat - ((0 : Nat) : Int).toNat) (((raw_c : Nat) : Int).toNat - ((0 : Nat) : Int).toNat) w1 fun w2 =>
        frame_Sum_A.Call (some ⟨u_, 0, none⟩) w2 fun r25 w3 =>
        frame_Sum_B.Call (some ⟨u_, 0, none⟩) w3 fun r26 w4 =>
        Pn raw_b fun a_1 =>
        (0 ≤ (IntKind.i64.wrap (((raw_l : Nat) : Int) - (2 : Int))) ∧ (IntKind.i64.wrap (((raw_l : Nat) : Int) - (2 : Int))) < ((raw_l : Nat) : Int)) ∧
        LdI .u8 (Addr.add a_1 ((IntKind.i64.wrap (((raw_l : Nat) : Int) - (2 : Int))).toNat * 1)) w4 fun x31 =>
        Bm (r25 != x31) (
          frame_sound.B1 true w4  R) (
          Pn raw_b fun a_2 =>
          (0 ≤ (IntKind.i64.wrap ((IntKind.i64.wrap (((raw_l : Nat) : Int) - (2 : Int))) + (1 : Int))) ∧ (IntKind.i64.wrap ((IntKind.i64.wrap (((raw_l : Nat) : Int) - (2 : Int))) + (1 : Int))) < ((raw_l : Nat) : Int)) ∧
          LdI .u8 (Addr.add a_2 ((IntKind.i64.wrap ((IntKind.i64.wrap (((raw_l : Nat) : Int) - (2 : Int))) + (1 : Int))).toNat * 1)) w4 fun x39 =>
          frame_sound.B1 (r26 != x39) w4  R))))
theorem frame_sound.B0_eq (raw_b : Option Addr) (raw_l raw_c : Nat) (w : World)   (R : Int → World → Prop) (sB1 : Bool → World → Prop) :
    (
  Bm (decide ((IntKind.i64.wrap (((raw_l : Nat) : Int) - (2 : Int))) < (4 : Int))) (
    R (1 : Int) w) (
    Bm (decide ((IntKind.i64.wrap (((raw_l : Nat) : Int) - (2 : Int))) > (28 : Int))) (
      R (2 : Int) w) (
      Pn raw_b fun a =>
      (0 ≤ (3 : Int) ∧ (3 : Int) < ((raw_l : Nat) : Int)) ∧
      LdI .u8 (a.add 3) w fun x16 =>
      Bm ((IntKind.i64.wrap x16) != (IntKind.i64.wrap ((IntKind.i64.wrap (((raw_l : Nat) : Int) - (2 : Int))) - (4 : Int)))) (
        R (3 : Int) w) (
        New (.cells #[.int .u8 (0 : Int), .int .u8 (0 : Int)] 72) w fun u_ w1 =>
        (0 ≤ (IntKind.i64.wrap (((raw_l : Nat) : Int) - (2 : Int))) ∧ (IntKind.i64.wrap (((raw_l : Nat) : Int) - (2 : Int))) ≤ ((raw_c : Nat) : Int)) ∧
        frame_Sum_AddAll.Call (some ⟨u_, 0, none⟩) (slBase raw_b ((0 : Nat) : Int) ((raw_c : Nat) : Int) 1) ((IntKind.i64.wrap (((raw_l : Nat) : Int) - (2 : Int))).toNat - ((0 : Nat) : Int).toNat) (((raw_c : Nat) : Int).toNat - ((0 : Nat) : Int).toNat) w1 fun w2 =>
        frame_Sum_A.Call (some ⟨u_, 0, none⟩) w2 fun r25 w3 =>
        frame_Sum_B.Call (some ⟨u_, 0, none⟩) w3 fun r26 w4 =>
        Pn raw_b fun a_1 =>
        (0 ≤ (IntKind.i64.wrap (((raw_l : Nat) : Int) - (2 : Int))) ∧ (IntKind.i64.wrap (((raw_l : Nat) : Int) - (2 : Int))) < ((raw_l : Nat) : Int)) ∧
        LdI .u8 (Addr.add a_1 ((IntKind.i64.wrap (((raw_l : Nat) : Int) - (2 : Int))).toNat * 1)) w4 fun x31 =>
        Bm (r25 != x31) (
          sB1 true w4) (
          Pn raw_b fun a_2 =>
          (0 ≤ (IntKind.i64.wrap ((IntKind.i64.wrap (((raw_l : Nat) : Int) - (2 : Int))) + (1 : Int))) ∧ (IntKind.i64.wrap ((IntKind.i64.wrap (((raw_l : Nat) : Int) - (2 : Int))) + (1 : Int))) < ((raw_l : Nat) : Int)) ∧
          LdI .u8 (Addr.add a_2 ((IntKind.i64.wrap ((IntKind.i64.wrap (((raw_l : Nat) : Int) - (2 : Int))) + (1 : Int))).toNat * 1)) w4 fun x39 =>
          sB1 (r26 != x39) w4))))) = kstep Try.prog 42 Try.f40.results.toList (Try.f40.body.getD .skip) (frame_sound.RV R) (kvc Try.prog 42 Try.f40.results.toList (Try.f40.body.getD .skip) (frame_sound.RV R) [([(0, [1, 1, 1, 1, 1, 1, 1, 1, 1, 0, 1]), (0, [1, 1, 1, 1, 1, 1, 1, 1, 1, 1])], fun σ w => dB (slotOf σ 41) fun t41_ => sB1 t41_ w)] 2000) [(0, [])] [(0, .slice raw_b raw_l raw_c)] w := by kernel_rfl
theorem frame_sound.B0_sound {R : Int → World → Prop}  (raw_b : Option Addr) (raw_l raw_c : Nat) (w : World) (h : frame_sound.B0 raw_b raw_l raw_c w   R) :
    KW Try.prog 40 42 (frame_sound.RV R) ([(0, [])].map (toItem (Try.f40.body.getD .skip))) [(0, .slice raw_b raw_l raw_c)] w := by
  exact block_spec Try.func40 Try.mixed (stops_cons (fun σ w h => by
      obtain ⟨t41_, e0, h⟩ := dB_elim h
      exact (frame_sound.B1_sound  t41_ w h).weaken (Sub.cons (Sub.nil _) e0)) stops_nil) (Eq.mp (frame_sound.B0_eq raw_b raw_l raw_c w   R (fun t41_ w => frame_sound.B1 t41_ w  R)) h)
theorem frame_sound.sound (raw_b : Option Addr) (raw_l raw_c : Nat) (w : World) (R : Int → World → Prop) (h : frame_sound.B0 raw_b raw_l raw_c w R) : frame_sound.Call raw_b raw_l raw_c w R := by
  have hc := calls_of_block (args := #[.slice raw_b raw_l raw_c]) Try.func40 (body := (Try.f40.body.getD .skip)) (by kernel_rfl) (by kernel_rfl) (args_slot _) (frame_sound.B0_sound raw_b raw_l raw_c w h)
  exact hc.mono fun e w' he => by
    obtain ⟨v, rfl, hv⟩ := he
    exact frame_sound.RV_elim hv
def framem_check.B1 (t46 : Bool) (w : World)   (R : Int → World → Prop) : Prop :=
  Bm t46 (
    R (4 : Int) w) (
    R (0 : Int) w)
theorem framem_check.B1_eq (t46 : Bool) (w : World)   (R : Int → World → Prop)  :
    (
  Bm t46 (
    R (4 : Int) w) (
    R (0 : Int) w)) = kstep Try.prog 47 Try.f41.results.toList (Try.f41.body.getD .skip) (framem_check.RV R) (kvc Try.prog 47 Try.f41.results.toList (Try.f41.body.getD .skip) (framem_check.RV R) [] 2000) [(0, [1, 1, 1, 1, 1, 1, 1, 1, 0, 1]), (0, [1, 1, 1, 1, 1, 1, 1, 1, 1])] [(46, .bool t46)] w := by kernel_rfl
theorem framem_check.B1_sound {R : Int → World → Prop}  (t46 : Bool) (w : World) (h : framem_check.B1 t46 w   R) :
    KW Try.prog 41 47 (framem_check.RV R) ([(0, [1, 1, 1, 1, 1, 1, 1, 1, 0, 1]), (0, [1, 1, 1, 1, 1, 1, 1, 1, 1])].map (toItem (Try.f41.body.getD .skip))) [(46, .bool t46)] w := by
  exact block_spec Try.func41 Try.mixed stops_nil (Eq.mp (framem_check.B1_eq t46 w   R ) h)
def framem_check.B0 (raw_b : Option Addr) (raw_l raw_c : Nat) (w : World)   (R : Int → World → Prop) : Prop :=
  Bm (decide (((raw_l : Nat) : Int) < (6 : Int))) (
    R (1 : Int) w) (
    Bm (decide (((raw_l : Nat) : Int) > (30 : Int))) (
      R (2 : Int) w) (
      Pn raw_b fun a =>
      (0 ≤ (3 : Int) ∧ (3 : Int) < ((raw_l : Nat) : Int)) ∧
      LdI .u8 (a.add 3) w fun x15 =>
      Bm ((IntKind.i64.wrap x15) != (IntKind.i64.wrap ((IntKind.i64.wrap (((raw_l : Nat) : Int) - (4 : Int))) - (2 : Int)))) (
        R (3 : Int) w) (
        (0 ≤ (IntKind.i64.wrap (((raw_l : Nat) : Int) - (2 : Int))) ∧ (IntKind.i64.wrap (((raw_l : Nat) : Int) - (2 : Int))) ≤ ((raw_c : Nat) : Int)) ∧
        framem_sumA.Call (slBase raw_b ((0 : Nat) : Int) ((raw_c : Nat) : Int) 1) ((IntKind.i64.wrap (((raw_l : Nat) : Int) - (2 : Int))).toNat - ((0 : Nat) : Int).toNat) (((raw_c : Nat) : Int).toNat - ((0 : Nat) : Int).toNat) w fun r26 w1 =>
        framem_sumB.Call (slBase raw_b ((0 : Nat) : Int) ((raw_c : Nat) : Int) 1) ((IntKind.i64.wrap (((raw_l : Nat) : Int) - (2 : Int))).toNat - ((0 : Nat) : Int).toNat) (((raw_c : Nat) : Int).toNat - ((0 : Nat) : Int).toNat) w1 fun r28 w2 =>
        Pn raw_b fun a_1 =>
        (0 ≤ (IntKind.i64.wrap (((raw_l : Nat) : Int) - (2 : Int))) ∧ (IntKind.i64.wrap (((raw_l : Nat) : Int) - (2 : Int))) < ((raw_l : Nat) : Int)) ∧
        LdI .u8 (Addr.add a_1 ((IntKind.i64.wrap (((raw_l : Nat) : Int) - (2 : Int))).toNat * 1)) w2 fun x34 =>
        Bm (r26 != (IntKind.i64.wrap x34)) (
          framem_check.B1 true w2  R) (
          Pn raw_b fun a_2 =>
          (0 ≤ (IntKind.i64.wrap (((raw_l : Nat) : Int) - (1 : Int))) ∧ (IntKind.i64.wrap (((raw_l : Nat) : Int) - (1 : Int))) < ((raw_l : Nat) : Int)) ∧
          LdI .u8 (Addr.add a_2 ((IntKind.i64.wrap (((raw_l : Nat) : Int) - (1 : Int))).toNat * 1)) w2 fun x43 =>
          framem_check.B1 (r28 != (IntKind.i64.wrap x43)) w2  R))))
theorem framem_check.B0_eq (raw_b : Option Addr) (raw_l raw_c : Nat) (w : World)   (R : Int → World → Prop) (sB1 : Bool → World → Prop) :
    (
  Bm (decide (((raw_l : Nat) : Int) < (6 : Int))) (
    R (1 : Int) w) (
    Bm (decide (((raw_l : Nat) : Int) > (30 : Int))) (
      R (2 : Int) w) (
      Pn raw_b fun a =>
      (0 ≤ (3 : Int) ∧ (3 : Int) < ((raw_l : Nat) : Int)) ∧
      LdI .u8 (a.add 3) w fun x15 =>
      Bm ((IntKind.i64.wrap x15) != (IntKind.i64.wrap ((IntKind.i64.wrap (((raw_l : Nat) : Int) - (4 : Int))) - (2 : Int)))) (
        R (3 : Int) w) (
        (0 ≤ (IntKind.i64.wrap (((raw_l : Nat) : Int) - (2 : Int))) ∧ (IntKind.i64.wrap (((raw_l : Nat) : Int) - (2 : Int))) ≤ ((raw_c : Nat) : Int)) ∧
        framem_sumA.Call (slBase raw_b ((0 : Nat) : Int) ((raw_c : Nat) : Int) 1) ((IntKind.i64.wrap (((raw_l : Nat) : Int) - (2 : Int))).toNat - ((0 : Nat) : Int).toNat) (((raw_c : Nat) : Int).toNat - ((0 : Nat) : Int).toNat) w fun r26 w1 =>
        framem_sumB.Call (slBase raw_b ((0 : Nat) : Int) ((raw_c : Nat) : Int) 1) ((IntKind.i64.wrap (((raw_l : Nat) : Int) - (2 : Int))).toNat - ((0 : Nat) : Int).toNat) (((raw_c : Nat) : Int).toNat - ((0 : Nat) : Int).toNat) w1 fun r28 w2 =>
        Pn raw_b fun a_1 =>
        (0 ≤ (IntKind.i64.wrap (((raw_l : Nat) : Int) - (2 : Int))) ∧ (IntKind.i64.wrap (((raw_l : Nat) : Int) - (2 : Int))) < ((raw_l : Nat) : Int)) ∧
        LdI .u8 (Addr.add a_1 ((IntKind.i64.wrap (((raw_l : Nat) : Int) - (2 : Int))).toNat * 1)) w2 fun x34 =>
        Bm (r26 != (IntKind.i64.wrap x34)) (
          sB1 true w2) (
          Pn raw_b fun a_2 =>
          (0 ≤ (IntKind.i64.wrap (((raw_l : Nat) : Int) - (1 : Int))) ∧ (IntKind.i64.wrap (((raw_l : Nat) : Int) - (1 : Int))) < ((raw_l : Nat) : Int)) ∧
          LdI .u8 (Addr.add a_2 ((IntKind.i64.wrap (((raw_l : Nat) : Int) - (1 : Int))).toNat * 1)) w2 fun x43 =>
          sB1 (r28 != (IntKind.i64.wrap x43)) w2))))) = kstep Try.prog 47 Try.f41.results.toList (Try.f41.body.getD .skip) (framem_check.RV R) (kvc Try.prog 47 Try.f41.results.toList (Try.f41.body.getD .skip) (framem_check.RV R) [([(0, [1, 1, 1, 1, 1, 1, 1, 1, 0, 1]), (0, [1, 1, 1, 1, 1, 1, 1, 1, 1])], fun σ w => dB (slotOf σ 46) fun t46_ => sB1 t46_ w)] 2000) [(0, [])] [(0, .slice raw_b raw_l raw_c)] w := by kernel_rfl
theorem framem_check.B0_sound {R : Int → World → Prop}  (raw_b : Option Addr) (raw_l raw_c : Nat) (w : World) (h : framem_check.B0 raw_b raw_l raw_c w   R) :
    KW Try.prog 41 47 (framem_check.RV R) ([(0, [])].map (toItem (Try.f41.body.getD .skip))) [(0, .slice raw_b raw_l raw_c)] w := by
  exact block_spec Try.func41 Try.mixed (stops_cons (fun σ w h => by
      obtain ⟨t46_, e0, h⟩ := dB_elim h
      exact (framem_check.B1_sound  t46_ w h).weaken (Sub.cons (Sub.nil _) e0)) stops_nil) (Eq.mp (framem_check.B0_eq raw_b raw_l raw_c w   R (fun t46_ w => framem_check.B1 t46_ w  R)) h)
theorem framem_check.sound (raw_b : Option Addr) (raw_l raw_c : Nat) (w : World) (R : Int → World → Prop) (h : framem_check.B0 raw_b raw_l raw_c w R) : framem_check.Call raw_b raw_l raw_c w R := by
  have hc := calls_of_block (args := #[.slice raw_b raw_l raw_c]) Try.func41 (body := (Try.f41.body.getD .skip)) (by kernel_rfl) (by kernel_rfl) (args_slot _) (framem_check.B0_sound raw_b raw_l raw_c w h)
  exact hc.mono fun e w' he => by
    obtain ⟨v, rfl, hv⟩ := he
    exact framem_check.RV_elim hv
end Go.Proofs.Qxb6500423a
