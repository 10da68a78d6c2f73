import Derived.Test.Qxb6500425aSig
set_option maxRecDepth 100000
set_option linter.unusedVariables false
open Go.Vc
namespace Go.Proofs.Qxb6500425a
def iplaw_SamePeek.L1b (a_b : Option Addr) (a_l a_c : Nat) (b_b : Option Addr) (b_l b_c : Nat) (k : Int) (w : World)  (N1 : Option Addr → Nat → Nat → Option Addr → Nat → Nat → Int → World → Prop) (R : Option Addr → Nat → Nat → Bool → World → Prop) : Prop :=
  Bm (decide (k < ((a_l : Nat) : Int))) (
    Pn a_b fun a =>
    (0 ≤ k ∧ k < ((a_l : Nat) : Int)) ∧
    LdI .i64 (Addr.add a (k.toNat * 1)) w.drew fun x32 =>
    Pn b_b fun a_1 =>
    (0 ≤ k ∧ k < ((b_l : Nat) : Int)) ∧
    LdI .i64 (Addr.add a_1 (k.toNat * 1)) w.drew fun x36 =>
    Bm (x32 != x36) (
      R a_b a_l a_c false w.drew) (
      N1 a_b a_l a_c b_b b_l b_c (IntKind.i64.wrap (k + (1 : Int))) w.drew)) (
    R a_b a_l a_c true w)
theorem iplaw_SamePeek.L1b_eq (a_b : Option Addr) (a_l a_c : Nat) (b_b : Option Addr) (b_l b_c : Nat) (k : Int) (w : World)  (N1 : Option Addr → Nat → Nat → Option Addr → Nat → Nat → Int → World → Prop) (R : Option Addr → Nat → Nat → Bool → World → Prop)  :
    (
  Bm (decide (k < ((a_l : Nat) : Int))) (
    Pn a_b fun a =>
    (0 ≤ k ∧ k < ((a_l : Nat) : Int)) ∧
    LdI .i64 (Addr.add a (k.toNat * 1)) w.drew fun x32 =>
    Pn b_b fun a_1 =>
    (0 ≤ k ∧ k < ((b_l : Nat) : Int)) ∧
    LdI .i64 (Addr.add a_1 (k.toNat * 1)) w.drew fun x36 =>
    Bm (x32 != x36) (
      R a_b a_l a_c false w.drew) (
      N1 a_b a_l a_c b_b b_l b_c (IntKind.i64.wrap (k + (1 : Int))) w.drew)) (
    R a_b a_l a_c true w)) = kstep Try.prog 40 Try.f20.results.toList (Try.f20.body.getD .skip) (iplaw_SamePeek.RV R) (kvc Try.prog 40 Try.f20.results.toList (Try.f20.body.getD .skip) (iplaw_SamePeek.RV R) [([(0, [1, 1, 1, 1, 0, 1, 0, 0]), (2, [1, 1, 1, 1, 0, 1, 0, 0]), (1, [0]), (0, [1, 1, 1, 1, 1])], fun σ w => dL (slotOf σ 8) fun a_b_ a_l_ a_c_ => dL (slotOf σ 9) fun b_b_ b_l_ b_c_ => dI .i64 (slotOf σ 10) fun k_ => N1 a_b_ a_l_ a_c_ b_b_ b_l_ b_c_ k_ w)] 2000) [(0, [1, 1, 1, 1, 0, 1, 0, 0]), (2, [1, 1, 1, 1, 0, 1, 0, 0]), (1, [0]), (0, [1, 1, 1, 1, 1])] [(8, .slice a_b a_l a_c), (9, .slice b_b b_l b_c), (10, .int .i64 k)] w := by kernel_rfl
theorem iplaw_SamePeek.L1b_sound {R : Option Addr → Nat → Nat → Bool → World → Prop} {N1 : Option Addr → Nat → Nat → Option Addr → Nat → Nat → Int → World → Prop} (hN1 : ∀ a_b a_l a_c b_b b_l b_c k w, N1 a_b a_l a_c b_b b_l b_c k w → KW Try.prog 20 40 (iplaw_SamePeek.RV R) ([(0, [1, 1, 1, 1, 0, 1, 0, 0]), (2, [1, 1, 1, 1, 0, 1, 0, 0]), (1, [0]), (0, [1, 1, 1, 1, 1])].map (toItem (Try.f20.body.getD .skip))) [(8, .slice a_b a_l a_c), (9, .slice b_b b_l b_c), (10, .int .i64 k)] w) (a_b : Option Addr) (a_l a_c : Nat) (b_b : Option Addr) (b_l b_c : Nat) (k : Int) (w : World) (h : iplaw_SamePeek.L1b a_b a_l a_c b_b b_l b_c k w  N1 R) :
    KW Try.prog 20 40 (iplaw_SamePeek.RV R) ([(0, [1, 1, 1, 1, 0, 1, 0, 0]), (2, [1, 1, 1, 1, 0, 1, 0, 0]), (1, [0]), (0, [1, 1, 1, 1, 1])].map (toItem (Try.f20.body.getD .skip))) [(8, .slice a_b a_l a_c), (9, .slice b_b b_l b_c), (10, .int .i64 k)] w := by
  exact block_spec Try.func20 Try.mixed (stops_cons (fun σ w h => by
      obtain ⟨a_b_, a_l_, a_c_, e0, h⟩ := dL_elim h
      obtain ⟨b_b_, b_l_, b_c_, e1, h⟩ := dL_elim h
      obtain ⟨k_, e2, h⟩ := dI_elim h
      exact (hN1 a_b_ a_l_ a_c_ b_b_ b_l_ b_c_ k_ w h).weaken (Sub.cons (Sub.cons (Sub.cons (Sub.nil _) e2) e1) e0)) stops_nil) (Eq.mp (iplaw_SamePeek.L1b_eq a_b a_l a_c b_b b_l b_c k w  N1 R ) h)
def iplaw_SamePeek.L1 (a_b : Option Addr) (a_l a_c : Nat) (b_b : Option Addr) (b_l b_c : Nat) (k : Int) (w : World)  (R : Option Addr → Nat → Nat → Bool → World → Prop) : Prop :=
  ∃ (I : Nat → Option Addr → Nat → Nat → Option Addr → Nat → Nat → Int → World → Prop) (m : Nat), I m a_b a_l a_c b_b b_l b_c k w ∧ ∀ m a_b a_l a_c b_b b_l b_c k w, I m a_b a_l a_c b_b b_l b_c k w → iplaw_SamePeek.L1b a_b a_l a_c b_b b_l b_c k w  (fun a_b' a_l' a_c' b_b' b_l' b_c' k' w' => ∃ m', m' < m ∧ I m' a_b' a_l' a_c' b_b' b_l' b_c' k' w') R
theorem iplaw_SamePeek.L1_sound {R : Option Addr → Nat → Nat → Bool → World → Prop}  (a_b : Option Addr) (a_l a_c : Nat) (b_b : Option Addr) (b_l b_c : Nat) (k : Int) (w : World) (h : iplaw_SamePeek.L1 a_b a_l a_c b_b b_l b_c k w  R) :
    KW Try.prog 20 40 (iplaw_SamePeek.RV R) ([(0, [1, 1, 1, 1, 0, 1, 0, 0]), (2, [1, 1, 1, 1, 0, 1, 0, 0]), (1, [0]), (0, [1, 1, 1, 1, 1])].map (toItem (Try.f20.body.getD .skip))) [(8, .slice a_b a_l a_c), (9, .slice b_b b_l b_c), (10, .int .i64 k)] w := by
  obtain ⟨I, m, h0, hr⟩ := h
  refine KW.loop (fun m σ w => ∃ (a_b : Option Addr) (a_l a_c : Nat) (b_b : Option Addr) (b_l b_c : Nat) (k : Int), σ = [(8, .slice a_b a_l a_c), (9, .slice b_b b_l b_c), (10, .int .i64 k)] ∧ I m a_b a_l a_c b_b b_l b_c k w) ?_ m _ w ⟨a_b, a_l, a_c, b_b, b_l, b_c, k, rfl, h0⟩
  rintro m ih σ w ⟨a_b, a_l, a_c, b_b, b_l, b_c, k, rfl, hI⟩
  exact iplaw_SamePeek.L1b_sound  (N1 := fun a_b' a_l' a_c' b_b' b_l' b_c' k' w' => ∃ m', m' < m ∧ I m' a_b' a_l' a_c' b_b' b_l' b_c' k' w') (fun a_b' a_l' a_c' b_b' b_l' b_c' k' w' hx => by obtain ⟨m', hlt, hI'⟩ := hx; exact ih m' hlt _ w' ⟨a_b', a_l', a_c', b_b', b_l', b_c', k', rfl, hI'⟩) a_b a_l a_c b_b b_l b_c k w (hr m a_b a_l a_c b_b b_l b_c k w hI)
def iplaw_SamePeek.B0 (x m0 : Option Addr) (i : Int) (w : World)   (R : Option Addr → Nat → Nat → Bool → World → Prop) : Prop :=
  ip_IP_Peek.Call x i w fun r13_b r13_l r13_c w1 =>
  ipm_IP_Peek.Call m0 i w1 fun r16_b r16_l r16_c w2 =>
  Bm (((r13_l : Nat) : Int) != ((r16_l : Nat) : Int)) (
    R r13_b r13_l r13_c false w2) (
    iplaw_SamePeek.L1 r13_b r13_l r13_c r16_b r16_l r16_c (0 : Int) w2  R)
theorem iplaw_SamePeek.B0_eq (x m0 : Option Addr) (i : Int) (w : World)   (R : Option Addr → Nat → Nat → Bool → World → Prop) (sL1 : Option Addr → Nat → Nat → Option Addr → Nat → Nat → Int → World → Prop) :
    (
  ip_IP_Peek.Call x i w fun r13_b r13_l r13_c w1 =>
  ipm_IP_Peek.Call m0 i w1 fun r16_b r16_l r16_c w2 =>
  Bm (((r13_l : Nat) : Int) != ((r16_l : Nat) : Int)) (
    R r13_b r13_l r13_c false w2) (
    sL1 r13_b r13_l r13_c r16_b r16_l r16_c (0 : Int) w2)) = kstep Try.prog 40 Try.f20.results.toList (Try.f20.body.getD .skip) (iplaw_SamePeek.RV R) (kvc Try.prog 40 Try.f20.results.toList (Try.f20.body.getD .skip) (iplaw_SamePeek.RV R) [([(0, [1, 1, 1, 1, 0, 1, 0, 0]), (2, [1, 1, 1, 1, 0, 1, 0, 0]), (1, [0]), (0, [1, 1, 1, 1, 1])], fun σ w => dL (slotOf σ 8) fun a_b_ a_l_ a_c_ => dL (slotOf σ 9) fun b_b_ b_l_ b_c_ => dI .i64 (slotOf σ 10) fun k_ => sL1 a_b_ a_l_ a_c_ b_b_ b_l_ b_c_ k_ w)] 2000) [(0, [])] [(0, .pointer x), (1, .pointer m0), (2, .int .i64 i)] w := by kernel_rfl
theorem iplaw_SamePeek.B0_sound {R : Option Addr → Nat → Nat → Bool → World → Prop}  (x m0 : Option Addr) (i : Int) (w : World) (h : iplaw_SamePeek.B0 x m0 i w   R) :
    KW Try.prog 20 40 (iplaw_SamePeek.RV R) ([(0, [])].map (toItem (Try.f20.body.getD .skip))) [(0, .pointer x), (1, .pointer m0), (2, .int .i64 i)] w := by
  exact block_spec Try.func20 Try.mixed (stops_cons (fun σ w h => by
      obtain ⟨a_b_, a_l_, a_c_, e0, h⟩ := dL_elim h
      obtain ⟨b_b_, b_l_, b_c_, e1, h⟩ := dL_elim h
      obtain ⟨k_, e2, h⟩ := dI_elim h
      exact (iplaw_SamePeek.L1_sound  a_b_ a_l_ a_c_ b_b_ b_l_ b_c_ k_ w h).weaken (Sub.cons (Sub.cons (Sub.cons (Sub.nil _) e2) e1) e0)) stops_nil) (Eq.mp (iplaw_SamePeek.B0_eq x m0 i w   R (fun a_b_ a_l_ a_c_ b_b_ b_l_ b_c_ k_ w => iplaw_SamePeek.L1 a_b_ a_l_ a_c_ b_b_ b_l_ b_c_ k_ w  R)) h)
theorem iplaw_SamePeek.sound (x m0 : Option Addr) (i : Int) (w : World) (R : Option Addr → Nat → Nat → Bool → World → Prop) (h : iplaw_SamePeek.B0 x m0 i w R) : iplaw_SamePeek.Call x m0 i w R := by
  have hc := calls_of_block (args := #[.pointer x, .pointer m0, .int .i64 i]) Try.func20 (body := (Try.f20.body.getD .skip)) (by kernel_rfl) (by kernel_rfl) (args_slot _) (iplaw_SamePeek.B0_sound x m0 i w h)
  exact hc.mono fun e w' he => by
    obtain ⟨v, rfl, hv⟩ := he
    exact iplaw_SamePeek.RV_elim hv
def ip_IP_Check.B3 (p : Option Addr) (i j : Int) (t88 : Bool) (w : World) (N1 : Option Addr → Int → World → Prop) (N2 : Option Addr → Int → Int → World → Prop)  (R : Bool → World → Prop) : Prop :=
  Bm t88 (
    R false w) (
    N2 p i (IntKind.i64.wrap (j + (1 : Int))) w)
theorem ip_IP_Check.B3_eq (p : Option Addr) (i j : Int) (t88 : Bool) (w : World) (N1 : Option Addr → Int → World → Prop) (N2 : Option Addr → Int → Int → World → Prop)  (R : Bool → World → Prop)  :
    (
  Bm t88 (
    R false w) (
    N2 p i (IntKind.i64.wrap (j + (1 : Int))) w)) = kstep Try.prog 89 Try.f21.results.toList (Try.f21.body.getD .skip) (ip_IP_Check.RV R) (kvc Try.prog 89 Try.f21.results.toList (Try.f21.body.getD .skip) (ip_IP_Check.RV R) [([(0, [1, 1, 1, 0, 1, 0, 0, 1, 0, 0, 1, 0, 1, 1, 1, 0, 0]), (2, [1, 1, 1, 0, 1, 0, 0, 1, 0, 0, 1, 0, 1, 1, 1, 0, 0]), (1, [2]), (1, [1]), (0, [1, 1, 1, 0, 1, 0, 0, 1, 1]), (2, [1, 1, 1, 0, 1, 0, 0]), (1, [0]), (0, [1, 1, 1, 1])], fun σ w => dP (slotOf σ 0) fun p_ => dI .i64 (slotOf σ 3) fun i_ => dI .i64 (slotOf σ 5) fun j_ => N2 p_ i_ j_ w)] 2000) [(0, [1, 1, 1, 0, 1, 0, 0, 1, 0, 0, 1, 0, 1, 1, 1, 0, 0, 1, 0, 0, 1]), (1, [3]), (0, [1, 1, 1, 0, 1, 0, 0, 1, 0, 0, 1, 0, 1, 1, 1, 0, 0, 1, 1]), (2, [1, 1, 1, 0, 1, 0, 0, 1, 0, 0, 1, 0, 1, 1, 1, 0, 0]), (1, [2]), (1, [1]), (0, [1, 1, 1, 0, 1, 0, 0, 1, 1]), (2, [1, 1, 1, 0, 1, 0, 0]), (1, [0]), (0, [1, 1, 1, 1])] [(0, .pointer p), (3, .int .i64 i), (5, .int .i64 j), (88, .bool t88)] w := by kernel_rfl
theorem ip_IP_Check.B3_sound {R : Bool → World → Prop} {N1 : Option Addr → Int → World → Prop} (hN1 : ∀ p i w, N1 p i w → KW Try.prog 21 89 (ip_IP_Check.RV R) ([(0, [1, 1, 1, 0, 1, 0, 0]), (2, [1, 1, 1, 0, 1, 0, 0]), (1, [0]), (0, [1, 1, 1, 1])].map (toItem (Try.f21.body.getD .skip))) [(0, .pointer p), (3, .int .i64 i)] w) {N2 : Option Addr → Int → Int → World → Prop} (hN2 : ∀ p i j w, N2 p i j w → KW Try.prog 21 89 (ip_IP_Check.RV R) ([(0, [1, 1, 1, 0, 1, 0, 0, 1, 0, 0, 1, 0, 1, 1, 1, 0, 0]), (2, [1, 1, 1, 0, 1, 0, 0, 1, 0, 0, 1, 0, 1, 1, 1, 0, 0]), (1, [2]), (1, [1]), (0, [1, 1, 1, 0, 1, 0, 0, 1, 1]), (2, [1, 1, 1, 0, 1, 0, 0]), (1, [0]), (0, [1, 1, 1, 1])].map (toItem (Try.f21.body.getD .skip))) [(0, .pointer p), (3, .int .i64 i), (5, .int .i64 j)] w) (p : Option Addr) (i j : Int) (t88 : Bool) (w : World) (h : ip_IP_Check.B3 p i j t88 w N1 N2  R) :
    KW Try.prog 21 89 (ip_IP_Check.RV R) ([(0, [1, 1, 1, 0, 1, 0, 0, 1, 0, 0, 1, 0, 1, 1, 1, 0, 0, 1, 0, 0, 1]), (1, [3]), (0, [1, 1, 1, 0, 1, 0, 0, 1, 0, 0, 1, 0, 1, 1, 1, 0, 0, 1, 1]), (2, [1, 1, 1, 0, 1, 0, 0, 1, 0, 0, 1, 0, 1, 1, 1, 0, 0]), (1, [2]), (1, [1]), (0, [1, 1, 1, 0, 1, 0, 0, 1, 1]), (2, [1, 1, 1, 0, 1, 0, 0]), (1, [0]), (0, [1, 1, 1, 1])].map (toItem (Try.f21.body.getD .skip))) [(0, .pointer p), (3, .int .i64 i), (5, .int .i64 j), (88, .bool t88)] w := by
  exact block_spec Try.func21 Try.mixed (stops_cons (fun σ w h => by
      obtain ⟨p_, e0, h⟩ := dP_elim h
      obtain ⟨i_, e1, h⟩ := dI_elim h
      obtain ⟨j_, e2, h⟩ := dI_elim h
      exact (hN2 p_ i_ j_ w h).weaken (Sub.cons (Sub.cons (Sub.cons (Sub.nil _) e2) e1) e0)) stops_nil) (Eq.mp (ip_IP_Check.B3_eq p i j t88 w N1 N2  R ) h)
def ip_IP_Check.L2b (p : Option Addr) (i j : Int) (w : World) (N1 : Option Addr → Int → World → Prop) (N2 : Option Addr → Int → Int → World → Prop) (R : Bool → World → Prop) : Prop :=
  Bm (decide (j < i)) (
    Pn p fun a =>
    (0 ≤ j ∧ j < ((3 : Nat) : Int)) ∧
    LdB (Addr.add (a.add 3) (j.toNat * 45)) w.drew fun x71 =>
    Bm x71 (
      Pn p fun a_1 =>
      (0 ≤ j ∧ j < ((3 : Nat) : Int)) ∧
      LdI .i64 ((Addr.add (a_1.add 3) (j.toNat * 45)).add 1) w.drew fun x79 =>
      Pn p fun a_2 =>
      (0 ≤ i ∧ i < ((3 : Nat) : Int)) ∧
      LdI .i64 ((Addr.add (a_2.add 3) (i.toNat * 45)).add 1) w.drew fun x86 =>
      ip_IP_Check.B3 p i j (x79 == x86) w.drew N1 N2 R) (
      ip_IP_Check.B3 p i j false w.drew N1 N2 R)) (
    N1 p (IntKind.i64.wrap (i + (1 : Int))) w)
theorem ip_IP_Check.L2b_eq (p : Option Addr) (i j : Int) (w : World) (N1 : Option Addr → Int → World → Prop) (N2 : Option Addr → Int → Int → World → Prop) (R : Bool → World → Prop) (sB3 : Option Addr → Int → Int → Bool → World → Prop) :
    (
  Bm (decide (j < i)) (
    Pn p fun a =>
    (0 ≤ j ∧ j < ((3 : Nat) : Int)) ∧
    LdB (Addr.add (a.add 3) (j.toNat * 45)) w.drew fun x71 =>
    Bm x71 (
      Pn p fun a_1 =>
      (0 ≤ j ∧ j < ((3 : Nat) : Int)) ∧
      LdI .i64 ((Addr.add (a_1.add 3) (j.toNat * 45)).add 1) w.drew fun x79 =>
      Pn p fun a_2 =>
      (0 ≤ i ∧ i < ((3 : Nat) : Int)) ∧
      LdI .i64 ((Addr.add (a_2.add 3) (i.toNat * 45)).add 1) w.drew fun x86 =>
      sB3 p i j (x79 == x86) w.drew) (
      sB3 p i j false w.drew)) (
    N1 p (IntKind.i64.wrap (i + (1 : Int))) w)) = kstep Try.prog 89 Try.f21.results.toList (Try.f21.body.getD .skip) (ip_IP_Check.RV R) (kvc Try.prog 89 Try.f21.results.toList (Try.f21.body.getD .skip) (ip_IP_Check.RV R) [([(0, [1, 1, 1, 0, 1, 0, 0, 1, 0, 0, 1, 0, 1, 1, 1, 0, 0, 1, 0, 0, 1]), (1, [3]), (0, [1, 1, 1, 0, 1, 0, 0, 1, 0, 0, 1, 0, 1, 1, 1, 0, 0, 1, 1]), (2, [1, 1, 1, 0, 1, 0, 0, 1, 0, 0, 1, 0, 1, 1, 1, 0, 0]), (1, [2]), (1, [1]), (0, [1, 1, 1, 0, 1, 0, 0, 1, 1]), (2, [1, 1, 1, 0, 1, 0, 0]), (1, [0]), (0, [1, 1, 1, 1])], fun σ w => dP (slotOf σ 0) fun p_ => dI .i64 (slotOf σ 3) fun i_ => dI .i64 (slotOf σ 5) fun j_ => dB (slotOf σ 88) fun t88_ => sB3 p_ i_ j_ t88_ w),
    ([(0, [1, 1, 1, 0, 1, 0, 0]), (2, [1, 1, 1, 0, 1, 0, 0]), (1, [0]), (0, [1, 1, 1, 1])], fun σ w => dP (slotOf σ 0) fun p_ => dI .i64 (slotOf σ 3) fun i_ => N1 p_ i_ w)] 2000) [(0, [1, 1, 1, 0, 1, 0, 0, 1, 0, 0, 1, 0, 1, 1, 1, 0, 0]), (2, [1, 1, 1, 0, 1, 0, 0, 1, 0, 0, 1, 0, 1, 1, 1, 0, 0]), (1, [2]), (1, [1]), (0, [1, 1, 1, 0, 1, 0, 0, 1, 1]), (2, [1, 1, 1, 0, 1, 0, 0]), (1, [0]), (0, [1, 1, 1, 1])] [(0, .pointer p), (3, .int .i64 i), (5, .int .i64 j)] w := by kernel_rfl
theorem ip_IP_Check.L2b_sound {R : Bool → World → Prop} {N1 : Option Addr → Int → World → Prop} (hN1 : ∀ p i w, N1 p i w → KW Try.prog 21 89 (ip_IP_Check.RV R) ([(0, [1, 1, 1, 0, 1, 0, 0]), (2, [1, 1, 1, 0, 1, 0, 0]), (1, [0]), (0, [1, 1, 1, 1])].map (toItem (Try.f21.body.getD .skip))) [(0, .pointer p), (3, .int .i64 i)] w) {N2 : Option Addr → Int → Int → World → Prop} (hN2 : ∀ p i j w, N2 p i j w → KW Try.prog 21 89 (ip_IP_Check.RV R) ([(0, [1, 1, 1, 0, 1, 0, 0, 1, 0, 0, 1, 0, 1, 1, 1, 0, 0]), (2, [1, 1, 1, 0, 1, 0, 0, 1, 0, 0, 1, 0, 1, 1, 1, 0, 0]), (1, [2]), (1, [1]), (0, [1, 1, 1, 0, 1, 0, 0, 1, 1]), (2, [1, 1, 1, 0, 1, 0, 0]), (1, [0]), (0, [1, 1, 1, 1])].map (toItem (Try.f21.body.getD .skip))) [(0, .pointer p), (3, .int .i64 i), (5, .int .i64 j)] w) (p : Option Addr) (i j : Int) (w : World) (h : ip_IP_Check.L2b p i j w N1 N2 R) :
    KW Try.prog 21 89 (ip_IP_Check.RV R) ([(0, [1, 1, 1, 0, 1, 0, 0, 1, 0, 0, 1, 0, 1, 1, 1, 0, 0]), (2, [1, 1, 1, 0, 1, 0, 0, 1, 0, 0, 1, 0, 1, 1, 1, 0, 0]), (1, [2]), (1, [1]), (0, [1, 1, 1, 0, 1, 0, 0, 1, 1]), (2, [1, 1, 1, 0, 1, 0, 0]), (1, [0]), (0, [1, 1, 1, 1])].map (toItem (Try.f21.body.getD .skip))) [(0, .pointer p), (3, .int .i64 i), (5, .int .i64 j)] w := by
  exact block_spec Try.func21 Try.mixed (stops_cons (fun σ w h => by
      obtain ⟨p_, e0, h⟩ := dP_elim h
      obtain ⟨i_, e1, h⟩ := dI_elim h
      obtain ⟨j_, e2, h⟩ := dI_elim h
      obtain ⟨t88_, e3, h⟩ := dB_elim h
      exact (ip_IP_Check.B3_sound hN1 hN2 p_ i_ j_ t88_ w h).weaken (Sub.cons (Sub.cons (Sub.cons (Sub.cons (Sub.nil _) e3) e2) e1) e0)) (stops_cons (fun σ w h => by
      obtain ⟨p_, e0, h⟩ := dP_elim h
      obtain ⟨i_, e1, h⟩ := dI_elim h
      exact (hN1 p_ i_ w h).weaken (Sub.cons (Sub.cons (Sub.nil _) e1) e0)) stops_nil)) (Eq.mp (ip_IP_Check.L2b_eq p i j w N1 N2 R (fun p_ i_ j_ t88_ w => ip_IP_Check.B3 p_ i_ j_ t88_ w N1 N2 R)) h)
def ip_IP_Check.L2 (p : Option Addr) (i j : Int) (w : World) (N1 : Option Addr → Int → World → Prop) (R : Bool → World → Prop) : Prop :=
  ∃ (I : Nat → Option Addr → Int → Int → World → Prop) (m : Nat), I m p i j w ∧ ∀ m p i j w, I m p i j w → ip_IP_Check.L2b p i j w N1 (fun p' i' j' w' => ∃ m', m' < m ∧ I m' p' i' j' w') R
theorem ip_IP_Check.L2_sound {R : Bool → World → Prop} {N1 : Option Addr → Int → World → Prop} (hN1 : ∀ p i w, N1 p i w → KW Try.prog 21 89 (ip_IP_Check.RV R) ([(0, [1, 1, 1, 0, 1, 0, 0]), (2, [1, 1, 1, 0, 1, 0, 0]), (1, [0]), (0, [1, 1, 1, 1])].map (toItem (Try.f21.body.getD .skip))) [(0, .pointer p), (3, .int .i64 i)] w) (p : Option Addr) (i j : Int) (w : World) (h : ip_IP_Check.L2 p i j w N1 R) :
    KW Try.prog 21 89 (ip_IP_Check.RV R) ([(0, [1, 1, 1, 0, 1, 0, 0, 1, 0, 0, 1, 0, 1, 1, 1, 0, 0]), (2, [1, 1, 1, 0, 1, 0, 0, 1, 0, 0, 1, 0, 1, 1, 1, 0, 0]), (1, [2]), (1, [1]), (0, [1, 1, 1, 0, 1, 0, 0, 1, 1]), (2, [1, 1, 1, 0, 1, 0, 0]), (1, [0]), (0, [1, 1, 1, 1])].map (toItem (Try.f21.body.getD .skip))) [(0, .pointer p), (3, .int .i64 i), (5, .int .i64 j)] w := by
  obtain ⟨I, m, h0, hr⟩ := h
  refine KW.loop (fun m σ w => ∃ (p : Option Addr) (i j : Int), σ = [(0, .pointer p), (3, .int .i64 i), (5, .int .i64 j)] ∧ I m p i j w) ?_ m _ w ⟨p, i, j, rfl, h0⟩
  rintro m ih σ w ⟨p, i, j, rfl, hI⟩
  exact ip_IP_Check.L2b_sound hN1 (N2 := fun p' i' j' w' => ∃ m', m' < m ∧ I m' p' i' j' w') (fun p' i' j' w' hx => by obtain ⟨m', hlt, hI'⟩ := hx; exact ih m' hlt _ w' ⟨p', i', j', rfl, hI'⟩) p i j w (hr m p i j w hI)
def ip_IP_Check.L1b (p : Option Addr) (i : Int) (w : World)  (N1 : Option Addr → Int → World → Prop) (R : Bool → World → Prop) : Prop :=
  Bm (decide (i < (3 : Int))) (
    Pn p fun a =>
    (0 ≤ i ∧ i < ((3 : Nat) : Int)) ∧
    LdB (Addr.add (a.add 3) (i.toNat * 45)) w fun x54 =>
    Bm x54 (
      ip_IP_checkSlot.Call p i w fun r57 w1 =>
      Bm (!r57) (
        R false w1) (
        ip_IP_Check.L2 p i (0 : Int) w1 N1 R)) (
      N1 p (IntKind.i64.wrap (i + (1 : Int))) w)) (
    R true w)
theorem ip_IP_Check.L1b_eq (p : Option Addr) (i : Int) (w : World)  (N1 : Option Addr → Int → World → Prop) (R : Bool → World → Prop) (sL2 : Option Addr → Int → Int → World → Prop) :
    (
  Bm (decide (i < (3 : Int))) (
    Pn p fun a =>
    (0 ≤ i ∧ i < ((3 : Nat) : Int)) ∧
    LdB (Addr.add (a.add 3) (i.toNat * 45)) w fun x54 =>
    Bm x54 (
      ip_IP_checkSlot.Call p i w fun r57 w1 =>
      Bm (!r57) (
        R false w1) (
        sL2 p i (0 : Int) w1)) (
      N1 p (IntKind.i64.wrap (i + (1 : Int))) w)) (
    R true w)) = kstep Try.prog 89 Try.f21.results.toList (Try.f21.body.getD .skip) (ip_IP_Check.RV R) (kvc Try.prog 89 Try.f21.results.toList (Try.f21.body.getD .skip) (ip_IP_Check.RV R) [([(0, [1, 1, 1, 0, 1, 0, 0, 1, 0, 0, 1, 0, 1, 1, 1, 0, 0]), (2, [1, 1, 1, 0, 1, 0, 0, 1, 0, 0, 1, 0, 1, 1, 1, 0, 0]), (1, [2]), (1, [1]), (0, [1, 1, 1, 0, 1, 0, 0, 1, 1]), (2, [1, 1, 1, 0, 1, 0, 0]), (1, [0]), (0, [1, 1, 1, 1])], fun σ w => dP (slotOf σ 0) fun p_ => dI .i64 (slotOf σ 3) fun i_ => dI .i64 (slotOf σ 5) fun j_ => sL2 p_ i_ j_ w),
    ([(0, [1, 1, 1, 0, 1, 0, 0]), (2, [1, 1, 1, 0, 1, 0, 0]), (1, [0]), (0, [1, 1, 1, 1])], fun σ w => dP (slotOf σ 0) fun p_ => dI .i64 (slotOf σ 3) fun i_ => N1 p_ i_ w)] 2000) [(0, [1, 1, 1, 0, 1, 0, 0]), (2, [1, 1, 1, 0, 1, 0, 0]), (1, [0]), (0, [1, 1, 1, 1])] [(0, .pointer p), (3, .int .i64 i)] w := by kernel_rfl
theorem ip_IP_Check.L1b_sound {R : Bool → World → Prop} {N1 : Option Addr → Int → World → Prop} (hN1 : ∀ p i w, N1 p i w → KW Try.prog 21 89 (ip_IP_Check.RV R) ([(0, [1, 1, 1, 0, 1, 0, 0]), (2, [1, 1, 1, 0, 1, 0, 0]), (1, [0]), (0, [1, 1, 1, 1])].map (toItem (Try.f21.body.getD .skip))) [(0, .pointer p), (3, .int .i64 i)] w) (p : Option Addr) (i : Int) (w : World) (h : ip_IP_Check.L1b p i w  N1 R) :
    KW Try.prog 21 89 (ip_IP_Check.RV R) ([(0, [1, 1, 1, 0, 1, 0, 0]), (2, [1, 1, 1, 0, 1, 0, 0]), (1, [0]), (0, [1, 1, 1, 1])].map (toItem (Try.f21.body.getD .skip))) [(0, .pointer p), (3, .int .i64 i)] w := by
  exact block_spec Try.func21 Try.mixed (stops_cons (fun σ w h => by
      obtain ⟨p_, e0, h⟩ := dP_elim h
      obtain ⟨i_, e1, h⟩ := dI_elim h
      obtain ⟨j_, e2, h⟩ := dI_elim h
      exact (ip_IP_Check.L2_sound hN1 p_ i_ j_ w h).weaken (Sub.cons (Sub.cons (Sub.cons (Sub.nil _) e2) e1) e0)) (stops_cons (fun σ w h => by
      obtain ⟨p_, e0, h⟩ := dP_elim h
      obtain ⟨i_, e1, h⟩ := dI_elim h
      exact (hN1 p_ i_ w h).weaken (Sub.cons (Sub.cons (Sub.nil _) e1) e0)) stops_nil)) (Eq.mp (ip_IP_Check.L1b_eq p i w  N1 R (fun p_ i_ j_ w => ip_IP_Check.L2 p_ i_ j_ w N1 R)) h)
def ip_IP_Check.L1 (p : Option Addr) (i : Int) (w : World)  (R : Bool → World → Prop) : Prop :=
  ∃ (I : Nat → Option Addr → Int → World → Prop) (m : Nat), I m p i w ∧ ∀ m p i w, I m p i w → ip_IP_Check.L1b p i w  (fun p' i' w' => ∃ m', m' < m ∧ I m' p' i' w') R
theorem ip_IP_Check.L1_sound {R : Bool → World → Prop}  (p : Option Addr) (i : Int) (w : World) (h : ip_IP_Check.L1 p i w  R) :
    KW Try.prog 21 89 (ip_IP_Check.RV R) ([(0, [1, 1, 1, 0, 1, 0, 0]), (2, [1, 1, 1, 0, 1, 0, 0]), (1, [0]), (0, [1, 1, 1, 1])].map (toItem (Try.f21.body.getD .skip))) [(0, .pointer p), (3, .int .i64 i)] w := by
  obtain ⟨I, m, h0, hr⟩ := h
  refine KW.loop (fun m σ w => ∃ (p : Option Addr) (i : Int), σ = [(0, .pointer p), (3, .int .i64 i)] ∧ I m p i w) ?_ m _ w ⟨p, i, rfl, h0⟩
  rintro m ih σ w ⟨p, i, rfl, hI⟩
  exact ip_IP_Check.L1b_sound  (N1 := fun p' i' w' => ∃ m', m' < m ∧ I m' p' i' w') (fun p' i' w' hx => by obtain ⟨m', hlt, hI'⟩ := hx; exact ih m' hlt _ w' ⟨p', i', rfl, hI'⟩) p i w (hr m p i w hI)
def ip_IP_Check.B2 (p : Option Addr) (t43 : Bool) (w : World)   (R : Bool → World → Prop) : Prop :=
  Bm t43 (
    R false w) (
    ip_IP_Check.L1 p (0 : Int) w  R)
theorem ip_IP_Check.B2_eq (p : Option Addr) (t43 : Bool) (w : World)   (R : Bool → World → Prop) (sL1 : Option Addr → Int → World → Prop) :
    (
  Bm t43 (
    R false w) (
    sL1 p (0 : Int) w)) = kstep Try.prog 89 Try.f21.results.toList (Try.f21.body.getD .skip) (ip_IP_Check.RV R) (kvc Try.prog 89 Try.f21.results.toList (Try.f21.body.getD .skip) (ip_IP_Check.RV R) [([(0, [1, 1, 1, 0, 1, 0, 0]), (2, [1, 1, 1, 0, 1, 0, 0]), (1, [0]), (0, [1, 1, 1, 1])], fun σ w => dP (slotOf σ 0) fun p_ => dI .i64 (slotOf σ 3) fun i_ => sL1 p_ i_ w)] 2000) [(0, [1, 1, 0, 1]), (0, [1, 1, 1])] [(0, .pointer p), (43, .bool t43)] w := by kernel_rfl
theorem ip_IP_Check.B2_sound {R : Bool → World → Prop}  (p : Option Addr) (t43 : Bool) (w : World) (h : ip_IP_Check.B2 p t43 w   R) :
    KW Try.prog 21 89 (ip_IP_Check.RV R) ([(0, [1, 1, 0, 1]), (0, [1, 1, 1])].map (toItem (Try.f21.body.getD .skip))) [(0, .pointer p), (43, .bool t43)] w := by
  exact block_spec Try.func21 Try.mixed (stops_cons (fun σ w h => by
      obtain ⟨p_, e0, h⟩ := dP_elim h
      obtain ⟨i_, e1, h⟩ := dI_elim h
      exact (ip_IP_Check.L1_sound  p_ i_ w h).weaken (Sub.cons (Sub.cons (Sub.nil _) e1) e0)) stops_nil) (Eq.mp (ip_IP_Check.B2_eq p t43 w   R (fun p_ i_ w => ip_IP_Check.L1 p_ i_ w  R)) h)
def ip_IP_Check.B1 (p : Option Addr) (t31 : Bool) (w : World)   (R : Bool → World → Prop) : Prop :=
  Bm t31 (
    R false w) (
    Pn p fun a =>
    LdI .i64 (a.add 2) w fun x35 =>
    Bm (decide (x35 < (0 : Int))) (
      ip_IP_Check.B2 p true w  R) (
      Pn p fun a_1 =>
      LdI .i64 (a_1.add 2) w fun x41 =>
      ip_IP_Check.B2 p (decide (x41 > (24 : Int))) w  R))
theorem ip_IP_Check.B1_eq (p : Option Addr) (t31 : Bool) (w : World)   (R : Bool → World → Prop) (sB2 : Option Addr → Bool → World → Prop) :
    (
  Bm t31 (
    R false w) (
    Pn p fun a =>
    LdI .i64 (a.add 2) w fun x35 =>
    Bm (decide (x35 < (0 : Int))) (
      sB2 p true w) (
      Pn p fun a_1 =>
      LdI .i64 (a_1.add 2) w fun x41 =>
      sB2 p (decide (x41 > (24 : Int))) w))) = kstep Try.prog 89 Try.f21.results.toList (Try.f21.body.getD .skip) (ip_IP_Check.RV R) (kvc Try.prog 89 Try.f21.results.toList (Try.f21.body.getD .skip) (ip_IP_Check.RV R) [([(0, [1, 1, 0, 1]), (0, [1, 1, 1])], fun σ w => dP (slotOf σ 0) fun p_ => dB (slotOf σ 43) fun t43_ => sB2 p_ t43_ w)] 2000) [(0, [1, 0, 1]), (0, [1, 1])] [(0, .pointer p), (31, .bool t31)] w := by kernel_rfl
theorem ip_IP_Check.B1_sound {R : Bool → World → Prop}  (p : Option Addr) (t31 : Bool) (w : World) (h : ip_IP_Check.B1 p t31 w   R) :
    KW Try.prog 21 89 (ip_IP_Check.RV R) ([(0, [1, 0, 1]), (0, [1, 1])].map (toItem (Try.f21.body.getD .skip))) [(0, .pointer p), (31, .bool t31)] w := by
  exact block_spec Try.func21 Try.mixed (stops_cons (fun σ w h => by
      obtain ⟨p_, e0, h⟩ := dP_elim h
      obtain ⟨t43_, e1, h⟩ := dB_elim h
      exact (ip_IP_Check.B2_sound  p_ t43_ w h).weaken (Sub.cons (Sub.cons (Sub.nil _) e1) e0)) stops_nil) (Eq.mp (ip_IP_Check.B1_eq p t31 w   R (fun p_ t43_ w => ip_IP_Check.B2 p_ t43_ w  R)) h)
def ip_IP_Check.B0 (p : Option Addr) (w : World)   (R : Bool → World → Prop) : Prop :=
  Pn p fun a =>
  LdI .i64 a w fun x9 =>
  Bm (decide (x9 < (0 : Int))) (
    ip_IP_Check.B1 p true w  R) (
    Pn p fun a_1 =>
    LdI .i64 a_1 w fun x15 =>
    Bm (decide (x15 > (255 : Int))) (
      ip_IP_Check.B1 p true w  R) (
      Pn p fun a_2 =>
      LdI .i64 (a_2.add 1) w fun x22 =>
      Bm (decide (x22 < (0 : Int))) (
        ip_IP_Check.B1 p true w  R) (
        Pn p fun a_3 =>
        LdI .i64 (a_3.add 1) w fun x29 =>
        ip_IP_Check.B1 p (decide (x29 ≥ (256 : Int))) w  R)))
theorem ip_IP_Check.B0_eq (p : Option Addr) (w : World)   (R : Bool → World → Prop) (sB1 : Option Addr → Bool → World → Prop) :
    (
  Pn p fun a =>
  LdI .i64 a w fun x9 =>
  Bm (decide (x9 < (0 : Int))) (
    sB1 p true w) (
    Pn p fun a_1 =>
    LdI .i64 a_1 w fun x15 =>
    Bm (decide (x15 > (255 : Int))) (
      sB1 p true w) (
      Pn p fun a_2 =>
      LdI .i64 (a_2.add 1) w fun x22 =>
      Bm (decide (x22 < (0 : Int))) (
        sB1 p true w) (
        Pn p fun a_3 =>
        LdI .i64 (a_3.add 1) w fun x29 =>
        sB1 p (decide (x29 ≥ (256 : Int))) w)))) = kstep Try.prog 89 Try.f21.results.toList (Try.f21.body.getD .skip) (ip_IP_Check.RV R) (kvc Try.prog 89 Try.f21.results.toList (Try.f21.body.getD .skip) (ip_IP_Check.RV R) [([(0, [1, 0, 1]), (0, [1, 1])], fun σ w => dP (slotOf σ 0) fun p_ => dB (slotOf σ 31) fun t31_ => sB1 p_ t31_ w)] 2000) [(0, [])] [(0, .pointer p)] w := by kernel_rfl
theorem ip_IP_Check.B0_sound {R : Bool → World → Prop}  (p : Option Addr) (w : World) (h : ip_IP_Check.B0 p w   R) :
    KW Try.prog 21 89 (ip_IP_Check.RV R) ([(0, [])].map (toItem (Try.f21.body.getD .skip))) [(0, .pointer p)] w := by
  exact block_spec Try.func21 Try.mixed (stops_cons (fun σ w h => by
      obtain ⟨p_, e0, h⟩ := dP_elim h
      obtain ⟨t31_, e1, h⟩ := dB_elim h
      exact (ip_IP_Check.B1_sound  p_ t31_ w h).weaken (Sub.cons (Sub.cons (Sub.nil _) e1) e0)) stops_nil) (Eq.mp (ip_IP_Check.B0_eq p w   R (fun p_ t31_ w => ip_IP_Check.B1 p_ t31_ w  R)) h)
theorem ip_IP_Check.sound (p : Option Addr) (w : World) (R : Bool → World → Prop) (h : ip_IP_Check.B0 p w R) : ip_IP_Check.Call p w R := by
  have hc := calls_of_block (args := #[.pointer p]) Try.func21 (body := (Try.f21.body.getD .skip)) (by kernel_rfl) (by kernel_rfl) (args_slot _) (ip_IP_Check.B0_sound p w h)
  exact hc.mono fun e w' he => by
    obtain ⟨v, rfl, hv⟩ := he
    exact ip_IP_Check.RV_elim hv
def iplaw_World_SameOutput.B2 (w0 px_b : Option Addr) (px_l px_c : Nat) (pm_b : Option Addr) (pm_l pm_c : Nat) (i : Int) (t87 : Bool) (w : World) (N1 : Option Addr → Option Addr → Nat → Nat → Option Addr → Nat → Nat → Int → World → Prop)  (R : Bool → World → Prop) : Prop :=
  Bm t87 (
    R false w) (
    N1 w0 px_b px_l px_c pm_b pm_l pm_c (IntKind.i64.wrap (i + (1 : Int))) w)
theorem iplaw_World_SameOutput.B2_eq (w0 px_b : Option Addr) (px_l px_c : Nat) (pm_b : Option Addr) (pm_l pm_c : Nat) (i : Int) (t87 : Bool) (w : World) (N1 : Option Addr → Option Addr → Nat → Nat → Option Addr → Nat → Nat → Int → World → Prop)  (R : Bool → World → Prop)  :
    (
  Bm t87 (
    R false w) (
    N1 w0 px_b px_l px_c pm_b pm_l pm_c (IntKind.i64.wrap (i + (1 : Int))) w)) = kstep Try.prog 117 Try.f22.results.toList (Try.f22.body.getD .skip) (iplaw_World_SameOutput.RV R) (kvc Try.prog 117 Try.f22.results.toList (Try.f22.body.getD .skip) (iplaw_World_SameOutput.RV R) [([(0, [1, 1, 1, 1, 1, 1, 1, 1, 0, 1, 0, 0]), (2, [1, 1, 1, 1, 1, 1, 1, 1, 0, 1, 0, 0]), (1, [0]), (0, [1, 1, 1, 1, 1, 1, 1, 1, 1])], fun σ w => dP (slotOf σ 0) fun w0_ => dL (slotOf σ 13) fun px_b_ px_l_ px_c_ => dL (slotOf σ 15) fun pm_b_ pm_l_ pm_c_ => dI .i64 (slotOf σ 17) fun i_ => N1 w0_ px_b_ px_l_ px_c_ pm_b_ pm_l_ pm_c_ i_ w)] 2000) [(0, [1, 1, 1, 1, 1, 1, 1, 1, 0, 1, 0, 0, 1, 0, 0, 1]), (1, [1]), (0, [1, 1, 1, 1, 1, 1, 1, 1, 0, 1, 0, 0, 1, 1]), (2, [1, 1, 1, 1, 1, 1, 1, 1, 0, 1, 0, 0]), (1, [0]), (0, [1, 1, 1, 1, 1, 1, 1, 1, 1])] [(0, .pointer w0), (13, .slice px_b px_l px_c), (15, .slice pm_b pm_l pm_c), (17, .int .i64 i), (87, .bool t87)] w := by kernel_rfl
theorem iplaw_World_SameOutput.B2_sound {R : Bool → World → Prop} {N1 : Option Addr → Option Addr → Nat → Nat → Option Addr → Nat → Nat → Int → World → Prop} (hN1 : ∀ w0 px_b px_l px_c pm_b pm_l pm_c i w, N1 w0 px_b px_l px_c pm_b pm_l pm_c i w → KW Try.prog 22 117 (iplaw_World_SameOutput.RV R) ([(0, [1, 1, 1, 1, 1, 1, 1, 1, 0, 1, 0, 0]), (2, [1, 1, 1, 1, 1, 1, 1, 1, 0, 1, 0, 0]), (1, [0]), (0, [1, 1, 1, 1, 1, 1, 1, 1, 1])].map (toItem (Try.f22.body.getD .skip))) [(0, .pointer w0), (13, .slice px_b px_l px_c), (15, .slice pm_b pm_l pm_c), (17, .int .i64 i)] w) (w0 px_b : Option Addr) (px_l px_c : Nat) (pm_b : Option Addr) (pm_l pm_c : Nat) (i : Int) (t87 : Bool) (w : World) (h : iplaw_World_SameOutput.B2 w0 px_b px_l px_c pm_b pm_l pm_c i t87 w N1  R) :
    KW Try.prog 22 117 (iplaw_World_SameOutput.RV R) ([(0, [1, 1, 1, 1, 1, 1, 1, 1, 0, 1, 0, 0, 1, 0, 0, 1]), (1, [1]), (0, [1, 1, 1, 1, 1, 1, 1, 1, 0, 1, 0, 0, 1, 1]), (2, [1, 1, 1, 1, 1, 1, 1, 1, 0, 1, 0, 0]), (1, [0]), (0, [1, 1, 1, 1, 1, 1, 1, 1, 1])].map (toItem (Try.f22.body.getD .skip))) [(0, .pointer w0), (13, .slice px_b px_l px_c), (15, .slice pm_b pm_l pm_c), (17, .int .i64 i), (87, .bool t87)] w := by
  exact block_spec Try.func22 Try.mixed (stops_cons (fun σ w h => by
      obtain ⟨w0_, e0, h⟩ := dP_elim h
      obtain ⟨px_b_, px_l_, px_c_, e1, h⟩ := dL_elim h
      obtain ⟨pm_b_, pm_l_, pm_c_, e2, h⟩ := dL_elim h
      obtain ⟨i_, e3, h⟩ := dI_elim h
      exact (hN1 w0_ px_b_ px_l_ px_c_ pm_b_ pm_l_ pm_c_ i_ w h).weaken (Sub.cons (Sub.cons (Sub.cons (Sub.cons (Sub.nil _) e3) e2) e1) e0)) stops_nil) (Eq.mp (iplaw_World_SameOutput.B2_eq w0 px_b px_l px_c pm_b pm_l pm_c i t87 w N1  R ) h)
def iplaw_World_SameOutput.L2b (w0 px_b : Option Addr) (px_l px_c : Nat) (pm_b : Option Addr) (pm_l pm_c : Nat) (i : Int) (w : World)  (N2 : Option Addr → Option Addr → Nat → Nat → Option Addr → Nat → Nat → Int → World → Prop) (R : Bool → World → Prop) : Prop :=
  Bm (decide (i < ((px_l : Nat) : Int))) (
    Pn w0 fun a =>
    LdL (a.add 4) w.drew fun x98_b x98_l x98_c =>
    Pn pm_b fun a_1 =>
    (0 ≤ i ∧ i < ((pm_l : Nat) : Int)) ∧
    LdL (Addr.add a_1 (i.toNat * 1)) w.drew fun x102_b x102_l x102_c =>
    ToStr x102_b x102_l w.drew fun s103 =>
    w.drew.cell? (a.add 4) = some (.slice x98_b x98_l x98_c) ∧
    New (.cells #[.string s103] 9) w.drew fun b104 w1 =>
    w1.cell? (a.add 4) = some (.slice x98_b x98_l x98_c) ∧
    Append 9 (.string (ByteArray.mk #[])) 1 16 x98_b x98_l x98_c (some ⟨b104, 0, none⟩) 1 w1 fun b105 c105 w2 =>
    Pn w0 fun a_2 =>
    Sts [.slice b105 (x98_l + 1) c105] (a_2.add 4) 0 w2 fun w3 =>
    Pn px_b fun a_3 =>
    (0 ≤ i ∧ i < ((px_l : Nat) : Int)) ∧
    LdL (Addr.add a_3 (i.toNat * 1)) w3 fun x112_b x112_l x112_c =>
    iplaw_World_Own.Call w0 x112_b x112_l x112_c w3 fun w4 =>
    N2 w0 px_b px_l px_c pm_b pm_l pm_c (IntKind.i64.wrap (i + (1 : Int))) w4) (
    iplaw_World_OwnOut.Call w0 px_b px_l px_c w fun w5 =>
    R true w5)
theorem iplaw_World_SameOutput.L2b_eq (w0 px_b : Option Addr) (px_l px_c : Nat) (pm_b : Option Addr) (pm_l pm_c : Nat) (i : Int) (w : World)  (N2 : Option Addr → Option Addr → Nat → Nat → Option Addr → Nat → Nat → Int → World → Prop) (R : Bool → World → Prop)  :
    (
  Bm (decide (i < ((px_l : Nat) : Int))) (
    Pn w0 fun a =>
    LdL (a.add 4) w.drew fun x98_b x98_l x98_c =>
    Pn pm_b fun a_1 =>
    (0 ≤ i ∧ i < ((pm_l : Nat) : Int)) ∧
    LdL (Addr.add a_1 (i.toNat * 1)) w.drew fun x102_b x102_l x102_c =>
    ToStr x102_b x102_l w.drew fun s103 =>
    w.drew.cell? (a.add 4) = some (.slice x98_b x98_l x98_c) ∧
    New (.cells #[.string s103] 9) w.drew fun b104 w1 =>
    w1.cell? (a.add 4) = some (.slice x98_b x98_l x98_c) ∧
    Append 9 (.string (ByteArray.mk #[])) 1 16 x98_b x98_l x98_c (some ⟨b104, 0, none⟩) 1 w1 fun b105 c105 w2 =>
    Pn w0 fun a_2 =>
    Sts [.slice b105 (x98_l + 1) c105] (a_2.add 4) 0 w2 fun w3 =>
    Pn px_b fun a_3 =>
    (0 ≤ i ∧ i < ((px_l : Nat) : Int)) ∧
    LdL (Addr.add a_3 (i.toNat * 1)) w3 fun x112_b x112_l x112_c =>
    iplaw_World_Own.Call w0 x112_b x112_l x112_c w3 fun w4 =>
    N2 w0 px_b px_l px_c pm_b pm_l pm_c (IntKind.i64.wrap (i + (1 : Int))) w4) (
    iplaw_World_OwnOut.Call w0 px_b px_l px_c w fun w5 =>
    R true w5)) = kstep Try.prog 117 Try.f22.results.toList (Try.f22.body.getD .skip) (iplaw_World_SameOutput.RV R) (kvc Try.prog 117 Try.f22.results.toList (Try.f22.body.getD .skip) (iplaw_World_SameOutput.RV R) [([(0, [1, 1, 1, 1, 1, 1, 1, 1, 1, 0, 1, 0, 0]), (2, [1, 1, 1, 1, 1, 1, 1, 1, 1, 0, 1, 0, 0]), (1, [2]), (0, [1, 1, 1, 1, 1, 1, 1, 1, 1, 1])], fun σ w => dP (slotOf σ 0) fun w0_ => dL (slotOf σ 13) fun px_b_ px_l_ px_c_ => dL (slotOf σ 15) fun pm_b_ pm_l_ pm_c_ => dI .i64 (slotOf σ 18) fun i_ => N2 w0_ px_b_ px_l_ px_c_ pm_b_ pm_l_ pm_c_ i_ w)] 2000) [(0, [1, 1, 1, 1, 1, 1, 1, 1, 1, 0, 1, 0, 0]), (2, [1, 1, 1, 1, 1, 1, 1, 1, 1, 0, 1, 0, 0]), (1, [2]), (0, [1, 1, 1, 1, 1, 1, 1, 1, 1, 1])] [(0, .pointer w0), (13, .slice px_b px_l px_c), (15, .slice pm_b pm_l pm_c), (18, .int .i64 i)] w := by kernel_rfl
theorem iplaw_World_SameOutput.L2b_sound {R : Bool → World → Prop} {N2 : Option Addr → Option Addr → Nat → Nat → Option Addr → Nat → Nat → Int → World → Prop} (hN2 : ∀ w0 px_b px_l px_c pm_b pm_l pm_c i w, N2 w0 px_b px_l px_c pm_b pm_l pm_c i w → KW Try.prog 22 117 (iplaw_World_SameOutput.RV R) ([(0, [1, 1, 1, 1, 1, 1, 1, 1, 1, 0, 1, 0, 0]), (2, [1, 1, 1, 1, 1, 1, 1, 1, 1, 0, 1, 0, 0]), (1, [2]), (0, [1, 1, 1, 1, 1, 1, 1, 1, 1, 1])].map (toItem (Try.f22.body.getD .skip))) [(0, .pointer w0), (13, .slice px_b px_l px_c), (15, .slice pm_b pm_l pm_c), (18, .int .i64 i)] w) (w0 px_b : Option Addr) (px_l px_c : Nat) (pm_b : Option Addr) (pm_l pm_c : Nat) (i : Int) (w : World) (h : iplaw_World_SameOutput.L2b w0 px_b px_l px_c pm_b pm_l pm_c i w  N2 R) :
    KW Try.prog 22 117 (iplaw_World_SameOutput.RV R) ([(0, [1, 1, 1, 1, 1, 1, 1, 1, 1, 0, 1, 0, 0]), (2, [1, 1, 1, 1, 1, 1, 1, 1, 1, 0, 1, 0, 0]), (1, [2]), (0, [1, 1, 1, 1, 1, 1, 1, 1, 1, 1])].map (toItem (Try.f22.body.getD .skip))) [(0, .pointer w0), (13, .slice px_b px_l px_c), (15, .slice pm_b pm_l pm_c), (18, .int .i64 i)] w := by
  exact block_spec Try.func22 Try.mixed (stops_cons (fun σ w h => by
      obtain ⟨w0_, e0, h⟩ := dP_elim h
      obtain ⟨px_b_, px_l_, px_c_, e1, h⟩ := dL_elim h
      obtain ⟨pm_b_, pm_l_, pm_c_, e2, h⟩ := dL_elim h
      obtain ⟨i_, e3, h⟩ := dI_elim h
      exact (hN2 w0_ px_b_ px_l_ px_c_ pm_b_ pm_l_ pm_c_ i_ w h).weaken (Sub.cons (Sub.cons (Sub.cons (Sub.cons (Sub.nil _) e3) e2) e1) e0)) stops_nil) (Eq.mp (iplaw_World_SameOutput.L2b_eq w0 px_b px_l px_c pm_b pm_l pm_c i w  N2 R ) h)
def iplaw_World_SameOutput.L2 (w0 px_b : Option Addr) (px_l px_c : Nat) (pm_b : Option Addr) (pm_l pm_c : Nat) (i : Int) (w : World)  (R : Bool → World → Prop) : Prop :=
  ∃ (I : Nat → Option Addr → Option Addr → Nat → Nat → Option Addr → Nat → Nat → Int → World → Prop) (m : Nat), I m w0 px_b px_l px_c pm_b pm_l pm_c i w ∧ ∀ m w0 px_b px_l px_c pm_b pm_l pm_c i w, I m w0 px_b px_l px_c pm_b pm_l pm_c i w → iplaw_World_SameOutput.L2b w0 px_b px_l px_c pm_b pm_l pm_c i w  (fun w0' px_b' px_l' px_c' pm_b' pm_l' pm_c' i' w' => ∃ m', m' < m ∧ I m' w0' px_b' px_l' px_c' pm_b' pm_l' pm_c' i' w') R
theorem iplaw_World_SameOutput.L2_sound {R : Bool → World → Prop}  (w0 px_b : Option Addr) (px_l px_c : Nat) (pm_b : Option Addr) (pm_l pm_c : Nat) (i : Int) (w : World) (h : iplaw_World_SameOutput.L2 w0 px_b px_l px_c pm_b pm_l pm_c i w  R) :
    KW Try.prog 22 117 (iplaw_World_SameOutput.RV R) ([(0, [1, 1, 1, 1, 1, 1, 1, 1, 1, 0, 1, 0, 0]), (2, [1, 1, 1, 1, 1, 1, 1, 1, 1, 0, 1, 0, 0]), (1, [2]), (0, [1, 1, 1, 1, 1, 1, 1, 1, 1, 1])].map (toItem (Try.f22.body.getD .skip))) [(0, .pointer w0), (13, .slice px_b px_l px_c), (15, .slice pm_b pm_l pm_c), (18, .int .i64 i)] w := by
  obtain ⟨I, m, h0, hr⟩ := h
  refine KW.loop (fun m σ w => ∃ (w0 px_b : Option Addr) (px_l px_c : Nat) (pm_b : Option Addr) (pm_l pm_c : Nat) (i : Int), σ = [(0, .pointer w0), (13, .slice px_b px_l px_c), (15, .slice pm_b pm_l pm_c), (18, .int .i64 i)] ∧ I m w0 px_b px_l px_c pm_b pm_l pm_c i w) ?_ m _ w ⟨w0, px_b, px_l, px_c, pm_b, pm_l, pm_c, i, rfl, h0⟩
  rintro m ih σ w ⟨w0, px_b, px_l, px_c, pm_b, pm_l, pm_c, i, rfl, hI⟩
  exact iplaw_World_SameOutput.L2b_sound  (N2 := fun w0' px_b' px_l' px_c' pm_b' pm_l' pm_c' i' w' => ∃ m', m' < m ∧ I m' w0' px_b' px_l' px_c' pm_b' pm_l' pm_c' i' w') (fun w0' px_b' px_l' px_c' pm_b' pm_l' pm_c' i' w' hx => by obtain ⟨m', hlt, hI'⟩ := hx; exact ih m' hlt _ w' ⟨w0', px_b', px_l', px_c', pm_b', pm_l', pm_c', i', rfl, hI'⟩) w0 px_b px_l px_c pm_b pm_l pm_c i w (hr m w0 px_b px_l px_c pm_b pm_l pm_c i w hI)
def iplaw_World_SameOutput.L1b (w0 px_b : Option Addr) (px_l px_c : Nat) (pm_b : Option Addr) (pm_l pm_c : Nat) (i : Int) (w : World)  (N1 : Option Addr → Option Addr → Nat → Nat → Option Addr → Nat → Nat → Int → World → Prop) (R : Bool → World → Prop) : Prop :=
  Bm (decide (i < ((px_l : Nat) : Int))) (
    Pn px_b fun a =>
    (0 ≤ i ∧ i < ((px_l : Nat) : Int)) ∧
    LdL (Addr.add a (i.toNat * 1)) w.drew fun x80_b x80_l x80_c =>
    Pn pm_b fun a_1 =>
    (0 ≤ i ∧ i < ((pm_l : Nat) : Int)) ∧
    LdL (Addr.add a_1 (i.toNat * 1)) w.drew fun x85_b x85_l x85_c =>
    ((
      ToStr x80_b x80_l w.drew fun s81 =>
      w.drew.cell? (Addr.add a_1 (i.toNat * 1)) = some (.slice x85_b x85_l x85_c) ∧
      ToStr x85_b x85_l w.drew fun s86 =>
      iplaw_World_SameOutput.B2 w0 px_b px_l px_c pm_b pm_l pm_c i (!(s81.toList == s86.toList)) w.drew N1 R) ∧ (
      ToStr x85_b x85_l w.drew fun s86_1 =>
      w.drew.cell? (Addr.add a (i.toNat * 1)) = some (.slice x80_b x80_l x80_c) ∧
      ToStr x80_b x80_l w.drew fun s81_1 =>
      iplaw_World_SameOutput.B2 w0 px_b px_l px_c pm_b pm_l pm_c i (!(s81_1.toList == s86_1.toList)) w.drew N1 R))) (
    iplaw_World_SameOutput.L2 w0 px_b px_l px_c pm_b pm_l pm_c (0 : Int) w  R)
theorem iplaw_World_SameOutput.L1b_eq (w0 px_b : Option Addr) (px_l px_c : Nat) (pm_b : Option Addr) (pm_l pm_c : Nat) (i : Int) (w : World)  (N1 : Option Addr → Option Addr → Nat → Nat → Option Addr → Nat → Nat → Int → World → Prop) (R : Bool → World → Prop) (sB2 : Option Addr → Option Addr → Nat → Nat → Option Addr → Nat → Nat → Int → Bool → World → Prop) (sL2 : Option Addr → Option Addr → Nat → Nat → Option Addr → Nat → Nat → Int → World → Prop) :
    (
  Bm (decide (i < ((px_l : Nat) : Int))) (
    Pn px_b fun a =>
    (0 ≤ i ∧ i < ((px_l : Nat) : Int)) ∧
    LdL (Addr.add a (i.toNat * 1)) w.drew fun x80_b x80_l x80_c =>
    Pn pm_b fun a_1 =>
    (0 ≤ i ∧ i < ((pm_l : Nat) : Int)) ∧
    LdL (Addr.add a_1 (i.toNat * 1)) w.drew fun x85_b x85_l x85_c =>
    ((
      ToStr x80_b x80_l w.drew fun s81 =>
      w.drew.cell? (Addr.add a_1 (i.toNat * 1)) = some (.slice x85_b x85_l x85_c) ∧
      ToStr x85_b x85_l w.drew fun s86 =>
      sB2 w0 px_b px_l px_c pm_b pm_l pm_c i (!(s81.toList == s86.toList)) w.drew) ∧ (
      ToStr x85_b x85_l w.drew fun s86_1 =>
      w.drew.cell? (Addr.add a (i.toNat * 1)) = some (.slice x80_b x80_l x80_c) ∧
      ToStr x80_b x80_l w.drew fun s81_1 =>
      sB2 w0 px_b px_l px_c pm_b pm_l pm_c i (!(s81_1.toList == s86_1.toList)) w.drew))) (
    sL2 w0 px_b px_l px_c pm_b pm_l pm_c (0 : Int) w)) = kstep Try.prog 117 Try.f22.results.toList (Try.f22.body.getD .skip) (iplaw_World_SameOutput.RV R) (kvc Try.prog 117 Try.f22.results.toList (Try.f22.body.getD .skip) (iplaw_World_SameOutput.RV R) [([(0, [1, 1, 1, 1, 1, 1, 1, 1, 0, 1, 0, 0, 1, 0, 0, 1]), (1, [1]), (0, [1, 1, 1, 1, 1, 1, 1, 1, 0, 1, 0, 0, 1, 1]), (2, [1, 1, 1, 1, 1, 1, 1, 1, 0, 1, 0, 0]), (1, [0]), (0, [1, 1, 1, 1, 1, 1, 1, 1, 1])], fun σ w => dP (slotOf σ 0) fun w0_ => dL (slotOf σ 13) fun px_b_ px_l_ px_c_ => dL (slotOf σ 15) fun pm_b_ pm_l_ pm_c_ => dI .i64 (slotOf σ 17) fun i_ => dB (slotOf σ 87) fun t87_ => sB2 w0_ px_b_ px_l_ px_c_ pm_b_ pm_l_ pm_c_ i_ t87_ w),
    ([(0, [1, 1, 1, 1, 1, 1, 1, 1, 1, 0, 1, 0, 0]), (2, [1, 1, 1, 1, 1, 1, 1, 1, 1, 0, 1, 0, 0]), (1, [2]), (0, [1, 1, 1, 1, 1, 1, 1, 1, 1, 1])], fun σ w => dP (slotOf σ 0) fun w0_ => dL (slotOf σ 13) fun px_b_ px_l_ px_c_ => dL (slotOf σ 15) fun pm_b_ pm_l_ pm_c_ => dI .i64 (slotOf σ 18) fun i_ => sL2 w0_ px_b_ px_l_ px_c_ pm_b_ pm_l_ pm_c_ i_ w)] 2000) [(0, [1, 1, 1, 1, 1, 1, 1, 1, 0, 1, 0, 0]), (2, [1, 1, 1, 1, 1, 1, 1, 1, 0, 1, 0, 0]), (1, [0]), (0, [1, 1, 1, 1, 1, 1, 1, 1, 1])] [(0, .pointer w0), (13, .slice px_b px_l px_c), (15, .slice pm_b pm_l pm_c), (17, .int .i64 i)] w := by kernel_rfl
theorem iplaw_World_SameOutput.L1b_sound {R : Bool → World → Prop} {N1 : Option Addr → Option Addr → Nat → Nat → Option Addr → Nat → Nat → Int → World → Prop} (hN1 : ∀ w0 px_b px_l px_c pm_b pm_l pm_c i w, N1 w0 px_b px_l px_c pm_b pm_l pm_c i w → KW Try.prog 22 117 (iplaw_World_SameOutput.RV R) ([(0, [1, 1, 1, 1, 1, 1, 1, 1, 0, 1, 0, 0]), (2, [1, 1, 1, 1, 1, 1, 1, 1, 0, 1, 0, 0]), (1, [0]), (0, [1, 1, 1, 1, 1, 1, 1, 1, 1])].map (toItem (Try.f22.body.getD .skip))) [(0, .pointer w0), (13, .slice px_b px_l px_c), (15, .slice pm_b pm_l pm_c), (17, .int .i64 i)] w) (w0 px_b : Option Addr) (px_l px_c : Nat) (pm_b : Option Addr) (pm_l pm_c : Nat) (i : Int) (w : World) (h : iplaw_World_SameOutput.L1b w0 px_b px_l px_c pm_b pm_l pm_c i w  N1 R) :
    KW Try.prog 22 117 (iplaw_World_SameOutput.RV R) ([(0, [1, 1, 1, 1, 1, 1, 1, 1, 0, 1, 0, 0]), (2, [1, 1, 1, 1, 1, 1, 1, 1, 0, 1, 0, 0]), (1, [0]), (0, [1, 1, 1, 1, 1, 1, 1, 1, 1])].map (toItem (Try.f22.body.getD .skip))) [(0, .pointer w0), (13, .slice px_b px_l px_c), (15, .slice pm_b pm_l pm_c), (17, .int .i64 i)] w := by
  exact block_spec Try.func22 Try.mixed (stops_cons (fun σ w h => by
      obtain ⟨w0_, e0, h⟩ := dP_elim h
      obtain ⟨px_b_, px_l_, px_c_, e1, h⟩ := dL_elim h
      obtain ⟨pm_b_, pm_l_, pm_c_, e2, h⟩ := dL_elim h
      obtain ⟨i_, e3, h⟩ := dI_elim h
      obtain ⟨t87_, e4, h⟩ := dB_elim h
      exact (iplaw_World_SameOutput.B2_sound hN1 w0_ px_b_ px_l_ px_c_ pm_b_ pm_l_ pm_c_ i_ t87_ w h).weaken (Sub.cons (Sub.cons (Sub.cons (Sub.cons (Sub.cons (Sub.nil _) e4) e3) e2) e1) e0)) (stops_cons (fun σ w h => by
      obtain ⟨w0_, e0, h⟩ := dP_elim h
      obtain ⟨px_b_, px_l_, px_c_, e1, h⟩ := dL_elim h
      obtain ⟨pm_b_, pm_l_, pm_c_, e2, h⟩ := dL_elim h
      obtain ⟨i_, e3, h⟩ := dI_elim h
      exact (iplaw_World_SameOutput.L2_sound  w0_ px_b_ px_l_ px_c_ pm_b_ pm_l_ pm_c_ i_ w h).weaken (Sub.cons (Sub.cons (Sub.cons (Sub.cons (Sub.nil _) e3) e2) e1) e0)) stops_nil)) (Eq.mp (iplaw_World_SameOutput.L1b_eq w0 px_b px_l px_c pm_b pm_l pm_c i w  N1 R (fun w0_ px_b_ px_l_ px_c_ pm_b_ pm_l_ pm_c_ i_ t87_ w => iplaw_World_SameOutput.B2 w0_ px_b_ px_l_ px_c_ pm_b_ pm_l_ pm_c_ i_ t87_ w N1 R) (fun w0_ px_b_ px_l_ px_c_ pm_b_ pm_l_ pm_c_ i_ w => iplaw_World_SameOutput.L2 w0_ px_b_ px_l_ px_c_ pm_b_ pm_l_ pm_c_ i_ w  R)) h)
def iplaw_World_SameOutput.L1 (w0 px_b : Option Addr) (px_l px_c : Nat) (pm_b : Option Addr) (pm_l pm_c : Nat) (i : Int) (w : World)  (R : Bool → World → Prop) : Prop :=
  ∃ (I : Nat → Option Addr → Option Addr → Nat → Nat → Option Addr → Nat → Nat → Int → World → Prop) (m : Nat), I m w0 px_b px_l px_c pm_b pm_l pm_c i w ∧ ∀ m w0 px_b px_l px_c pm_b pm_l pm_c i w, I m w0 px_b px_l px_c pm_b pm_l pm_c i w → iplaw_World_SameOutput.L1b w0 px_b px_l px_c pm_b pm_l pm_c i w  (fun w0' px_b' px_l' px_c' pm_b' pm_l' pm_c' i' w' => ∃ m', m' < m ∧ I m' w0' px_b' px_l' px_c' pm_b' pm_l' pm_c' i' w') R
theorem iplaw_World_SameOutput.L1_sound {R : Bool → World → Prop}  (w0 px_b : Option Addr) (px_l px_c : Nat) (pm_b : Option Addr) (pm_l pm_c : Nat) (i : Int) (w : World) (h : iplaw_World_SameOutput.L1 w0 px_b px_l px_c pm_b pm_l pm_c i w  R) :
    KW Try.prog 22 117 (iplaw_World_SameOutput.RV R) ([(0, [1, 1, 1, 1, 1, 1, 1, 1, 0, 1, 0, 0]), (2, [1, 1, 1, 1, 1, 1, 1, 1, 0, 1, 0, 0]), (1, [0]), (0, [1, 1, 1, 1, 1, 1, 1, 1, 1])].map (toItem (Try.f22.body.getD .skip))) [(0, .pointer w0), (13, .slice px_b px_l px_c), (15, .slice pm_b pm_l pm_c), (17, .int .i64 i)] w := by
  obtain ⟨I, m, h0, hr⟩ := h
  refine KW.loop (fun m σ w => ∃ (w0 px_b : Option Addr) (px_l px_c : Nat) (pm_b : Option Addr) (pm_l pm_c : Nat) (i : Int), σ = [(0, .pointer w0), (13, .slice px_b px_l px_c), (15, .slice pm_b pm_l pm_c), (17, .int .i64 i)] ∧ I m w0 px_b px_l px_c pm_b pm_l pm_c i w) ?_ m _ w ⟨w0, px_b, px_l, px_c, pm_b, pm_l, pm_c, i, rfl, h0⟩
  rintro m ih σ w ⟨w0, px_b, px_l, px_c, pm_b, pm_l, pm_c, i, rfl, hI⟩
  exact iplaw_World_SameOutput.L1b_sound  (N1 := fun w0' px_b' px_l' px_c' pm_b' pm_l' pm_c' i' w' => ∃ m', m' < m ∧ I m' w0' px_b' px_l' px_c' pm_b' pm_l' pm_c' i' w') (fun w0' px_b' px_l' px_c' pm_b' pm_l' pm_c' i' w' hx => by obtain ⟨m', hlt, hI'⟩ := hx; exact ih m' hlt _ w' ⟨w0', px_b', px_l', px_c', pm_b', pm_l', pm_c', i', rfl, hI'⟩) w0 px_b px_l px_c pm_b pm_l pm_c i w (hr m w0 px_b px_l px_c pm_b pm_l pm_c i w hI)
def iplaw_World_SameOutput.B1 (w0 dx_b : Option Addr) (dx_l dx_c : Nat) (px_b : Option Addr) (px_l px_c : Nat) (pm_b : Option Addr) (pm_l pm_c : Nat) (t67 : Bool) (w : World)   (R : Bool → World → Prop) : Prop :=
  Bm t67 (
    R false w) (
    iplaw_World_Own.Call w0 dx_b dx_l dx_c w fun w1 =>
    iplaw_World_SameOutput.L1 w0 px_b px_l px_c pm_b pm_l pm_c (0 : Int) w1  R)
theorem iplaw_World_SameOutput.B1_eq (w0 dx_b : Option Addr) (dx_l dx_c : Nat) (px_b : Option Addr) (px_l px_c : Nat) (pm_b : Option Addr) (pm_l pm_c : Nat) (t67 : Bool) (w : World)   (R : Bool → World → Prop) (sL1 : Option Addr → Option Addr → Nat → Nat → Option Addr → Nat → Nat → Int → World → Prop) :
    (
  Bm t67 (
    R false w) (
    iplaw_World_Own.Call w0 dx_b dx_l dx_c w fun w1 =>
    sL1 w0 px_b px_l px_c pm_b pm_l pm_c (0 : Int) w1)) = kstep Try.prog 117 Try.f22.results.toList (Try.f22.body.getD .skip) (iplaw_World_SameOutput.RV R) (kvc Try.prog 117 Try.f22.results.toList (Try.f22.body.getD .skip) (iplaw_World_SameOutput.RV R) [([(0, [1, 1, 1, 1, 1, 1, 1, 1, 0, 1, 0, 0]), (2, [1, 1, 1, 1, 1, 1, 1, 1, 0, 1, 0, 0]), (1, [0]), (0, [1, 1, 1, 1, 1, 1, 1, 1, 1])], fun σ w => dP (slotOf σ 0) fun w0_ => dL (slotOf σ 13) fun px_b_ px_l_ px_c_ => dL (slotOf σ 15) fun pm_b_ pm_l_ pm_c_ => dI .i64 (slotOf σ 17) fun i_ => sL1 w0_ px_b_ px_l_ px_c_ pm_b_ pm_l_ pm_c_ i_ w)] 2000) [(0, [1, 1, 1, 1, 1, 1, 0, 1]), (0, [1, 1, 1, 1, 1, 1, 1])] [(0, .pointer w0), (11, .slice dx_b dx_l dx_c), (13, .slice px_b px_l px_c), (15, .slice pm_b pm_l pm_c), (67, .bool t67)] w := by kernel_rfl
theorem iplaw_World_SameOutput.B1_sound {R : Bool → World → Prop}  (w0 dx_b : Option Addr) (dx_l dx_c : Nat) (px_b : Option Addr) (px_l px_c : Nat) (pm_b : Option Addr) (pm_l pm_c : Nat) (t67 : Bool) (w : World) (h : iplaw_World_SameOutput.B1 w0 dx_b dx_l dx_c px_b px_l px_c pm_b pm_l pm_c t67 w   R) :
    KW Try.prog 22 117 (iplaw_World_SameOutput.RV R) ([(0, [1, 1, 1, 1, 1, 1, 0, 1]), (0, [1, 1, 1, 1, 1, 1, 1])].map (toItem (Try.f22.body.getD .skip))) [(0, .pointer w0), (11, .slice dx_b dx_l dx_c), (13, .slice px_b px_l px_c), (15, .slice pm_b pm_l pm_c), (67, .bool t67)] w := by
  exact block_spec Try.func22 Try.mixed (stops_cons (fun σ w h => by
      obtain ⟨w0_, e0, h⟩ := dP_elim h
      obtain ⟨px_b_, px_l_, px_c_, e1, h⟩ := dL_elim h
      obtain ⟨pm_b_, pm_l_, pm_c_, e2, h⟩ := dL_elim h
      obtain ⟨i_, e3, h⟩ := dI_elim h
      exact (iplaw_World_SameOutput.L1_sound  w0_ px_b_ px_l_ px_c_ pm_b_ pm_l_ pm_c_ i_ w h).weaken (Sub.cons (Sub.cons (Sub.cons (Sub.cons (Sub.nil _) e3) e2) e1) e0)) stops_nil) (Eq.mp (iplaw_World_SameOutput.B1_eq w0 dx_b dx_l dx_c px_b px_l px_c pm_b pm_l pm_c t67 w   R (fun w0_ px_b_ px_l_ px_c_ pm_b_ pm_l_ pm_c_ i_ w => iplaw_World_SameOutput.L1 w0_ px_b_ px_l_ px_c_ pm_b_ pm_l_ pm_c_ i_ w  R)) h)
def iplaw_World_SameOutput.B0 (w0 : Option Addr) (c dst proto : Int) (data : ByteArray) (w : World)   (R : Bool → World → Prop) : Prop :=
  ToBytes 5 data w fun b20 c20 w1 =>
  ToBytes 5 data w1 fun b22 c22 w2 =>
  Pn w0 fun a =>
  (0 ≤ c ∧ c < ((2 : Nat) : Int)) ∧
  LdP (Addr.add a (c.toNat * 1)) w2 fun x29 =>
  ip_IP_Output.Call x29 dst proto (some ⟨b20, 0, none⟩) data.size c20 w2 fun r33_0_b r33_0_l r33_0_c r33_1 w3 =>
  Pn w0 fun a_1 =>
  (0 ≤ c ∧ c < ((2 : Nat) : Int)) ∧
  LdP (Addr.add (a_1.add 2) (c.toNat * 1)) w3 fun x42 =>
  ipm_IP_Output.Call x42 dst proto (some ⟨b22, 0, none⟩) data.size c22 w3 fun r46_0_b r46_0_l r46_0_c r46_1 w4 =>
  iplaw_World_Untouched.Call w0 w4 fun r50 w5 =>
  Bm (!r50) (
    R false w5) (
    Bm (r33_1 != r46_1) (
      iplaw_World_SameOutput.B1 w0 (some ⟨b20, 0, none⟩) data.size c20 r33_0_b r33_0_l r33_0_c r46_0_b r46_0_l r46_0_c true w5  R) (
      Bm (((r33_0_l : Nat) : Int) != ((r46_0_l : Nat) : Int)) (
        iplaw_World_SameOutput.B1 w0 (some ⟨b20, 0, none⟩) data.size c20 r33_0_b r33_0_l r33_0_c r46_0_b r46_0_l r46_0_c true w5  R) (
        ToStr (some ⟨b20, 0, none⟩) data.size w5 fun s64 =>
        iplaw_World_SameOutput.B1 w0 (some ⟨b20, 0, none⟩) data.size c20 r33_0_b r33_0_l r33_0_c r46_0_b r46_0_l r46_0_c (!(s64.toList == data.toList)) w5  R)))
theorem iplaw_World_SameOutput.B0_eq (w0 : Option Addr) (c dst proto : Int) (data : ByteArray) (w : World)   (R : Bool → World → Prop) (sB1 : Option Addr → Option Addr → Nat → Nat → Option Addr → Nat → Nat → Option Addr → Nat → Nat → Bool → World → Prop) :
    (
  ToBytes 5 data w fun b20 c20 w1 =>
  ToBytes 5 data w1 fun b22 c22 w2 =>
  Pn w0 fun a =>
  (0 ≤ c ∧ c < ((2 : Nat) : Int)) ∧
  LdP (Addr.add a (c.toNat * 1)) w2 fun x29 =>
  ip_IP_Output.Call x29 dst proto (some ⟨b20, 0, none⟩) data.size c20 w2 fun r33_0_b r33_0_l r33_0_c r33_1 w3 =>
  Pn w0 fun a_1 =>
  (0 ≤ c ∧ c < ((2 : Nat) : Int)) ∧
  LdP (Addr.add (a_1.add 2) (c.toNat * 1)) w3 fun x42 =>
  ipm_IP_Output.Call x42 dst proto (some ⟨b22, 0, none⟩) data.size c22 w3 fun r46_0_b r46_0_l r46_0_c r46_1 w4 =>
  iplaw_World_Untouched.Call w0 w4 fun r50 w5 =>
  Bm (!r50) (
    R false w5) (
    Bm (r33_1 != r46_1) (
      sB1 w0 (some ⟨b20, 0, none⟩) data.size c20 r33_0_b r33_0_l r33_0_c r46_0_b r46_0_l r46_0_c true w5) (
      Bm (((r33_0_l : Nat) : Int) != ((r46_0_l : Nat) : Int)) (
        sB1 w0 (some ⟨b20, 0, none⟩) data.size c20 r33_0_b r33_0_l r33_0_c r46_0_b r46_0_l r46_0_c true w5) (
        ToStr (some ⟨b20, 0, none⟩) data.size w5 fun s64 =>
        sB1 w0 (some ⟨b20, 0, none⟩) data.size c20 r33_0_b r33_0_l r33_0_c r46_0_b r46_0_l r46_0_c (!(s64.toList == data.toList)) w5)))) = kstep Try.prog 117 Try.f22.results.toList (Try.f22.body.getD .skip) (iplaw_World_SameOutput.RV R) (kvc Try.prog 117 Try.f22.results.toList (Try.f22.body.getD .skip) (iplaw_World_SameOutput.RV R) [([(0, [1, 1, 1, 1, 1, 1, 0, 1]), (0, [1, 1, 1, 1, 1, 1, 1])], fun σ w => dP (slotOf σ 0) fun w0_ => dL (slotOf σ 11) fun dx_b_ dx_l_ dx_c_ => dL (slotOf σ 13) fun px_b_ px_l_ px_c_ => dL (slotOf σ 15) fun pm_b_ pm_l_ pm_c_ => dB (slotOf σ 67) fun t67_ => sB1 w0_ dx_b_ dx_l_ dx_c_ px_b_ px_l_ px_c_ pm_b_ pm_l_ pm_c_ t67_ w)] 2000) [(0, [])] [(0, .pointer w0), (1, .int .i64 c), (2, .int .i64 dst), (3, .int .i64 proto), (4, .string data)] w := by kernel_rfl
theorem iplaw_World_SameOutput.B0_sound {R : Bool → World → Prop}  (w0 : Option Addr) (c dst proto : Int) (data : ByteArray) (w : World) (h : iplaw_World_SameOutput.B0 w0 c dst proto data w   R) :
    KW Try.prog 22 117 (iplaw_World_SameOutput.RV R) ([(0, [])].map (toItem (Try.f22.body.getD .skip))) [(0, .pointer w0), (1, .int .i64 c), (2, .int .i64 dst), (3, .int .i64 proto), (4, .string data)] w := by
  exact block_spec Try.func22 Try.mixed (stops_cons (fun σ w h => by
      obtain ⟨w0_, e0, h⟩ := dP_elim h
      obtain ⟨dx_b_, dx_l_, dx_c_, e1, h⟩ := dL_elim h
      obtain ⟨px_b_, px_l_, px_c_, e2, h⟩ := dL_elim h
      obtain ⟨pm_b_, pm_l_, pm_c_, e3, h⟩ := dL_elim h
      obtain ⟨t67_, e4, h⟩ := dB_elim h
      exact (iplaw_World_SameOutput.B1_sound  w0_ dx_b_ dx_l_ dx_c_ px_b_ px_l_ px_c_ pm_b_ pm_l_ pm_c_ t67_ w h).weaken (Sub.cons (Sub.cons (Sub.cons (Sub.cons (Sub.cons (Sub.nil _) e4) e3) e2) e1) e0)) stops_nil) (Eq.mp (iplaw_World_SameOutput.B0_eq w0 c dst proto data w   R (fun w0_ dx_b_ dx_l_ dx_c_ px_b_ px_l_ px_c_ pm_b_ pm_l_ pm_c_ t67_ w => iplaw_World_SameOutput.B1 w0_ dx_b_ dx_l_ dx_c_ px_b_ px_l_ px_c_ pm_b_ pm_l_ pm_c_ t67_ w  R)) h)
theorem iplaw_World_SameOutput.sound (w0 : Option Addr) (c dst proto : Int) (data : ByteArray) (w : World) (R : Bool → World → Prop) (h : iplaw_World_SameOutput.B0 w0 c dst proto data w R) : iplaw_World_SameOutput.Call w0 c dst proto data w R := by
  have hc := calls_of_block (args := #[.pointer w0, .int .i64 c, .int .i64 dst, .int .i64 proto, .string data]) Try.func22 (body := (Try.f22.body.getD .skip)) (by kernel_rfl) (by kernel_rfl) (args_slot _) (iplaw_World_SameOutput.B0_sound w0 c dst proto data w h)
  exact hc.mono fun e w' he => by
    obtain ⟨v, rfl, hv⟩ := he
    exact iplaw_World_SameOutput.RV_elim hv
def iplaw_World_SameInput.B2 (w0 : Option Addr) (dx : Nat) (t81 : Bool) (w : World)   (R : Bool → World → Prop) : Prop :=
  Bm t81 (
    R false w) (
    LdL ⟨dx, 3, none⟩ w fun x84_b x84_l x84_c =>
    iplaw_World_Own.Call w0 x84_b x84_l x84_c w fun w1 =>
    R true w1)
theorem iplaw_World_SameInput.B2_eq (w0 : Option Addr) (dx : Nat) (t81 : Bool) (w : World)   (R : Bool → World → Prop)  :
    (
  Bm t81 (
    R false w) (
    LdL ⟨dx, 3, none⟩ w fun x84_b x84_l x84_c =>
    iplaw_World_Own.Call w0 x84_b x84_l x84_c w fun w1 =>
    R true w1)) = kstep Try.prog 86 Try.f23.results.toList (Try.f23.body.getD .skip) (iplaw_World_SameInput.RV R) (kvc Try.prog 86 Try.f23.results.toList (Try.f23.body.getD .skip) (iplaw_World_SameInput.RV R) [] 2000) [(0, [1, 1, 1, 1, 1, 1, 1, 1, 0, 1]), (0, [1, 1, 1, 1, 1, 1, 1, 1, 1])] [(0, .pointer w0), (9, .pointer (some ⟨dx, 0, none⟩)), (81, .bool t81)] w := by kernel_rfl
theorem iplaw_World_SameInput.B2_sound {R : Bool → World → Prop}  (w0 : Option Addr) (dx : Nat) (t81 : Bool) (w : World) (h : iplaw_World_SameInput.B2 w0 dx t81 w   R) :
    KW Try.prog 23 86 (iplaw_World_SameInput.RV R) ([(0, [1, 1, 1, 1, 1, 1, 1, 1, 0, 1]), (0, [1, 1, 1, 1, 1, 1, 1, 1, 1])].map (toItem (Try.f23.body.getD .skip))) [(0, .pointer w0), (9, .pointer (some ⟨dx, 0, none⟩)), (81, .bool t81)] w := by
  exact block_spec Try.func23 Try.mixed stops_nil (Eq.mp (iplaw_World_SameInput.B2_eq w0 dx t81 w   R ) h)
def iplaw_World_SameInput.B1 (w0 rx_b : Option Addr) (rx_l rx_c dx dm : Nat) (t50 : Bool) (w : World)   (R : Bool → World → Prop) : Prop :=
  Bm t50 (
    R false w) (
    iplaw_World_Own.Call w0 rx_b rx_l rx_c w fun w1 =>
    LdI .i64 ⟨dx, 0, none⟩ w1 fun x55 =>
    LdI .i64 ⟨dm, 0, none⟩ w1 fun x57 =>
    Bm (x55 != x57) (
      iplaw_World_SameInput.B2 w0 dx true w1  R) (
      LdI .i64 ⟨dx, 1, none⟩ w1 fun x61 =>
      LdI .i64 ⟨dm, 1, none⟩ w1 fun x63 =>
      Bm (x61 != x63) (
        iplaw_World_SameInput.B2 w0 dx true w1  R) (
        LdI .i64 ⟨dx, 2, none⟩ w1 fun x68 =>
        LdI .i64 ⟨dm, 2, none⟩ w1 fun x70 =>
        Bm (x68 != x70) (
          iplaw_World_SameInput.B2 w0 dx true w1  R) (
          LdL ⟨dx, 3, none⟩ w1 fun x75_b x75_l x75_c =>
          ToStr x75_b x75_l w1 fun s76 =>
          LdL ⟨dm, 3, none⟩ w1 fun x78_b x78_l x78_c =>
          ToStr x78_b x78_l w1 fun s79 =>
          iplaw_World_SameInput.B2 w0 dx (!(s76.toList == s79.toList)) w1  R))))
theorem iplaw_World_SameInput.B1_eq (w0 rx_b : Option Addr) (rx_l rx_c dx dm : Nat) (t50 : Bool) (w : World)   (R : Bool → World → Prop) (sB2 : Option Addr → Nat → Bool → World → Prop) :
    (
  Bm t50 (
    R false w) (
    iplaw_World_Own.Call w0 rx_b rx_l rx_c w fun w1 =>
    LdI .i64 ⟨dx, 0, none⟩ w1 fun x55 =>
    LdI .i64 ⟨dm, 0, none⟩ w1 fun x57 =>
    Bm (x55 != x57) (
      sB2 w0 dx true w1) (
      LdI .i64 ⟨dx, 1, none⟩ w1 fun x61 =>
      LdI .i64 ⟨dm, 1, none⟩ w1 fun x63 =>
      Bm (x61 != x63) (
        sB2 w0 dx true w1) (
        LdI .i64 ⟨dx, 2, none⟩ w1 fun x68 =>
        LdI .i64 ⟨dm, 2, none⟩ w1 fun x70 =>
        Bm (x68 != x70) (
          sB2 w0 dx true w1) (
          LdL ⟨dx, 3, none⟩ w1 fun x75_b x75_l x75_c =>
          ToStr x75_b x75_l w1 fun s76 =>
          LdL ⟨dm, 3, none⟩ w1 fun x78_b x78_l x78_c =>
          ToStr x78_b x78_l w1 fun s79 =>
          sB2 w0 dx (!(s76.toList == s79.toList)) w1))))) = kstep Try.prog 86 Try.f23.results.toList (Try.f23.body.getD .skip) (iplaw_World_SameInput.RV R) (kvc Try.prog 86 Try.f23.results.toList (Try.f23.body.getD .skip) (iplaw_World_SameInput.RV R) [([(0, [1, 1, 1, 1, 1, 1, 1, 1, 0, 1]), (0, [1, 1, 1, 1, 1, 1, 1, 1, 1])], fun σ w => dP (slotOf σ 0) fun w0_ => dK (slotOf σ 9) fun dx_ => dB (slotOf σ 81) fun t81_ => sB2 w0_ dx_ t81_ w)] 2000) [(0, [1, 1, 1, 1, 1, 1, 0, 1]), (0, [1, 1, 1, 1, 1, 1, 1])] [(0, .pointer w0), (7, .slice rx_b rx_l rx_c), (9, .pointer (some ⟨dx, 0, none⟩)), (11, .pointer (some ⟨dm, 0, none⟩)), (50, .bool t50)] w := by kernel_rfl
theorem iplaw_World_SameInput.B1_sound {R : Bool → World → Prop}  (w0 rx_b : Option Addr) (rx_l rx_c dx dm : Nat) (t50 : Bool) (w : World) (h : iplaw_World_SameInput.B1 w0 rx_b rx_l rx_c dx dm t50 w   R) :
    KW Try.prog 23 86 (iplaw_World_SameInput.RV R) ([(0, [1, 1, 1, 1, 1, 1, 0, 1]), (0, [1, 1, 1, 1, 1, 1, 1])].map (toItem (Try.f23.body.getD .skip))) [(0, .pointer w0), (7, .slice rx_b rx_l rx_c), (9, .pointer (some ⟨dx, 0, none⟩)), (11, .pointer (some ⟨dm, 0, none⟩)), (50, .bool t50)] w := by
  exact block_spec Try.func23 Try.mixed (stops_cons (fun σ w h => by
      obtain ⟨w0_, e0, h⟩ := dP_elim h
      obtain ⟨dx_, e1, h⟩ := dK_elim h
      obtain ⟨t81_, e2, h⟩ := dB_elim h
      exact (iplaw_World_SameInput.B2_sound  w0_ dx_ t81_ w h).weaken (Sub.cons (Sub.cons (Sub.cons (Sub.nil _) e2) e1) e0)) stops_nil) (Eq.mp (iplaw_World_SameInput.B1_eq w0 rx_b rx_l rx_c dx dm t50 w   R (fun w0_ dx_ t81_ w => iplaw_World_SameInput.B2 w0_ dx_ t81_ w  R)) h)
def iplaw_World_SameInput.B0 (w0 : Option Addr) (c : Int) (raw : ByteArray) (w : World)   (R : Bool → World → Prop) : Prop :=
  ToBytes 5 raw w fun b14 c14 w1 =>
  ToBytes 5 raw w1 fun b16 c16 w2 =>
  Pn w0 fun a =>
  (0 ≤ c ∧ c < ((2 : Nat) : Int)) ∧
  LdP (Addr.add a (c.toNat * 1)) w2 fun x23 =>
  ip_IP_Input.Call x23 (some ⟨b14, 0, none⟩) raw.size c14 w2 fun r25_0_0 r25_0_1 r25_0_2 r25_0_3_b r25_0_3_l r25_0_3_c r25_1 w3 =>
  New (.cells #[.int .i64 (0 : Int), .int .i64 (0 : Int), .int .i64 (0 : Int), .slice none 0 0] 81) w3 fun dx_ w4 =>
  Sts [.int .i64 r25_0_0, .int .i64 r25_0_1, .int .i64 r25_0_2, .slice r25_0_3_b r25_0_3_l r25_0_3_c] ⟨dx_, 0, none⟩ 0 w4 fun w5 =>
  Pn w0 fun a_1 =>
  (0 ≤ c ∧ c < ((2 : Nat) : Int)) ∧
  LdP (Addr.add (a_1.add 2) (c.toNat * 1)) w5 fun x34 =>
  ipm_IP_Input.Call x34 (some ⟨b16, 0, none⟩) raw.size c16 w5 fun r36_0_0 r36_0_1 r36_0_2 r36_0_3_b r36_0_3_l r36_0_3_c r36_1 w6 =>
  New (.cells #[.int .i64 (0 : Int), .int .i64 (0 : Int), .int .i64 (0 : Int), .slice none 0 0] 81) w6 fun dm_ w7 =>
  Sts [.int .i64 r36_0_0, .int .i64 r36_0_1, .int .i64 r36_0_2, .slice r36_0_3_b r36_0_3_l r36_0_3_c] ⟨dm_, 0, none⟩ 0 w7 fun w8 =>
  iplaw_World_Untouched.Call w0 w8 fun r40 w9 =>
  Bm (!r40) (
    R false w9) (
    Bm (r25_1 != r36_1) (
      iplaw_World_SameInput.B1 w0 (some ⟨b14, 0, none⟩) raw.size c14 dx_ dm_ true w9  R) (
      ToStr (some ⟨b14, 0, none⟩) raw.size w9 fun s47 =>
      iplaw_World_SameInput.B1 w0 (some ⟨b14, 0, none⟩) raw.size c14 dx_ dm_ (!(s47.toList == raw.toList)) w9  R))
theorem iplaw_World_SameInput.B0_eq (w0 : Option Addr) (c : Int) (raw : ByteArray) (w : World)   (R : Bool → World → Prop) (sB1 : Option Addr → Option Addr → Nat → Nat → Nat → Nat → Bool → World → Prop) :
    (
  ToBytes 5 raw w fun b14 c14 w1 =>
  ToBytes 5 raw w1 fun b16 c16 w2 =>
  Pn w0 fun a =>
  (0 ≤ c ∧ c < ((2 : Nat) : Int)) ∧
  LdP (Addr.add a (c.toNat * 1)) w2 fun x23 =>
  ip_IP_Input.Call x23 (some ⟨b14, 0, none⟩) raw.size c14 w2 fun r25_0_0 r25_0_1 r25_0_2 r25_0_3_b r25_0_3_l r25_0_3_c r25_1 w3 =>
  New (.cells #[.int .i64 (0 : Int), .int .i64 (0 : Int), .int .i64 (0 : Int), .slice none 0 0] 81) w3 fun dx_ w4 =>
  Sts [.int .i64 r25_0_0, .int .i64 r25_0_1, .int .i64 r25_0_2, .slice r25_0_3_b r25_0_3_l r25_0_3_c] ⟨dx_, 0, none⟩ 0 w4 fun w5 =>
  Pn w0 fun a_1 =>
  (0 ≤ c ∧ c < ((2 : Nat) : Int)) ∧
  LdP (Addr.add (a_1.add 2) (c.toNat * 1)) w5 fun x34 =>
  ipm_IP_Input.Call x34 (some ⟨b16, 0, none⟩) raw.size c16 w5 fun r36_0_0 r36_0_1 r36_0_2 r36_0_3_b r36_0_3_l r36_0_3_c r36_1 w6 =>
  New (.cells #[.int .i64 (0 : Int), .int .i64 (0 : Int), .int .i64 (0 : Int), .slice none 0 0] 81) w6 fun dm_ w7 =>
  Sts [.int .i64 r36_0_0, .int .i64 r36_0_1, .int .i64 r36_0_2, .slice r36_0_3_b r36_0_3_l r36_0_3_c] ⟨dm_, 0, none⟩ 0 w7 fun w8 =>
  iplaw_World_Untouched.Call w0 w8 fun r40 w9 =>
  Bm (!r40) (
    R false w9) (
    Bm (r25_1 != r36_1) (
      sB1 w0 (some ⟨b14, 0, none⟩) raw.size c14 dx_ dm_ true w9) (
      ToStr (some ⟨b14, 0, none⟩) raw.size w9 fun s47 =>
      sB1 w0 (some ⟨b14, 0, none⟩) raw.size c14 dx_ dm_ (!(s47.toList == raw.toList)) w9))) = kstep Try.prog 86 Try.f23.results.toList (Try.f23.body.getD .skip) (iplaw_World_SameInput.RV R) (kvc Try.prog 86 Try.f23.results.toList (Try.f23.body.getD .skip) (iplaw_World_SameInput.RV R) [([(0, [1, 1, 1, 1, 1, 1, 0, 1]), (0, [1, 1, 1, 1, 1, 1, 1])], fun σ w => dP (slotOf σ 0) fun w0_ => dL (slotOf σ 7) fun rx_b_ rx_l_ rx_c_ => dK (slotOf σ 9) fun dx_ => dK (slotOf σ 11) fun dm_ => dB (slotOf σ 50) fun t50_ => sB1 w0_ rx_b_ rx_l_ rx_c_ dx_ dm_ t50_ w)] 2000) [(0, [])] [(0, .pointer w0), (1, .int .i64 c), (2, .string raw)] w := by kernel_rfl
theorem iplaw_World_SameInput.B0_sound {R : Bool → World → Prop}  (w0 : Option Addr) (c : Int) (raw : ByteArray) (w : World) (h : iplaw_World_SameInput.B0 w0 c raw w   R) :
    KW Try.prog 23 86 (iplaw_World_SameInput.RV R) ([(0, [])].map (toItem (Try.f23.body.getD .skip))) [(0, .pointer w0), (1, .int .i64 c), (2, .string raw)] w := by
  exact block_spec Try.func23 Try.mixed (stops_cons (fun σ w h => by
      obtain ⟨w0_, e0, h⟩ := dP_elim h
      obtain ⟨rx_b_, rx_l_, rx_c_, e1, h⟩ := dL_elim h
      obtain ⟨dx_, e2, h⟩ := dK_elim h
      obtain ⟨dm_, e3, h⟩ := dK_elim h
      obtain ⟨t50_, e4, h⟩ := dB_elim h
      exact (iplaw_World_SameInput.B1_sound  w0_ rx_b_ rx_l_ rx_c_ dx_ dm_ t50_ w h).weaken (Sub.cons (Sub.cons (Sub.cons (Sub.cons (Sub.cons (Sub.nil _) e4) e3) e2) e1) e0)) stops_nil) (Eq.mp (iplaw_World_SameInput.B0_eq w0 c raw w   R (fun w0_ rx_b_ rx_l_ rx_c_ dx_ dm_ t50_ w => iplaw_World_SameInput.B1 w0_ rx_b_ rx_l_ rx_c_ dx_ dm_ t50_ w  R)) h)
theorem iplaw_World_SameInput.sound (w0 : Option Addr) (c : Int) (raw : ByteArray) (w : World) (R : Bool → World → Prop) (h : iplaw_World_SameInput.B0 w0 c raw w R) : iplaw_World_SameInput.Call w0 c raw w R := by
  have hc := calls_of_block (args := #[.pointer w0, .int .i64 c, .string raw]) Try.func23 (body := (Try.f23.body.getD .skip)) (by kernel_rfl) (by kernel_rfl) (args_slot _) (iplaw_World_SameInput.B0_sound w0 c raw w h)
  exact hc.mono fun e w' he => by
    obtain ⟨v, rfl, hv⟩ := he
    exact iplaw_World_SameInput.RV_elim hv
end Go.Proofs.Qxb6500425a
