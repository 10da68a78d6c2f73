import Derived.Test.Qxb6500425aSig
set_option maxRecDepth 100000
set_option linter.unusedVariables false
open Go.Vc
namespace Go.Proofs.Qxb6500425a
def iplaw_World_Own.L1b (w0 a_b : Option Addr) (a_l a_c : Nat) (i : Int) (w : World)  (N1 : Option Addr → Option Addr → Nat → Nat → Int → World → Prop) (R : World → Prop) : Prop :=
  Bm (decide (i < ((a_l : Nat) : Int))) (
    Pn a_b fun a =>
    (0 ≤ i ∧ i < ((a_l : Nat) : Int)) ∧
    Sts [.int .u8 (165 : Int)] (Addr.add a (i.toNat * 1)) 0 w fun w1 =>
    N1 w0 a_b a_l a_c (IntKind.i64.wrap (i + (1 : Int))) w1) (
    Bm (decide (((a_l : Nat) : Int) > (0 : Int))) (
      Pn w0 fun a_1 =>
      LdL (a_1.add 5) w fun x25_b x25_l x25_c =>
      New (.cells #[.slice a_b a_l a_c] 68) w fun b27 w2 =>
      Append 68 (.slice none 0 0) 1 24 x25_b x25_l x25_c (some ⟨b27, 0, none⟩) 1 w2 fun b28 c28 w3 =>
      Pn w0 fun a_2 =>
      Sts [.slice b28 (x25_l + 1) c28] (a_2.add 5) 0 w3 fun w4 =>
      R  w4) (
      R  w))
theorem iplaw_World_Own.L1b_eq (w0 a_b : Option Addr) (a_l a_c : Nat) (i : Int) (w : World)  (N1 : Option Addr → Option Addr → Nat → Nat → Int → World → Prop) (R : World → Prop)  :
    (
  Bm (decide (i < ((a_l : Nat) : Int))) (
    Pn a_b fun a =>
    (0 ≤ i ∧ i < ((a_l : Nat) : Int)) ∧
    Sts [.int .u8 (165 : Int)] (Addr.add a (i.toNat * 1)) 0 w fun w1 =>
    N1 w0 a_b a_l a_c (IntKind.i64.wrap (i + (1 : Int))) w1) (
    Bm (decide (((a_l : Nat) : Int) > (0 : Int))) (
      Pn w0 fun a_1 =>
      LdL (a_1.add 5) w fun x25_b x25_l x25_c =>
      New (.cells #[.slice a_b a_l a_c] 68) w fun b27 w2 =>
      Append 68 (.slice none 0 0) 1 24 x25_b x25_l x25_c (some ⟨b27, 0, none⟩) 1 w2 fun b28 c28 w3 =>
      Pn w0 fun a_2 =>
      Sts [.slice b28 (x25_l + 1) c28] (a_2.add 5) 0 w3 fun w4 =>
      R  w4) (
      R  w))) = kstep Try.prog 31 Try.f41.results.toList (Try.f41.body.getD .skip) (iplaw_World_Own.RV R) (kvc Try.prog 31 Try.f41.results.toList (Try.f41.body.getD .skip) (iplaw_World_Own.RV R) [([(0, [1, 0, 1, 0, 0]), (2, [1, 0, 1, 0, 0]), (1, [0]), (0, [1, 1])], fun σ w => dP (slotOf σ 0) fun w0_ => dL (slotOf σ 1) fun a_b_ a_l_ a_c_ => dI .i64 (slotOf σ 4) fun i_ => N1 w0_ a_b_ a_l_ a_c_ i_ w)] 2000) [(0, [1, 0, 1, 0, 0]), (2, [1, 0, 1, 0, 0]), (1, [0]), (0, [1, 1])] [(0, .pointer w0), (1, .slice a_b a_l a_c), (4, .int .i64 i)] w := by kernel_rfl
theorem iplaw_World_Own.L1b_sound {R : World → Prop} {N1 : Option Addr → Option Addr → Nat → Nat → Int → World → Prop} (hN1 : ∀ w0 a_b a_l a_c i w, N1 w0 a_b a_l a_c i w → KW Try.prog 41 31 (iplaw_World_Own.RV R) ([(0, [1, 0, 1, 0, 0]), (2, [1, 0, 1, 0, 0]), (1, [0]), (0, [1, 1])].map (toItem (Try.f41.body.getD .skip))) [(0, .pointer w0), (1, .slice a_b a_l a_c), (4, .int .i64 i)] w) (w0 a_b : Option Addr) (a_l a_c : Nat) (i : Int) (w : World) (h : iplaw_World_Own.L1b w0 a_b a_l a_c i w  N1 R) :
    KW Try.prog 41 31 (iplaw_World_Own.RV R) ([(0, [1, 0, 1, 0, 0]), (2, [1, 0, 1, 0, 0]), (1, [0]), (0, [1, 1])].map (toItem (Try.f41.body.getD .skip))) [(0, .pointer w0), (1, .slice a_b a_l a_c), (4, .int .i64 i)] w := by
  exact block_spec Try.func41 Try.mixed (stops_cons (fun σ w h => by
      obtain ⟨w0_, e0, h⟩ := dP_elim h
      obtain ⟨a_b_, a_l_, a_c_, e1, h⟩ := dL_elim h
      obtain ⟨i_, e2, h⟩ := dI_elim h
      exact (hN1 w0_ a_b_ a_l_ a_c_ i_ w h).weaken (Sub.cons (Sub.cons (Sub.cons (Sub.nil _) e2) e1) e0)) stops_nil) (Eq.mp (iplaw_World_Own.L1b_eq w0 a_b a_l a_c i w  N1 R ) h)
def iplaw_World_Own.L1 (w0 a_b : Option Addr) (a_l a_c : Nat) (i : Int) (w : World)  (R : World → Prop) : Prop :=
  ∃ (I : Nat → Option Addr → Option Addr → Nat → Nat → Int → World → Prop) (m : Nat), I m w0 a_b a_l a_c i w ∧ ∀ m w0 a_b a_l a_c i w, I m w0 a_b a_l a_c i w → iplaw_World_Own.L1b w0 a_b a_l a_c i w  (fun w0' a_b' a_l' a_c' i' w' => ∃ m', m' < m ∧ I m' w0' a_b' a_l' a_c' i' w') R
theorem iplaw_World_Own.L1_sound {R : World → Prop}  (w0 a_b : Option Addr) (a_l a_c : Nat) (i : Int) (w : World) (h : iplaw_World_Own.L1 w0 a_b a_l a_c i w  R) :
    KW Try.prog 41 31 (iplaw_World_Own.RV R) ([(0, [1, 0, 1, 0, 0]), (2, [1, 0, 1, 0, 0]), (1, [0]), (0, [1, 1])].map (toItem (Try.f41.body.getD .skip))) [(0, .pointer w0), (1, .slice a_b a_l a_c), (4, .int .i64 i)] w := by
  obtain ⟨I, m, h0, hr⟩ := h
  refine KW.loop (fun m σ w => ∃ (w0 a_b : Option Addr) (a_l a_c : Nat) (i : Int), σ = [(0, .pointer w0), (1, .slice a_b a_l a_c), (4, .int .i64 i)] ∧ I m w0 a_b a_l a_c i w) ?_ m _ w ⟨w0, a_b, a_l, a_c, i, rfl, h0⟩
  rintro m ih σ w ⟨w0, a_b, a_l, a_c, i, rfl, hI⟩
  exact iplaw_World_Own.L1b_sound  (N1 := fun w0' a_b' a_l' a_c' i' w' => ∃ m', m' < m ∧ I m' w0' a_b' a_l' a_c' i' w') (fun w0' a_b' a_l' a_c' i' w' hx => by obtain ⟨m', hlt, hI'⟩ := hx; exact ih m' hlt _ w' ⟨w0', a_b', a_l', a_c', i', rfl, hI'⟩) w0 a_b a_l a_c i w (hr m w0 a_b a_l a_c i w hI)
def iplaw_World_Own.B0 (w0 a_b : Option Addr) (a_l a_c : Nat) (w : World)   (R : World → Prop) : Prop :=
  (0 ≤ ((a_c : Nat) : Int) ∧ ((a_c : Nat) : Int) ≤ ((a_c : Nat) : Int)) ∧
  iplaw_World_Own.L1 w0 (slBase a_b ((0 : Nat) : Int) ((a_c : Nat) : Int) 1) (((a_c : Nat) : Int).toNat - ((0 : Nat) : Int).toNat) (((a_c : Nat) : Int).toNat - ((0 : Nat) : Int).toNat) (0 : Int) w  R
theorem iplaw_World_Own.B0_eq (w0 a_b : Option Addr) (a_l a_c : Nat) (w : World)   (R : World → Prop) (sL1 : Option Addr → Option Addr → Nat → Nat → Int → World → Prop) :
    (
  (0 ≤ ((a_c : Nat) : Int) ∧ ((a_c : Nat) : Int) ≤ ((a_c : Nat) : Int)) ∧
  sL1 w0 (slBase a_b ((0 : Nat) : Int) ((a_c : Nat) : Int) 1) (((a_c : Nat) : Int).toNat - ((0 : Nat) : Int).toNat) (((a_c : Nat) : Int).toNat - ((0 : Nat) : Int).toNat) (0 : Int) w) = kstep Try.prog 31 Try.f41.results.toList (Try.f41.body.getD .skip) (iplaw_World_Own.RV R) (kvc Try.prog 31 Try.f41.results.toList (Try.f41.body.getD .skip) (iplaw_World_Own.RV R) [([(0, [1, 0, 1, 0, 0]), (2, [1, 0, 1, 0, 0]), (1, [0]), (0, [1, 1])], fun σ w => dP (slotOf σ 0) fun w0_ => dL (slotOf σ 1) fun a_b_ a_l_ a_c_ => dI .i64 (slotOf σ 4) fun i_ => sL1 w0_ a_b_ a_l_ a_c_ i_ w)] 2000) [(0, [])] [(0, .pointer w0), (1, .slice a_b a_l a_c)] w := by kernel_rfl
theorem iplaw_World_Own.B0_sound {R : World → Prop}  (w0 a_b : Option Addr) (a_l a_c : Nat) (w : World) (h : iplaw_World_Own.B0 w0 a_b a_l a_c w   R) :
    KW Try.prog 41 31 (iplaw_World_Own.RV R) ([(0, [])].map (toItem (Try.f41.body.getD .skip))) [(0, .pointer w0), (1, .slice a_b a_l a_c)] w := by
  exact block_spec Try.func41 Try.mixed (stops_cons (fun σ w h => by
      obtain ⟨w0_, e0, h⟩ := dP_elim h
      obtain ⟨a_b_, a_l_, a_c_, e1, h⟩ := dL_elim h
      obtain ⟨i_, e2, h⟩ := dI_elim h
      exact (iplaw_World_Own.L1_sound  w0_ a_b_ a_l_ a_c_ i_ w h).weaken (Sub.cons (Sub.cons (Sub.cons (Sub.nil _) e2) e1) e0)) stops_nil) (Eq.mp (iplaw_World_Own.B0_eq w0 a_b a_l a_c w   R (fun w0_ a_b_ a_l_ a_c_ i_ w => iplaw_World_Own.L1 w0_ a_b_ a_l_ a_c_ i_ w  R)) h)
theorem iplaw_World_Own.sound (w0 a_b : Option Addr) (a_l a_c : Nat) (w : World) (R : World → Prop) (h : iplaw_World_Own.B0 w0 a_b a_l a_c w R) : iplaw_World_Own.Call w0 a_b a_l a_c w R := by
  have hc := calls_of_block (args := #[.pointer w0, .slice a_b a_l a_c]) Try.func41 (body := (Try.f41.body.getD .skip)) (by kernel_rfl) (by kernel_rfl) (args_slot _) (iplaw_World_Own.B0_sound w0 a_b a_l a_c w h)
  exact hc.mono fun e w' he => by
    obtain ⟨v, rfl, hv⟩ := he
    exact iplaw_World_Own.RV_elim hv
def iplaw_World_OwnOut.L1b (w0 a_b : Option Addr) (a_l a_c : Nat) (i : Int) (w : World)  (N1 : Option Addr → Option Addr → Nat → Nat → Int → World → Prop) (R : World → Prop) : Prop :=
  Bm (decide (i < ((a_l : Nat) : Int))) (
    Pn a_b fun a =>
    (0 ≤ i ∧ i < ((a_l : Nat) : Int)) ∧
    Sts [.slice none 0 0] (Addr.add a (i.toNat * 1)) 0 w fun w1 =>
    N1 w0 a_b a_l a_c (IntKind.i64.wrap (i + (1 : Int))) w1) (
    Bm (decide (((a_l : Nat) : Int) > (0 : Int))) (
      Pn w0 fun a_1 =>
      LdL (a_1.add 8) w fun x25_b x25_l x25_c =>
      New (.cells #[.slice a_b a_l a_c] 38) w fun b27 w2 =>
      Append 38 (.slice none 0 0) 1 24 x25_b x25_l x25_c (some ⟨b27, 0, none⟩) 1 w2 fun b28 c28 w3 =>
      Pn w0 fun a_2 =>
      Sts [.slice b28 (x25_l + 1) c28] (a_2.add 8) 0 w3 fun w4 =>
      R  w4) (
      R  w))
theorem iplaw_World_OwnOut.L1b_eq (w0 a_b : Option Addr) (a_l a_c : Nat) (i : Int) (w : World)  (N1 : Option Addr → Option Addr → Nat → Nat → Int → World → Prop) (R : World → Prop)  :
    (
  Bm (decide (i < ((a_l : Nat) : Int))) (
    Pn a_b fun a =>
    (0 ≤ i ∧ i < ((a_l : Nat) : Int)) ∧
    Sts [.slice none 0 0] (Addr.add a (i.toNat * 1)) 0 w fun w1 =>
    N1 w0 a_b a_l a_c (IntKind.i64.wrap (i + (1 : Int))) w1) (
    Bm (decide (((a_l : Nat) : Int) > (0 : Int))) (
      Pn w0 fun a_1 =>
      LdL (a_1.add 8) w fun x25_b x25_l x25_c =>
      New (.cells #[.slice a_b a_l a_c] 38) w fun b27 w2 =>
      Append 38 (.slice none 0 0) 1 24 x25_b x25_l x25_c (some ⟨b27, 0, none⟩) 1 w2 fun b28 c28 w3 =>
      Pn w0 fun a_2 =>
      Sts [.slice b28 (x25_l + 1) c28] (a_2.add 8) 0 w3 fun w4 =>
      R  w4) (
      R  w))) = kstep Try.prog 33 Try.f42.results.toList (Try.f42.body.getD .skip) (iplaw_World_OwnOut.RV R) (kvc Try.prog 33 Try.f42.results.toList (Try.f42.body.getD .skip) (iplaw_World_OwnOut.RV R) [([(0, [1, 0, 1, 0, 0]), (2, [1, 0, 1, 0, 0]), (1, [0]), (0, [1, 1])], fun σ w => dP (slotOf σ 0) fun w0_ => dL (slotOf σ 1) fun a_b_ a_l_ a_c_ => dI .i64 (slotOf σ 4) fun i_ => N1 w0_ a_b_ a_l_ a_c_ i_ w)] 2000) [(0, [1, 0, 1, 0, 0]), (2, [1, 0, 1, 0, 0]), (1, [0]), (0, [1, 1])] [(0, .pointer w0), (1, .slice a_b a_l a_c), (4, .int .i64 i)] w := by kernel_rfl
theorem iplaw_World_OwnOut.L1b_sound {R : World → Prop} {N1 : Option Addr → Option Addr → Nat → Nat → Int → World → Prop} (hN1 : ∀ w0 a_b a_l a_c i w, N1 w0 a_b a_l a_c i w → KW Try.prog 42 33 (iplaw_World_OwnOut.RV R) ([(0, [1, 0, 1, 0, 0]), (2, [1, 0, 1, 0, 0]), (1, [0]), (0, [1, 1])].map (toItem (Try.f42.body.getD .skip))) [(0, .pointer w0), (1, .slice a_b a_l a_c), (4, .int .i64 i)] w) (w0 a_b : Option Addr) (a_l a_c : Nat) (i : Int) (w : World) (h : iplaw_World_OwnOut.L1b w0 a_b a_l a_c i w  N1 R) :
    KW Try.prog 42 33 (iplaw_World_OwnOut.RV R) ([(0, [1, 0, 1, 0, 0]), (2, [1, 0, 1, 0, 0]), (1, [0]), (0, [1, 1])].map (toItem (Try.f42.body.getD .skip))) [(0, .pointer w0), (1, .slice a_b a_l a_c), (4, .int .i64 i)] w := by
  exact block_spec Try.func42 Try.mixed (stops_cons (fun σ w h => by
      obtain ⟨w0_, e0, h⟩ := dP_elim h
      obtain ⟨a_b_, a_l_, a_c_, e1, h⟩ := dL_elim h
      obtain ⟨i_, e2, h⟩ := dI_elim h
      exact (hN1 w0_ a_b_ a_l_ a_c_ i_ w h).weaken (Sub.cons (Sub.cons (Sub.cons (Sub.nil _) e2) e1) e0)) stops_nil) (Eq.mp (iplaw_World_OwnOut.L1b_eq w0 a_b a_l a_c i w  N1 R ) h)
def iplaw_World_OwnOut.L1 (w0 a_b : Option Addr) (a_l a_c : Nat) (i : Int) (w : World)  (R : World → Prop) : Prop :=
  ∃ (I : Nat → Option Addr → Option Addr → Nat → Nat → Int → World → Prop) (m : Nat), I m w0 a_b a_l a_c i w ∧ ∀ m w0 a_b a_l a_c i w, I m w0 a_b a_l a_c i w → iplaw_World_OwnOut.L1b w0 a_b a_l a_c i w  (fun w0' a_b' a_l' a_c' i' w' => ∃ m', m' < m ∧ I m' w0' a_b' a_l' a_c' i' w') R
theorem iplaw_World_OwnOut.L1_sound {R : World → Prop}  (w0 a_b : Option Addr) (a_l a_c : Nat) (i : Int) (w : World) (h : iplaw_World_OwnOut.L1 w0 a_b a_l a_c i w  R) :
    KW Try.prog 42 33 (iplaw_World_OwnOut.RV R) ([(0, [1, 0, 1, 0, 0]), (2, [1, 0, 1, 0, 0]), (1, [0]), (0, [1, 1])].map (toItem (Try.f42.body.getD .skip))) [(0, .pointer w0), (1, .slice a_b a_l a_c), (4, .int .i64 i)] w := by
  obtain ⟨I, m, h0, hr⟩ := h
  refine KW.loop (fun m σ w => ∃ (w0 a_b : Option Addr) (a_l a_c : Nat) (i : Int), σ = [(0, .pointer w0), (1, .slice a_b a_l a_c), (4, .int .i64 i)] ∧ I m w0 a_b a_l a_c i w) ?_ m _ w ⟨w0, a_b, a_l, a_c, i, rfl, h0⟩
  rintro m ih σ w ⟨w0, a_b, a_l, a_c, i, rfl, hI⟩
  exact iplaw_World_OwnOut.L1b_sound  (N1 := fun w0' a_b' a_l' a_c' i' w' => ∃ m', m' < m ∧ I m' w0' a_b' a_l' a_c' i' w') (fun w0' a_b' a_l' a_c' i' w' hx => by obtain ⟨m', hlt, hI'⟩ := hx; exact ih m' hlt _ w' ⟨w0', a_b', a_l', a_c', i', rfl, hI'⟩) w0 a_b a_l a_c i w (hr m w0 a_b a_l a_c i w hI)
def iplaw_World_OwnOut.B0 (w0 a_b : Option Addr) (a_l a_c : Nat) (w : World)   (R : World → Prop) : Prop :=
  (0 ≤ ((a_c : Nat) : Int) ∧ ((a_c : Nat) : Int) ≤ ((a_c : Nat) : Int)) ∧
  iplaw_World_OwnOut.L1 w0 (slBase a_b ((0 : Nat) : Int) ((a_c : Nat) : Int) 1) (((a_c : Nat) : Int).toNat - ((0 : Nat) : Int).toNat) (((a_c : Nat) : Int).toNat - ((0 : Nat) : Int).toNat) (0 : Int) w  R
theorem iplaw_World_OwnOut.B0_eq (w0 a_b : Option Addr) (a_l a_c : Nat) (w : World)   (R : World → Prop) (sL1 : Option Addr → Option Addr → Nat → Nat → Int → World → Prop) :
    (
  (0 ≤ ((a_c : Nat) : Int) ∧ ((a_c : Nat) : Int) ≤ ((a_c : Nat) : Int)) ∧
  sL1 w0 (slBase a_b ((0 : Nat) : Int) ((a_c : Nat) : Int) 1) (((a_c : Nat) : Int).toNat - ((0 : Nat) : Int).toNat) (((a_c : Nat) : Int).toNat - ((0 : Nat) : Int).toNat) (0 : Int) w) = kstep Try.prog 33 Try.f42.results.toList (Try.f42.body.getD .skip) (iplaw_World_OwnOut.RV R) (kvc Try.prog 33 Try.f42.results.toList (Try.f42.body.getD .skip) (iplaw_World_OwnOut.RV R) [([(0, [1, 0, 1, 0, 0]), (2, [1, 0, 1, 0, 0]), (1, [0]), (0, [1, 1])], fun σ w => dP (slotOf σ 0) fun w0_ => dL (slotOf σ 1) fun a_b_ a_l_ a_c_ => dI .i64 (slotOf σ 4) fun i_ => sL1 w0_ a_b_ a_l_ a_c_ i_ w)] 2000) [(0, [])] [(0, .pointer w0), (1, .slice a_b a_l a_c)] w := by kernel_rfl
theorem iplaw_World_OwnOut.B0_sound {R : World → Prop}  (w0 a_b : Option Addr) (a_l a_c : Nat) (w : World) (h : iplaw_World_OwnOut.B0 w0 a_b a_l a_c w   R) :
    KW Try.prog 42 33 (iplaw_World_OwnOut.RV R) ([(0, [])].map (toItem (Try.f42.body.getD .skip))) [(0, .pointer w0), (1, .slice a_b a_l a_c)] w := by
  exact block_spec Try.func42 Try.mixed (stops_cons (fun σ w h => by
      obtain ⟨w0_, e0, h⟩ := dP_elim h
      obtain ⟨a_b_, a_l_, a_c_, e1, h⟩ := dL_elim h
      obtain ⟨i_, e2, h⟩ := dI_elim h
      exact (iplaw_World_OwnOut.L1_sound  w0_ a_b_ a_l_ a_c_ i_ w h).weaken (Sub.cons (Sub.cons (Sub.cons (Sub.nil _) e2) e1) e0)) stops_nil) (Eq.mp (iplaw_World_OwnOut.B0_eq w0 a_b a_l a_c w   R (fun w0_ a_b_ a_l_ a_c_ i_ w => iplaw_World_OwnOut.L1 w0_ a_b_ a_l_ a_c_ i_ w  R)) h)
theorem iplaw_World_OwnOut.sound (w0 a_b : Option Addr) (a_l a_c : Nat) (w : World) (R : World → Prop) (h : iplaw_World_OwnOut.B0 w0 a_b a_l a_c w R) : iplaw_World_OwnOut.Call w0 a_b a_l a_c w R := by
  have hc := calls_of_block (args := #[.pointer w0, .slice a_b a_l a_c]) Try.func42 (body := (Try.f42.body.getD .skip)) (by kernel_rfl) (by kernel_rfl) (args_slot _) (iplaw_World_OwnOut.B0_sound w0 a_b a_l a_c w h)
  exact hc.mono fun e w' he => by
    obtain ⟨v, rfl, hv⟩ := he
    exact iplaw_World_OwnOut.RV_elim hv
def ip_IP_Input.B4 (p pkt_b : Option Addr) (pkt_l pkt_c t4 none0 : Nat) (off : Int) (up : Nat) (i : Int) (w : World)   (R : Int → Int → Int → Option Addr → Nat → Nat → Int → World → Prop) : Prop :=
  (0 ≤ (8 : Int) ∧ (8 : Int) ≤ ((pkt_l : Nat) : Int)) ∧
  ip_IP_lay.Call p i off (slBase pkt_b (8 : Int) ((pkt_c : Nat) : Int) 1) (((pkt_l : Nat) : Int).toNat - (8 : Int).toNat) (((pkt_c : Nat) : Int).toNat - (8 : Int).toNat) w fun w1 =>
  ip_IP_whole.Call p i w1 fun r186 w2 =>
  Bm (!r186) (
    LdI .i64 ⟨none0, 0, none⟩ w2 fun x189_0 =>
    LdI .i64 ⟨none0, 1, none⟩ w2 fun x189_1 =>
    LdI .i64 ⟨none0, 2, none⟩ w2 fun x189_2 =>
    LdL ⟨none0, 3, none⟩ w2 fun x189_3_b x189_3_l x189_3_c =>
    Sts [.int .i64 x189_0, .int .i64 x189_1, .int .i64 x189_2, .slice x189_3_b x189_3_l x189_3_c] ⟨t4, 0, none⟩ 0 w2 fun w3 =>
    LdI .i64 ⟨t4, 0, none⟩ w3 fun r_0 =>
    LdI .i64 ⟨t4, 1, none⟩ w3 fun r_1 =>
    LdI .i64 ⟨t4, 2, none⟩ w3 fun r_2 =>
    LdL ⟨t4, 3, none⟩ w3 fun r_3_b r_3_l r_3_c =>
    R r_0 r_1 r_2 r_3_b r_3_l r_3_c (10 : Int) w3) (
    Pn p fun a =>
    (0 ≤ i ∧ i < ((3 : Nat) : Int)) ∧
    LdI .i64 ((Addr.add (a.add 3) (i.toNat * 45)).add 3) w2 fun x196 =>
    Pn p fun a_1 =>
    (0 ≤ i ∧ i < ((3 : Nat) : Int)) ∧
    (0 ≤ x196 ∧ x196 ≤ ((40 : Nat) : Int)) ∧
    api_CopyBytes.Call (some (slBaseA ((Addr.add (a_1.add 3) (i.toNat * 45)).add 5) ((0 : Nat) : Int) ((40 : Nat) : Int) 1)) (x196.toNat - ((0 : Nat) : Int).toNat) (((40 : Nat) : Int).toNat - ((0 : Nat) : Int).toNat) w2 fun r205_b r205_l r205_c w4 =>
    Sts [.slice r205_b r205_l r205_c] ⟨up, 3, none⟩ 0 w4 fun w5 =>
    Pn p fun a_2 =>
    (0 ≤ i ∧ i < ((3 : Nat) : Int)) ∧
    Sts [.bool false] (Addr.add (a_2.add 3) (i.toNat * 45)) 0 w5 fun w6 =>
    LdI .i64 ⟨up, 0, none⟩ w6 fun x213_0 =>
    LdI .i64 ⟨up, 1, none⟩ w6 fun x213_1 =>
    LdI .i64 ⟨up, 2, none⟩ w6 fun x213_2 =>
    LdL ⟨up, 3, none⟩ w6 fun x213_3_b x213_3_l x213_3_c =>
    Sts [.int .i64 x213_0, .int .i64 x213_1, .int .i64 x213_2, .slice x213_3_b x213_3_l x213_3_c] ⟨t4, 0, none⟩ 0 w6 fun w7 =>
    LdI .i64 ⟨t4, 0, none⟩ w7 fun r_0_1 =>
    LdI .i64 ⟨t4, 1, none⟩ w7 fun r_1_1 =>
    LdI .i64 ⟨t4, 2, none⟩ w7 fun r_2_1 =>
    LdL ⟨t4, 3, none⟩ w7 fun r_3_b_1 r_3_l_1 r_3_c_1 =>
    R r_0_1 r_1_1 r_2_1 r_3_b_1 r_3_l_1 r_3_c_1 (0 : Int) w7)
theorem ip_IP_Input.B4_eq (p pkt_b : Option Addr) (pkt_l pkt_c t4 none0 : Nat) (off : Int) (up : Nat) (i : Int) (w : World)   (R : Int → Int → Int → Option Addr → Nat → Nat → Int → World → Prop)  :
    (
  (0 ≤ (8 : Int) ∧ (8 : Int) ≤ ((pkt_l : Nat) : Int)) ∧
  ip_IP_lay.Call p i off (slBase pkt_b (8 : Int) ((pkt_c : Nat) : Int) 1) (((pkt_l : Nat) : Int).toNat - (8 : Int).toNat) (((pkt_c : Nat) : Int).toNat - (8 : Int).toNat) w fun w1 =>
  ip_IP_whole.Call p i w1 fun r186 w2 =>
  Bm (!r186) (
    LdI .i64 ⟨none0, 0, none⟩ w2 fun x189_0 =>
    LdI .i64 ⟨none0, 1, none⟩ w2 fun x189_1 =>
    LdI .i64 ⟨none0, 2, none⟩ w2 fun x189_2 =>
    LdL ⟨none0, 3, none⟩ w2 fun x189_3_b x189_3_l x189_3_c =>
    Sts [.int .i64 x189_0, .int .i64 x189_1, .int .i64 x189_2, .slice x189_3_b x189_3_l x189_3_c] ⟨t4, 0, none⟩ 0 w2 fun w3 =>
    LdI .i64 ⟨t4, 0, none⟩ w3 fun r_0 =>
    LdI .i64 ⟨t4, 1, none⟩ w3 fun r_1 =>
    LdI .i64 ⟨t4, 2, none⟩ w3 fun r_2 =>
    LdL ⟨t4, 3, none⟩ w3 fun r_3_b r_3_l r_3_c =>
    R r_0 r_1 r_2 r_3_b r_3_l r_3_c (10 : Int) w3) (
    Pn p fun a =>
    (0 ≤ i ∧ i < ((3 : Nat) : Int)) ∧
    LdI .i64 ((Addr.add (a.add 3) (i.toNat * 45)).add 3) w2 fun x196 =>
    Pn p fun a_1 =>
    (0 ≤ i ∧ i < ((3 : Nat) : Int)) ∧
    (0 ≤ x196 ∧ x196 ≤ ((40 : Nat) : Int)) ∧
    api_CopyBytes.Call (some (slBaseA ((Addr.add (a_1.add 3) (i.toNat * 45)).add 5) ((0 : Nat) : Int) ((40 : Nat) : Int) 1)) (x196.toNat - ((0 : Nat) : Int).toNat) (((40 : Nat) : Int).toNat - ((0 : Nat) : Int).toNat) w2 fun r205_b r205_l r205_c w4 =>
    Sts [.slice r205_b r205_l r205_c] ⟨up, 3, none⟩ 0 w4 fun w5 =>
    Pn p fun a_2 =>
    (0 ≤ i ∧ i < ((3 : Nat) : Int)) ∧
    Sts [.bool false] (Addr.add (a_2.add 3) (i.toNat * 45)) 0 w5 fun w6 =>
    LdI .i64 ⟨up, 0, none⟩ w6 fun x213_0 =>
    LdI .i64 ⟨up, 1, none⟩ w6 fun x213_1 =>
    LdI .i64 ⟨up, 2, none⟩ w6 fun x213_2 =>
    LdL ⟨up, 3, none⟩ w6 fun x213_3_b x213_3_l x213_3_c =>
    Sts [.int .i64 x213_0, .int .i64 x213_1, .int .i64 x213_2, .slice x213_3_b x213_3_l x213_3_c] ⟨t4, 0, none⟩ 0 w6 fun w7 =>
    LdI .i64 ⟨t4, 0, none⟩ w7 fun r_0_1 =>
    LdI .i64 ⟨t4, 1, none⟩ w7 fun r_1_1 =>
    LdI .i64 ⟨t4, 2, none⟩ w7 fun r_2_1 =>
    LdL ⟨t4, 3, none⟩ w7 fun r_3_b_1 r_3_l_1 r_3_c_1 =>
    R r_0_1 r_1_1 r_2_1 r_3_b_1 r_3_l_1 r_3_c_1 (0 : Int) w7)) = kstep Try.prog 214 Try.f43.results.toList (Try.f43.body.getD .skip) (ip_IP_Input.RV R) (kvc Try.prog 214 Try.f43.results.toList (Try.f43.body.getD .skip) (ip_IP_Input.RV R) [] 2000) [(0, [1, 1, 1, 1, 1, 1, 1, 1, 1, 1, 1, 1, 1, 1, 1, 1, 1, 1, 1, 1, 1, 1])] [(0, .pointer p), (1, .slice pkt_b pkt_l pkt_c), (4, .pointer (some ⟨t4, 0, none⟩)), (6, .pointer (some ⟨none0, 0, none⟩)), (9, .int .i64 off), (12, .pointer (some ⟨up, 0, none⟩)), (14, .int .i64 i)] w := by kernel_rfl
theorem ip_IP_Input.B4_sound {R : Int → Int → Int → Option Addr → Nat → Nat → Int → World → Prop}  (p pkt_b : Option Addr) (pkt_l pkt_c t4 none0 : Nat) (off : Int) (up : Nat) (i : Int) (w : World) (h : ip_IP_Input.B4 p pkt_b pkt_l pkt_c t4 none0 off up i w   R) :
    KW Try.prog 43 214 (ip_IP_Input.RV R) ([(0, [1, 1, 1, 1, 1, 1, 1, 1, 1, 1, 1, 1, 1, 1, 1, 1, 1, 1, 1, 1, 1, 1])].map (toItem (Try.f43.body.getD .skip))) [(0, .pointer p), (1, .slice pkt_b pkt_l pkt_c), (4, .pointer (some ⟨t4, 0, none⟩)), (6, .pointer (some ⟨none0, 0, none⟩)), (9, .int .i64 off), (12, .pointer (some ⟨up, 0, none⟩)), (14, .int .i64 i)] w := by
  exact block_spec Try.func43 Try.mixed stops_nil (Eq.mp (ip_IP_Input.B4_eq p pkt_b pkt_l pkt_c t4 none0 off up i w   R ) h)
def ip_IP_Input.B3 (p pkt_b : Option Addr) (pkt_l pkt_c t4 none0 : Nat) (off : Int) (more : Bool) (end0 : Int) (up : Nat) (i : Int) (w : World)   (R : Int → Int → Int → Option Addr → Nat → Nat → Int → World → Prop) : Prop :=
  ip_IP_clash.Call p i end0 more w fun r160 w1 =>
  Bm r160 (
    Pn p fun a =>
    (0 ≤ i ∧ i < ((3 : Nat) : Int)) ∧
    Sts [.bool false] (Addr.add (a.add 3) (i.toNat * 45)) 0 w1 fun w2 =>
    LdI .i64 ⟨none0, 0, none⟩ w2 fun x168_0 =>
    LdI .i64 ⟨none0, 1, none⟩ w2 fun x168_1 =>
    LdI .i64 ⟨none0, 2, none⟩ w2 fun x168_2 =>
    LdL ⟨none0, 3, none⟩ w2 fun x168_3_b x168_3_l x168_3_c =>
    Sts [.int .i64 x168_0, .int .i64 x168_1, .int .i64 x168_2, .slice x168_3_b x168_3_l x168_3_c] ⟨t4, 0, none⟩ 0 w2 fun w3 =>
    LdI .i64 ⟨t4, 0, none⟩ w3 fun r_0 =>
    LdI .i64 ⟨t4, 1, none⟩ w3 fun r_1 =>
    LdI .i64 ⟨t4, 2, none⟩ w3 fun r_2 =>
    LdL ⟨t4, 3, none⟩ w3 fun r_3_b r_3_l r_3_c =>
    R r_0 r_1 r_2 r_3_b r_3_l r_3_c (9 : Int) w3) (
    Bm (!more) (
      Pn p fun a_1 =>
      (0 ≤ i ∧ i < ((3 : Nat) : Int)) ∧
      Sts [.int .i64 end0] ((Addr.add (a_1.add 3) (i.toNat * 45)).add 3) 0 w1 fun w4 =>
      ip_IP_Input.B4 p pkt_b pkt_l pkt_c t4 none0 off up i w4  R) (
      ip_IP_Input.B4 p pkt_b pkt_l pkt_c t4 none0 off up i w1  R))
theorem ip_IP_Input.B3_eq (p pkt_b : Option Addr) (pkt_l pkt_c t4 none0 : Nat) (off : Int) (more : Bool) (end0 : Int) (up : Nat) (i : Int) (w : World)   (R : Int → Int → Int → Option Addr → Nat → Nat → Int → World → Prop) (sB4 : Option Addr → Option Addr → Nat → Nat → Nat → Nat → Int → Nat → Int → World → Prop) :
    (
  ip_IP_clash.Call p i end0 more w fun r160 w1 =>
  Bm r160 (
    Pn p fun a =>
    (0 ≤ i ∧ i < ((3 : Nat) : Int)) ∧
    Sts [.bool false] (Addr.add (a.add 3) (i.toNat * 45)) 0 w1 fun w2 =>
    LdI .i64 ⟨none0, 0, none⟩ w2 fun x168_0 =>
    LdI .i64 ⟨none0, 1, none⟩ w2 fun x168_1 =>
    LdI .i64 ⟨none0, 2, none⟩ w2 fun x168_2 =>
    LdL ⟨none0, 3, none⟩ w2 fun x168_3_b x168_3_l x168_3_c =>
    Sts [.int .i64 x168_0, .int .i64 x168_1, .int .i64 x168_2, .slice x168_3_b x168_3_l x168_3_c] ⟨t4, 0, none⟩ 0 w2 fun w3 =>
    LdI .i64 ⟨t4, 0, none⟩ w3 fun r_0 =>
    LdI .i64 ⟨t4, 1, none⟩ w3 fun r_1 =>
    LdI .i64 ⟨t4, 2, none⟩ w3 fun r_2 =>
    LdL ⟨t4, 3, none⟩ w3 fun r_3_b r_3_l r_3_c =>
    R r_0 r_1 r_2 r_3_b r_3_l r_3_c (9 : Int) w3) (
    Bm (!more) (
      Pn p fun a_1 =>
      (0 ≤ i ∧ i < ((3 : Nat) : Int)) ∧
      Sts [.int .i64 end0] ((Addr.add (a_1.add 3) (i.toNat * 45)).add 3) 0 w1 fun w4 =>
      sB4 p pkt_b pkt_l pkt_c t4 none0 off up i w4) (
      sB4 p pkt_b pkt_l pkt_c t4 none0 off up i w1))) = kstep Try.prog 214 Try.f43.results.toList (Try.f43.body.getD .skip) (ip_IP_Input.RV R) (kvc Try.prog 214 Try.f43.results.toList (Try.f43.body.getD .skip) (ip_IP_Input.RV R) [([(0, [1, 1, 1, 1, 1, 1, 1, 1, 1, 1, 1, 1, 1, 1, 1, 1, 1, 1, 1, 1, 1, 1])], fun σ w => dP (slotOf σ 0) fun p_ => dL (slotOf σ 1) fun pkt_b_ pkt_l_ pkt_c_ => dK (slotOf σ 4) fun t4_ => dK (slotOf σ 6) fun none0_ => dI .i64 (slotOf σ 9) fun off_ => dK (slotOf σ 12) fun up_ => dI .i64 (slotOf σ 14) fun i_ => sB4 p_ pkt_b_ pkt_l_ pkt_c_ t4_ none0_ off_ up_ i_ w)] 2000) [(0, [1, 1, 1, 1, 1, 1, 1, 1, 1, 1, 1, 1, 1, 1, 1, 1, 1, 1, 1])] [(0, .pointer p), (1, .slice pkt_b pkt_l pkt_c), (4, .pointer (some ⟨t4, 0, none⟩)), (6, .pointer (some ⟨none0, 0, none⟩)), (9, .int .i64 off), (10, .bool more), (11, .int .i64 end0), (12, .pointer (some ⟨up, 0, none⟩)), (14, .int .i64 i)] w := by kernel_rfl
theorem ip_IP_Input.B3_sound {R : Int → Int → Int → Option Addr → Nat → Nat → Int → World → Prop}  (p pkt_b : Option Addr) (pkt_l pkt_c t4 none0 : Nat) (off : Int) (more : Bool) (end0 : Int) (up : Nat) (i : Int) (w : World) (h : ip_IP_Input.B3 p pkt_b pkt_l pkt_c t4 none0 off more end0 up i w   R) :
    KW Try.prog 43 214 (ip_IP_Input.RV R) ([(0, [1, 1, 1, 1, 1, 1, 1, 1, 1, 1, 1, 1, 1, 1, 1, 1, 1, 1, 1])].map (toItem (Try.f43.body.getD .skip))) [(0, .pointer p), (1, .slice pkt_b pkt_l pkt_c), (4, .pointer (some ⟨t4, 0, none⟩)), (6, .pointer (some ⟨none0, 0, none⟩)), (9, .int .i64 off), (10, .bool more), (11, .int .i64 end0), (12, .pointer (some ⟨up, 0, none⟩)), (14, .int .i64 i)] w := by
  exact block_spec Try.func43 Try.mixed (stops_cons (fun σ w h => by
      obtain ⟨p_, e0, h⟩ := dP_elim h
      obtain ⟨pkt_b_, pkt_l_, pkt_c_, e1, h⟩ := dL_elim h
      obtain ⟨t4_, e2, h⟩ := dK_elim h
      obtain ⟨none0_, e3, h⟩ := dK_elim h
      obtain ⟨off_, e4, h⟩ := dI_elim h
      obtain ⟨up_, e5, h⟩ := dK_elim h
      obtain ⟨i_, e6, h⟩ := dI_elim h
      exact (ip_IP_Input.B4_sound  p_ pkt_b_ pkt_l_ pkt_c_ t4_ none0_ off_ up_ i_ w h).weaken (Sub.cons (Sub.cons (Sub.cons (Sub.cons (Sub.cons (Sub.cons (Sub.cons (Sub.nil _) e6) e5) e4) e3) e2) e1) e0)) stops_nil) (Eq.mp (ip_IP_Input.B3_eq p pkt_b pkt_l pkt_c t4 none0 off more end0 up i w   R (fun p_ pkt_b_ pkt_l_ pkt_c_ t4_ none0_ off_ up_ i_ w => ip_IP_Input.B4 p_ pkt_b_ pkt_l_ pkt_c_ t4_ none0_ off_ up_ i_ w  R)) h)
def ip_IP_Input.B2 (p pkt_b : Option Addr) (pkt_l pkt_c t4 none0 : Nat) (off : Int) (more : Bool) (end0 : Int) (up : Nat) (t100 : Bool) (w : World)   (R : Int → Int → Int → Option Addr → Nat → Nat → Int → World → Prop) : Prop :=
  Bm t100 (
    (0 ≤ (8 : Int) ∧ (8 : Int) ≤ ((pkt_l : Nat) : Int)) ∧
    api_CopyBytes.Call (slBase pkt_b (8 : Int) ((pkt_c : Nat) : Int) 1) (((pkt_l : Nat) : Int).toNat - (8 : Int).toNat) (((pkt_c : Nat) : Int).toNat - (8 : Int).toNat) w fun r103_b r103_l r103_c w1 =>
    Sts [.slice r103_b r103_l r103_c] ⟨up, 3, none⟩ 0 w1 fun w2 =>
    LdI .i64 ⟨up, 0, none⟩ w2 fun x105_0 =>
    LdI .i64 ⟨up, 1, none⟩ w2 fun x105_1 =>
    LdI .i64 ⟨up, 2, none⟩ w2 fun x105_2 =>
    LdL ⟨up, 3, none⟩ w2 fun x105_3_b x105_3_l x105_3_c =>
    Sts [.int .i64 x105_0, .int .i64 x105_1, .int .i64 x105_2, .slice x105_3_b x105_3_l x105_3_c] ⟨t4, 0, none⟩ 0 w2 fun w3 =>
    LdI .i64 ⟨t4, 0, none⟩ w3 fun r_0 =>
    LdI .i64 ⟨t4, 1, none⟩ w3 fun r_1 =>
    LdI .i64 ⟨t4, 2, none⟩ w3 fun r_2 =>
    LdL ⟨t4, 3, none⟩ w3 fun r_3_b r_3_l r_3_c =>
    R r_0 r_1 r_2 r_3_b r_3_l r_3_c (0 : Int) w3) (
    LdI .i64 ⟨up, 0, none⟩ w.drew fun x107 =>
    LdI .i64 ⟨up, 2, none⟩ w.drew fun x109 =>
    Pn pkt_b fun a =>
    (0 ≤ (4 : Int) ∧ (4 : Int) < ((pkt_l : Nat) : Int)) ∧
    LdI .u8 (a.add 4) w.drew fun x112 =>
    ip_keyOf.Call x107 x109 (IntKind.i64.wrap x112) w.drew fun r114 w4 =>
    ip_IP_find.Call p r114 w4 fun r117 w5 =>
    Bm (decide (r117 < (0 : Int))) (
      ip_IP_vacant.Call p w5 fun r121 w6 =>
      Bm (decide (r121 < (0 : Int))) (
        LdI .i64 ⟨none0, 0, none⟩ w6 fun x124_0 =>
        LdI .i64 ⟨none0, 1, none⟩ w6 fun x124_1 =>
        LdI .i64 ⟨none0, 2, none⟩ w6 fun x124_2 =>
        LdL ⟨none0, 3, none⟩ w6 fun x124_3_b x124_3_l x124_3_c =>
        Sts [.int .i64 x124_0, .int .i64 x124_1, .int .i64 x124_2, .slice x124_3_b x124_3_l x124_3_c] ⟨t4, 0, none⟩ 0 w6 fun w7 =>
        LdI .i64 ⟨t4, 0, none⟩ w7 fun r_0_1 =>
        LdI .i64 ⟨t4, 1, none⟩ w7 fun r_1_1 =>
        LdI .i64 ⟨t4, 2, none⟩ w7 fun r_2_1 =>
        LdL ⟨t4, 3, none⟩ w7 fun r_3_b_1 r_3_l_1 r_3_c_1 =>
        R r_0_1 r_1_1 r_2_1 r_3_b_1 r_3_l_1 r_3_c_1 (11 : Int) w7) (
        Pn p fun a_1 =>
        (0 ≤ r121 ∧ r121 < ((3 : Nat) : Int)) ∧
        Sts [.bool true] (Addr.add (a_1.add 3) (r121.toNat * 45)) 0 w6 fun w8 =>
        Pn p fun a_2 =>
        (0 ≤ r121 ∧ r121 < ((3 : Nat) : Int)) ∧
        Sts [.int .i64 r114] ((Addr.add (a_2.add 3) (r121.toNat * 45)).add 1) 0 w8 fun w9 =>
        Pn p fun a_3 =>
        (0 ≤ r121 ∧ r121 < ((3 : Nat) : Int)) ∧
        Sts [.int .i64 (4 : Int)] ((Addr.add (a_3.add 3) (r121.toNat * 45)).add 2) 0 w9 fun w10 =>
        Pn p fun a_4 =>
        (0 ≤ r121 ∧ r121 < ((3 : Nat) : Int)) ∧
        Sts [.int .i64 (-1 : Int)] ((Addr.add (a_4.add 3) (r121.toNat * 45)).add 3) 0 w10 fun w11 =>
        Pn p fun a_5 =>
        (0 ≤ r121 ∧ r121 < ((3 : Nat) : Int)) ∧
        Sts [.int .u64 (0 : Int)] ((Addr.add (a_5.add 3) (r121.toNat * 45)).add 4) 0 w11 fun w12 =>
        ip_IP_Input.B3 p pkt_b pkt_l pkt_c t4 none0 off more end0 up r121 w12  R)) (
      ip_IP_Input.B3 p pkt_b pkt_l pkt_c t4 none0 off more end0 up r117 w5  R))
theorem ip_IP_Input.B2_eq (p pkt_b : Option Addr) (pkt_l pkt_c t4 none0 : Nat) (off : Int) (more : Bool) (end0 : Int) (up : Nat) (t100 : Bool) (w : World)   (R : Int → Int → Int → Option Addr → Nat → Nat → Int → World → Prop) (sB3 : Option Addr → Option Addr → Nat → Nat → Nat → Nat → Int → Bool → Int → Nat → Int → World → Prop) :
    (
  Bm t100 (
    (0 ≤ (8 : Int) ∧ (8 : Int) ≤ ((pkt_l : Nat) : Int)) ∧
    api_CopyBytes.Call (slBase pkt_b (8 : Int) ((pkt_c : Nat) : Int) 1) (((pkt_l : Nat) : Int).toNat - (8 : Int).toNat) (((pkt_c : Nat) : Int).toNat - (8 : Int).toNat) w fun r103_b r103_l r103_c w1 =>
    Sts [.slice r103_b r103_l r103_c] ⟨up, 3, none⟩ 0 w1 fun w2 =>
    LdI .i64 ⟨up, 0, none⟩ w2 fun x105_0 =>
    LdI .i64 ⟨up, 1, none⟩ w2 fun x105_1 =>
    LdI .i64 ⟨up, 2, none⟩ w2 fun x105_2 =>
    LdL ⟨up, 3, none⟩ w2 fun x105_3_b x105_3_l x105_3_c =>
    Sts [.int .i64 x105_0, .int .i64 x105_1, .int .i64 x105_2, .slice x105_3_b x105_3_l x105_3_c] ⟨t4, 0, none⟩ 0 w2 fun w3 =>
    LdI .i64 ⟨t4, 0, none⟩ w3 fun r_0 =>
    LdI .i64 ⟨t4, 1, none⟩ w3 fun r_1 =>
    LdI .i64 ⟨t4, 2, none⟩ w3 fun r_2 =>
    LdL ⟨t4, 3, none⟩ w3 fun r_3_b r_3_l r_3_c =>
    R r_0 r_1 r_2 r_3_b r_3_l r_3_c (0 : Int) w3) (
    LdI .i64 ⟨up, 0, none⟩ w.drew fun x107 =>
    LdI .i64 ⟨up, 2, none⟩ w.drew fun x109 =>
    Pn pkt_b fun a =>
    (0 ≤ (4 : Int) ∧ (4 : Int) < ((pkt_l : Nat) : Int)) ∧
    LdI .u8 (a.add 4) w.drew fun x112 =>
    ip_keyOf.Call x107 x109 (IntKind.i64.wrap x112) w.drew fun r114 w4 =>
    ip_IP_find.Call p r114 w4 fun r117 w5 =>
    Bm (decide (r117 < (0 : Int))) (
      ip_IP_vacant.Call p w5 fun r121 w6 =>
      Bm (decide (r121 < (0 : Int))) (
        LdI .i64 ⟨none0, 0, none⟩ w6 fun x124_0 =>
        LdI .i64 ⟨none0, 1, none⟩ w6 fun x124_1 =>
        LdI .i64 ⟨none0, 2, none⟩ w6 fun x124_2 =>
        LdL ⟨none0, 3, none⟩ w6 fun x124_3_b x124_3_l x124_3_c =>
        Sts [.int .i64 x124_0, .int .i64 x124_1, .int .i64 x124_2, .slice x124_3_b x124_3_l x124_3_c] ⟨t4, 0, none⟩ 0 w6 fun w7 =>
        LdI .i64 ⟨t4, 0, none⟩ w7 fun r_0_1 =>
        LdI .i64 ⟨t4, 1, none⟩ w7 fun r_1_1 =>
        LdI .i64 ⟨t4, 2, none⟩ w7 fun r_2_1 =>
        LdL ⟨t4, 3, none⟩ w7 fun r_3_b_1 r_3_l_1 r_3_c_1 =>
        R r_0_1 r_1_1 r_2_1 r_3_b_1 r_3_l_1 r_3_c_1 (11 : Int) w7) (
        Pn p fun a_1 =>
        (0 ≤ r121 ∧ r121 < ((3 : Nat) : Int)) ∧
        Sts [.bool true] (Addr.add (a_1.add 3) (r121.toNat * 45)) 0 w6 fun w8 =>
        Pn p fun a_2 =>
        (0 ≤ r121 ∧ r121 < ((3 : Nat) : Int)) ∧
        Sts [.int .i64 r114] ((Addr.add (a_2.add 3) (r121.toNat * 45)).add 1) 0 w8 fun w9 =>
        Pn p fun a_3 =>
        (0 ≤ r121 ∧ r121 < ((3 : Nat) : Int)) ∧
        Sts [.int .i64 (4 : Int)] ((Addr.add (a_3.add 3) (r121.toNat * 45)).add 2) 0 w9 fun w10 =>
        Pn p fun a_4 =>
        (0 ≤ r121 ∧ r121 < ((3 : Nat) : Int)) ∧
        Sts [.int .i64 (-1 : Int)] ((Addr.add (a_4.add 3) (r121.toNat * 45)).add 3) 0 w10 fun w11 =>
        Pn p fun a_5 =>
        (0 ≤ r121 ∧ r121 < ((3 : Nat) : Int)) ∧
        Sts [.int .u64 (0 : Int)] ((Addr.add (a_5.add 3) (r121.toNat * 45)).add 4) 0 w11 fun w12 =>
        sB3 p pkt_b pkt_l pkt_c t4 none0 off more end0 up r121 w12)) (
      sB3 p pkt_b pkt_l pkt_c t4 none0 off more end0 up r117 w5))) = kstep Try.prog 214 Try.f43.results.toList (Try.f43.body.getD .skip) (ip_IP_Input.RV R) (kvc Try.prog 214 Try.f43.results.toList (Try.f43.body.getD .skip) (ip_IP_Input.RV R) [([(0, [1, 1, 1, 1, 1, 1, 1, 1, 1, 1, 1, 1, 1, 1, 1, 1, 1, 1, 1])], fun σ w => dP (slotOf σ 0) fun p_ => dL (slotOf σ 1) fun pkt_b_ pkt_l_ pkt_c_ => dK (slotOf σ 4) fun t4_ => dK (slotOf σ 6) fun none0_ => dI .i64 (slotOf σ 9) fun off_ => dB (slotOf σ 10) fun more_ => dI .i64 (slotOf σ 11) fun end0_ => dK (slotOf σ 12) fun up_ => dI .i64 (slotOf σ 14) fun i_ => sB3 p_ pkt_b_ pkt_l_ pkt_c_ t4_ none0_ off_ more_ end0_ up_ i_ w)] 2000) [(0, [1, 1, 1, 1, 1, 1, 1, 1, 1, 1, 1, 1, 1, 1, 1, 0, 1]), (0, [1, 1, 1, 1, 1, 1, 1, 1, 1, 1, 1, 1, 1, 1, 1, 1])] [(0, .pointer p), (1, .slice pkt_b pkt_l pkt_c), (4, .pointer (some ⟨t4, 0, none⟩)), (6, .pointer (some ⟨none0, 0, none⟩)), (9, .int .i64 off), (10, .bool more), (11, .int .i64 end0), (12, .pointer (some ⟨up, 0, none⟩)), (100, .bool t100)] w := by kernel_rfl
theorem ip_IP_Input.B2_sound {R : Int → Int → Int → Option Addr → Nat → Nat → Int → World → Prop}  (p pkt_b : Option Addr) (pkt_l pkt_c t4 none0 : Nat) (off : Int) (more : Bool) (end0 : Int) (up : Nat) (t100 : Bool) (w : World) (h : ip_IP_Input.B2 p pkt_b pkt_l pkt_c t4 none0 off more end0 up t100 w   R) :
    KW Try.prog 43 214 (ip_IP_Input.RV R) ([(0, [1, 1, 1, 1, 1, 1, 1, 1, 1, 1, 1, 1, 1, 1, 1, 0, 1]), (0, [1, 1, 1, 1, 1, 1, 1, 1, 1, 1, 1, 1, 1, 1, 1, 1])].map (toItem (Try.f43.body.getD .skip))) [(0, .pointer p), (1, .slice pkt_b pkt_l pkt_c), (4, .pointer (some ⟨t4, 0, none⟩)), (6, .pointer (some ⟨none0, 0, none⟩)), (9, .int .i64 off), (10, .bool more), (11, .int .i64 end0), (12, .pointer (some ⟨up, 0, none⟩)), (100, .bool t100)] w := by
  exact block_spec Try.func43 Try.mixed (stops_cons (fun σ w h => by
      obtain ⟨p_, e0, h⟩ := dP_elim h
      obtain ⟨pkt_b_, pkt_l_, pkt_c_, e1, h⟩ := dL_elim h
      obtain ⟨t4_, e2, h⟩ := dK_elim h
      obtain ⟨none0_, e3, h⟩ := dK_elim h
      obtain ⟨off_, e4, h⟩ := dI_elim h
      obtain ⟨more_, e5, h⟩ := dB_elim h
      obtain ⟨end0_, e6, h⟩ := dI_elim h
      obtain ⟨up_, e7, h⟩ := dK_elim h
      obtain ⟨i_, e8, h⟩ := dI_elim h
      exact (ip_IP_Input.B3_sound  p_ pkt_b_ pkt_l_ pkt_c_ t4_ none0_ off_ more_ end0_ up_ i_ w h).weaken (Sub.cons (Sub.cons (Sub.cons (Sub.cons (Sub.cons (Sub.cons (Sub.cons (Sub.cons (Sub.cons (Sub.nil _) e8) e7) e6) e5) e4) e3) e2) e1) e0)) stops_nil) (Eq.mp (ip_IP_Input.B2_eq p pkt_b pkt_l pkt_c t4 none0 off more end0 up t100 w   R (fun p_ pkt_b_ pkt_l_ pkt_c_ t4_ none0_ off_ more_ end0_ up_ i_ w => ip_IP_Input.B3 p_ pkt_b_ pkt_l_ pkt_c_ t4_ none0_ off_ more_ end0_ up_ i_ w  R)) h)
def ip_IP_Input.B1 (p pkt_b : Option Addr) (pkt_l pkt_c t4 none0 : Nat) (off : Int) (more : Bool) (end0 : Int) (t80 : Bool) (w : World)   (R : Int → Int → Int → Option Addr → Nat → Nat → Int → World → Prop) : Prop :=
  Bm t80 (
    LdI .i64 ⟨none0, 0, none⟩ w fun x81_0 =>
    LdI .i64 ⟨none0, 1, none⟩ w fun x81_1 =>
    LdI .i64 ⟨none0, 2, none⟩ w fun x81_2 =>
    LdL ⟨none0, 3, none⟩ w fun x81_3_b x81_3_l x81_3_c =>
    Sts [.int .i64 x81_0, .int .i64 x81_1, .int .i64 x81_2, .slice x81_3_b x81_3_l x81_3_c] ⟨t4, 0, none⟩ 0 w fun w1 =>
    LdI .i64 ⟨t4, 0, none⟩ w1 fun r_0 =>
    LdI .i64 ⟨t4, 1, none⟩ w1 fun r_1 =>
    LdI .i64 ⟨t4, 2, none⟩ w1 fun r_2 =>
    LdL ⟨t4, 3, none⟩ w1 fun r_3_b r_3_l r_3_c =>
    R r_0 r_1 r_2 r_3_b r_3_l r_3_c (9 : Int) w1) (
    Pn pkt_b fun a =>
    (0 ≤ (2 : Int) ∧ (2 : Int) < ((pkt_l : Nat) : Int)) ∧
    LdI .u8 (a.add 2) w.drew fun x84 =>
    Pn p fun a_1 =>
    LdI .i64 a_1 w.drew fun x89 =>
    Pn pkt_b fun a_2 =>
    (0 ≤ (0 : Int) ∧ (0 : Int) < ((pkt_l : Nat) : Int)) ∧
    LdI .u8 a_2 w.drew fun x92 =>
    New (.cells #[.int .i64 (0 : Int), .int .i64 (0 : Int), .int .i64 (0 : Int), .slice none 0 0] 81) w.drew fun up_ w2 =>
    w2.cell? a_2 = some (.int .u8 x92) ∧
    w2.cell? a_1 = some (.int .i64 x89) ∧
    w2.cell? (a.add 2) = some (.int .u8 x84) ∧
    Sts [.int .i64 (IntKind.i64.wrap x84), .int .i64 x89, .int .i64 (IntKind.i64.wrap x92), .slice none 0 0] ⟨up_, 0, none⟩ 0 w2 fun w3 =>
    Bm (off == (0 : Int)) (
      ip_IP_Input.B2 p pkt_b pkt_l pkt_c t4 none0 off more end0 up_ (!more) w3  R) (
      ip_IP_Input.B2 p pkt_b pkt_l pkt_c t4 none0 off more end0 up_ false w3  R))
theorem ip_IP_Input.B1_eq (p pkt_b : Option Addr) (pkt_l pkt_c t4 none0 : Nat) (off : Int) (more : Bool) (end0 : Int) (t80 : Bool) (w : World)   (R : Int → Int → Int → Option Addr → Nat → Nat → Int → World → Prop) (sB2 : Option Addr → Option Addr → Nat → Nat → Nat → Nat → Int → Bool → Int → Nat → Bool → World → Prop) :
    (
  Bm t80 (
    LdI .i64 ⟨none0, 0, none⟩ w fun x81_0 =>
    LdI .i64 ⟨none0, 1, none⟩ w fun x81_1 =>
    LdI .i64 ⟨none0, 2, none⟩ w fun x81_2 =>
    LdL ⟨none0, 3, none⟩ w fun x81_3_b x81_3_l x81_3_c =>
    Sts [.int .i64 x81_0, .int .i64 x81_1, .int .i64 x81_2, .slice x81_3_b x81_3_l x81_3_c] ⟨t4, 0, none⟩ 0 w fun w1 =>
    LdI .i64 ⟨t4, 0, none⟩ w1 fun r_0 =>
    LdI .i64 ⟨t4, 1, none⟩ w1 fun r_1 =>
    LdI .i64 ⟨t4, 2, none⟩ w1 fun r_2 =>
    LdL ⟨t4, 3, none⟩ w1 fun r_3_b r_3_l r_3_c =>
    R r_0 r_1 r_2 r_3_b r_3_l r_3_c (9 : Int) w1) (
    Pn pkt_b fun a =>
    (0 ≤ (2 : Int) ∧ (2 : Int) < ((pkt_l : Nat) : Int)) ∧
    LdI .u8 (a.add 2) w.drew fun x84 =>
    Pn p fun a_1 =>
    LdI .i64 a_1 w.drew fun x89 =>
    Pn pkt_b fun a_2 =>
    (0 ≤ (0 : Int) ∧ (0 : Int) < ((pkt_l : Nat) : Int)) ∧
    LdI .u8 a_2 w.drew fun x92 =>
    New (.cells #[.int .i64 (0 : Int), .int .i64 (0 : Int), .int .i64 (0 : Int), .slice none 0 0] 81) w.drew fun up_ w2 =>
    w2.cell? a_2 = some (.int .u8 x92) ∧
    w2.cell? a_1 = some (.int .i64 x89) ∧
    w2.cell? (a.add 2) = some (.int .u8 x84) ∧
    Sts [.int .i64 (IntKind.i64.wrap x84), .int .i64 x89, .int .i64 (IntKind.i64.wrap x92), .slice none 0 0] ⟨up_, 0, none⟩ 0 w2 fun w3 =>
    Bm (off == (0 : Int)) (
      sB2 p pkt_b pkt_l pkt_c t4 none0 off more end0 up_ (!more) w3) (
      sB2 p pkt_b pkt_l pkt_c t4 none0 off more end0 up_ false w3))) = kstep Try.prog 214 Try.f43.results.toList (Try.f43.body.getD .skip) (ip_IP_Input.RV R) (kvc Try.prog 214 Try.f43.results.toList (Try.f43.body.getD .skip) (ip_IP_Input.RV R) [([(0, [1, 1, 1, 1, 1, 1, 1, 1, 1, 1, 1, 1, 1, 1, 1, 0, 1]), (0, [1, 1, 1, 1, 1, 1, 1, 1, 1, 1, 1, 1, 1, 1, 1, 1])], fun σ w => dP (slotOf σ 0) fun p_ => dL (slotOf σ 1) fun pkt_b_ pkt_l_ pkt_c_ => dK (slotOf σ 4) fun t4_ => dK (slotOf σ 6) fun none0_ => dI .i64 (slotOf σ 9) fun off_ => dB (slotOf σ 10) fun more_ => dI .i64 (slotOf σ 11) fun end0_ => dK (slotOf σ 12) fun up_ => dB (slotOf σ 100) fun t100_ => sB2 p_ pkt_b_ pkt_l_ pkt_c_ t4_ none0_ off_ more_ end0_ up_ t100_ w)] 2000) [(0, [1, 1, 1, 1, 1, 1, 1, 1, 1, 1, 1, 1, 1, 0, 1]), (0, [1, 1, 1, 1, 1, 1, 1, 1, 1, 1, 1, 1, 1, 1])] [(0, .pointer p), (1, .slice pkt_b pkt_l pkt_c), (4, .pointer (some ⟨t4, 0, none⟩)), (6, .pointer (some ⟨none0, 0, none⟩)), (9, .int .i64 off), (10, .bool more), (11, .int .i64 end0), (80, .bool t80)] w := by kernel_rfl
theorem ip_IP_Input.B1_sound {R : Int → Int → Int → Option Addr → Nat → Nat → Int → World → Prop}  (p pkt_b : Option Addr) (pkt_l pkt_c t4 none0 : Nat) (off : Int) (more : Bool) (end0 : Int) (t80 : Bool) (w : World) (h : ip_IP_Input.B1 p pkt_b pkt_l pkt_c t4 none0 off more end0 t80 w   R) :
    KW Try.prog 43 214 (ip_IP_Input.RV R) ([(0, [1, 1, 1, 1, 1, 1, 1, 1, 1, 1, 1, 1, 1, 0, 1]), (0, [1, 1, 1, 1, 1, 1, 1, 1, 1, 1, 1, 1, 1, 1])].map (toItem (Try.f43.body.getD .skip))) [(0, .pointer p), (1, .slice pkt_b pkt_l pkt_c), (4, .pointer (some ⟨t4, 0, none⟩)), (6, .pointer (some ⟨none0, 0, none⟩)), (9, .int .i64 off), (10, .bool more), (11, .int .i64 end0), (80, .bool t80)] w := by
  exact block_spec Try.func43 Try.mixed (stops_cons (fun σ w h => by
      obtain ⟨p_, e0, h⟩ := dP_elim h
      obtain ⟨pkt_b_, pkt_l_, pkt_c_, e1, h⟩ := dL_elim h
      obtain ⟨t4_, e2, h⟩ := dK_elim h
      obtain ⟨none0_, e3, h⟩ := dK_elim h
      obtain ⟨off_, e4, h⟩ := dI_elim h
      obtain ⟨more_, e5, h⟩ := dB_elim h
      obtain ⟨end0_, e6, h⟩ := dI_elim h
      obtain ⟨up_, e7, h⟩ := dK_elim h
      obtain ⟨t100_, e8, h⟩ := dB_elim h
      exact (ip_IP_Input.B2_sound  p_ pkt_b_ pkt_l_ pkt_c_ t4_ none0_ off_ more_ end0_ up_ t100_ w h).weaken (Sub.cons (Sub.cons (Sub.cons (Sub.cons (Sub.cons (Sub.cons (Sub.cons (Sub.cons (Sub.cons (Sub.nil _) e8) e7) e6) e5) e4) e3) e2) e1) e0)) stops_nil) (Eq.mp (ip_IP_Input.B1_eq p pkt_b pkt_l pkt_c t4 none0 off more end0 t80 w   R (fun p_ pkt_b_ pkt_l_ pkt_c_ t4_ none0_ off_ more_ end0_ up_ t100_ w => ip_IP_Input.B2 p_ pkt_b_ pkt_l_ pkt_c_ t4_ none0_ off_ more_ end0_ up_ t100_ w  R)) h)
def ip_IP_Input.B0 (p pkt_b : Option Addr) (pkt_l pkt_c : Nat) (w : World)   (R : Int → Int → Int → Option Addr → Nat → Nat → Int → World → Prop) : Prop :=
  New (.cells #[.int .i64 (0 : Int), .int .i64 (0 : Int), .int .i64 (0 : Int), .slice none 0 0] 81) w fun b4 w1 =>
  New (.cells #[.int .i64 (0 : Int), .int .i64 (0 : Int), .int .i64 (0 : Int), .slice none 0 0] 81) w1 fun none0_ w2 =>
  Sts [.int .i64 (0 : Int), .int .i64 (0 : Int), .int .i64 (0 : Int), .slice none 0 0] ⟨none0_, 0, none⟩ 0 w2 fun w3 =>
  Bm (decide (((pkt_l : Nat) : Int) < (8 : Int))) (
    LdI .i64 ⟨none0_, 0, none⟩ w3 fun x22_0 =>
    LdI .i64 ⟨none0_, 1, none⟩ w3 fun x22_1 =>
    LdI .i64 ⟨none0_, 2, none⟩ w3 fun x22_2 =>
    LdL ⟨none0_, 3, none⟩ w3 fun x22_3_b x22_3_l x22_3_c =>
    Sts [.int .i64 x22_0, .int .i64 x22_1, .int .i64 x22_2, .slice x22_3_b x22_3_l x22_3_c] ⟨b4, 0, none⟩ 0 w3 fun w4 =>
    LdI .i64 ⟨b4, 0, none⟩ w4 fun r_0 =>
    LdI .i64 ⟨b4, 1, none⟩ w4 fun r_1 =>
    LdI .i64 ⟨b4, 2, none⟩ w4 fun r_2 =>
    LdL ⟨b4, 3, none⟩ w4 fun r_3_b r_3_l r_3_c =>
    R r_0 r_1 r_2 r_3_b r_3_l r_3_c (1 : Int) w4) (
    Pn pkt_b fun a =>
    (0 ≤ (6 : Int) ∧ (6 : Int) < ((pkt_l : Nat) : Int)) ∧
    LdI .u8 (a.add 6) w3 fun x25 =>
    Bm ((IntKind.i64.wrap x25) != (IntKind.i64.wrap (((pkt_l : Nat) : Int) - (8 : Int)))) (
      LdI .i64 ⟨none0_, 0, none⟩ w3 fun x32_0 =>
      LdI .i64 ⟨none0_, 1, none⟩ w3 fun x32_1 =>
      LdI .i64 ⟨none0_, 2, none⟩ w3 fun x32_2 =>
      LdL ⟨none0_, 3, none⟩ w3 fun x32_3_b x32_3_l x32_3_c =>
      Sts [.int .i64 x32_0, .int .i64 x32_1, .int .i64 x32_2, .slice x32_3_b x32_3_l x32_3_c] ⟨b4, 0, none⟩ 0 w3 fun w5 =>
      LdI .i64 ⟨b4, 0, none⟩ w5 fun r_0_1 =>
      LdI .i64 ⟨b4, 1, none⟩ w5 fun r_1_1 =>
      LdI .i64 ⟨b4, 2, none⟩ w5 fun r_2_1 =>
      LdL ⟨b4, 3, none⟩ w5 fun r_3_b_1 r_3_l_1 r_3_c_1 =>
      R r_0_1 r_1_1 r_2_1 r_3_b_1 r_3_l_1 r_3_c_1 (3 : Int) w5) (
      ip_sumOf.Call pkt_b pkt_l pkt_c w3 fun r34 w6 =>
      Pn pkt_b fun a_1 =>
      (0 ≤ (7 : Int) ∧ (7 : Int) < ((pkt_l : Nat) : Int)) ∧
      LdI .u8 (a_1.add 7) w6 fun x38 =>
      Bm (r34 != x38) (
        LdI .i64 ⟨none0_, 0, none⟩ w6 fun x40_0 =>
        LdI .i64 ⟨none0_, 1, none⟩ w6 fun x40_1 =>
        LdI .i64 ⟨none0_, 2, none⟩ w6 fun x40_2 =>
        LdL ⟨none0_, 3, none⟩ w6 fun x40_3_b x40_3_l x40_3_c =>
        Sts [.int .i64 x40_0, .int .i64 x40_1, .int .i64 x40_2, .slice x40_3_b x40_3_l x40_3_c] ⟨b4, 0, none⟩ 0 w6 fun w7 =>
        LdI .i64 ⟨b4, 0, none⟩ w7 fun r_0_2 =>
        LdI .i64 ⟨b4, 1, none⟩ w7 fun r_1_2 =>
        LdI .i64 ⟨b4, 2, none⟩ w7 fun r_2_2 =>
        LdL ⟨b4, 3, none⟩ w7 fun r_3_b_2 r_3_l_2 r_3_c_2 =>
        R r_0_2 r_1_2 r_2_2 r_3_b_2 r_3_l_2 r_3_c_2 (4 : Int) w7) (
        Pn pkt_b fun a_2 =>
        (0 ≤ (1 : Int) ∧ (1 : Int) < ((pkt_l : Nat) : Int)) ∧
        LdI .u8 (a_2.add 1) w6 fun x43 =>
        Bm (x43 == (0 : Int)) (
          LdI .i64 ⟨none0_, 0, none⟩ w6 fun x45_0 =>
          LdI .i64 ⟨none0_, 1, none⟩ w6 fun x45_1 =>
          LdI .i64 ⟨none0_, 2, none⟩ w6 fun x45_2 =>
          LdL ⟨none0_, 3, none⟩ w6 fun x45_3_b x45_3_l x45_3_c =>
          Sts [.int .i64 x45_0, .int .i64 x45_1, .int .i64 x45_2, .slice x45_3_b x45_3_l x45_3_c] ⟨b4, 0, none⟩ 0 w6 fun w8 =>
          LdI .i64 ⟨b4, 0, none⟩ w8 fun r_0_3 =>
          LdI .i64 ⟨b4, 1, none⟩ w8 fun r_1_3 =>
          LdI .i64 ⟨b4, 2, none⟩ w8 fun r_2_3 =>
          LdL ⟨b4, 3, none⟩ w8 fun r_3_b_3 r_3_l_3 r_3_c_3 =>
          R r_0_3 r_1_3 r_2_3 r_3_b_3 r_3_l_3 r_3_c_3 (8 : Int) w8) (
          Pn pkt_b fun a_3 =>
          (0 ≤ (3 : Int) ∧ (3 : Int) < ((pkt_l : Nat) : Int)) ∧
          LdI .u8 (a_3.add 3) w6.drew fun x48 =>
          Pn p fun a_4 =>
          LdI .i64 a_4 w6.drew fun x53 =>
          Bm ((IntKind.i64.wrap x48) != x53) (
            LdI .i64 ⟨none0_, 0, none⟩ w6.drew fun x55_0 =>
            LdI .i64 ⟨none0_, 1, none⟩ w6.drew fun x55_1 =>
            LdI .i64 ⟨none0_, 2, none⟩ w6.drew fun x55_2 =>
            LdL ⟨none0_, 3, none⟩ w6.drew fun x55_3_b x55_3_l x55_3_c =>
            Sts [.int .i64 x55_0, .int .i64 x55_1, .int .i64 x55_2, .slice x55_3_b x55_3_l x55_3_c] ⟨b4, 0, none⟩ 0 w6.drew fun w9 =>
            LdI .i64 ⟨b4, 0, none⟩ w9 fun r_0_4 =>
            LdI .i64 ⟨b4, 1, none⟩ w9 fun r_1_4 =>
            LdI .i64 ⟨b4, 2, none⟩ w9 fun r_2_4 =>
            LdL ⟨b4, 3, none⟩ w9 fun r_3_b_4 r_3_l_4 r_3_c_4 =>
            R r_0_4 r_1_4 r_2_4 r_3_b_4 r_3_l_4 r_3_c_4 (7 : Int) w9) (
            Pn pkt_b fun a_5 =>
            (0 ≤ (5 : Int) ∧ (5 : Int) < ((pkt_l : Nat) : Int)) ∧
            LdI .u8 (a_5.add 5) w6.drew fun x58 =>
            Pn pkt_b fun a_6 =>
            (0 ≤ (5 : Int) ∧ (5 : Int) < ((pkt_l : Nat) : Int)) ∧
            LdI .u8 (a_6.add 5) w6.drew fun x63 =>
            Bm (decide ((IntKind.i64.wrap ((IntKind.i64.wrap (IntKind.u8.wrap (BitVec.ofInt IntKind.u8.bits x58 &&& BitVec.ofInt IntKind.u8.bits (127 : Int)).toNat)) + (IntKind.i64.wrap x25))) > (40 : Int))) (
              LdI .i64 ⟨none0_, 0, none⟩ w6.drew fun x71_0 =>
              LdI .i64 ⟨none0_, 1, none⟩ w6.drew fun x71_1 =>
              LdI .i64 ⟨none0_, 2, none⟩ w6.drew fun x71_2 =>
              LdL ⟨none0_, 3, none⟩ w6.drew fun x71_3_b x71_3_l x71_3_c =>
              Sts [.int .i64 x71_0, .int .i64 x71_1, .int .i64 x71_2, .slice x71_3_b x71_3_l x71_3_c] ⟨b4, 0, none⟩ 0 w6.drew fun w10 =>
              LdI .i64 ⟨b4, 0, none⟩ w10 fun r_0_5 =>
              LdI .i64 ⟨b4, 1, none⟩ w10 fun r_1_5 =>
              LdI .i64 ⟨b4, 2, none⟩ w10 fun r_2_5 =>
              LdL ⟨b4, 3, none⟩ w10 fun r_3_b_5 r_3_l_5 r_3_c_5 =>
              R r_0_5 r_1_5 r_2_5 r_3_b_5 r_3_l_5 r_3_c_5 (2 : Int) w10) (
              Bm ((IntKind.i64.wrap x25) == (0 : Int)) (
                Bm ((IntKind.u8.wrap (BitVec.ofInt IntKind.u8.bits x63 &&& BitVec.ofInt IntKind.u8.bits (128 : Int)).toNat) != (0 : Int)) (
                  ip_IP_Input.B1 p pkt_b pkt_l pkt_c b4 none0_ (IntKind.i64.wrap (IntKind.u8.wrap (BitVec.ofInt IntKind.u8.bits x58 &&& BitVec.ofInt IntKind.u8.bits (127 : Int)).toNat)) ((IntKind.u8.wrap (BitVec.ofInt IntKind.u8.bits x63 &&& BitVec.ofInt IntKind.u8.bits (128 : Int)).toNat) != (0 : Int)) (IntKind.i64.wrap ((IntKind.i64.wrap (IntKind.u8.wrap (BitVec.ofInt IntKind.u8.bits x58 &&& BitVec.ofInt IntKind.u8.bits (127 : Int)).toNat)) + (IntKind.i64.wrap x25))) true w6.drew  R) (
                  ip_IP_Input.B1 p pkt_b pkt_l pkt_c b4 none0_ (IntKind.i64.wrap (IntKind.u8.wrap (BitVec.ofInt IntKind.u8.bits x58 &&& BitVec.ofInt IntKind.u8.bits (127 : Int)).toNat)) ((IntKind.u8.wrap (BitVec.ofInt IntKind.u8.bits x63 &&& BitVec.ofInt IntKind.u8.bits (128 : Int)).toNat) != (0 : Int)) (IntKind.i64.wrap ((IntKind.i64.wrap (IntKind.u8.wrap (BitVec.ofInt IntKind.u8.bits x58 &&& BitVec.ofInt IntKind.u8.bits (127 : Int)).toNat)) + (IntKind.i64.wrap x25))) (decide ((IntKind.i64.wrap (IntKind.u8.wrap (BitVec.ofInt IntKind.u8.bits x58 &&& BitVec.ofInt IntKind.u8.bits (127 : Int)).toNat)) > (0 : Int))) w6.drew  R)) (
                ip_IP_Input.B1 p pkt_b pkt_l pkt_c b4 none0_ (IntKind.i64.wrap (IntKind.u8.wrap (BitVec.ofInt IntKind.u8.bits x58 &&& BitVec.ofInt IntKind.u8.bits (127 : Int)).toNat)) ((IntKind.u8.wrap (BitVec.ofInt IntKind.u8.bits x63 &&& BitVec.ofInt IntKind.u8.bits (128 : Int)).toNat) != (0 : Int)) (IntKind.i64.wrap ((IntKind.i64.wrap (IntKind.u8.wrap (BitVec.ofInt IntKind.u8.bits x58 &&& BitVec.ofInt IntKind.u8.bits (127 : Int)).toNat)) + (IntKind.i64.wrap x25))) false w6.drew  R)))))))
theorem ip_IP_Input.B0_eq (p pkt_b : Option Addr) (pkt_l pkt_c : Nat) (w : World)   (R : Int → Int → Int → Option Addr → Nat → Nat → Int → World → Prop) (sB1 : Option Addr → Option Addr → Nat → Nat → Nat → Nat → Int → Bool → Int → Bool → World → Prop) :
    (
  New (.cells #[.int .i64 (0 : Int), .int .i64 (0 : Int), .int .i64 (0 : Int), .slice none 0 0] 81) w fun b4 w1 =>
  New (.cells #[.int .i64 (0 : Int), .int .i64 (0 : Int), .int .i64 (0 : Int), .slice none 0 0] 81) w1 fun none0_ w2 =>
  Sts [.int .i64 (0 : Int), .int .i64 (0 : Int), .int .i64 (0 : Int), .slice none 0 0] ⟨none0_, 0, none⟩ 0 w2 fun w3 =>
  Bm (decide (((pkt_l : Nat) : Int) < (8 : Int))) (
    LdI .i64 ⟨none0_, 0, none⟩ w3 fun x22_0 =>
    LdI .i64 ⟨none0_, 1, none⟩ w3 fun x22_1 =>
    LdI .i64 ⟨none0_, 2, none⟩ w3 fun x22_2 =>
    LdL ⟨none0_, 3, none⟩ w3 fun x22_3_b x22_3_l x22_3_c =>
    Sts [.int .i64 x22_0, .int .i64 x22_1, .int .i64 x22_2, .slice x22_3_b x22_3_l x22_3_c] ⟨b4, 0, none⟩ 0 w3 fun w4 =>
    LdI .i64 ⟨b4, 0, none⟩ w4 fun r_0 =>
    LdI .i64 ⟨b4, 1, none⟩ w4 fun r_1 =>
    LdI .i64 ⟨b4, 2, none⟩ w4 fun r_2 =>
    LdL ⟨b4, 3, none⟩ w4 fun r_3_b r_3_l r_3_c =>
    R r_0 r_1 r_2 r_3_b r_3_l r_3_c (1 : Int) w4) (
    Pn pkt_b fun a =>
    (0 ≤ (6 : Int) ∧ (6 : Int) < ((pkt_l : Nat) : Int)) ∧
    LdI .u8 (a.add 6) w3 fun x25 =>
    Bm ((IntKind.i64.wrap x25) != (IntKind.i64.wrap (((pkt_l : Nat) : Int) - (8 : Int)))) (
      LdI .i64 ⟨none0_, 0, none⟩ w3 fun x32_0 =>
      LdI .i64 ⟨none0_, 1, none⟩ w3 fun x32_1 =>
      LdI .i64 ⟨none0_, 2, none⟩ w3 fun x32_2 =>
      LdL ⟨none0_, 3, none⟩ w3 fun x32_3_b x32_3_l x32_3_c =>
      Sts [.int .i64 x32_0, .int .i64 x32_1, .int .i64 x32_2, .slice x32_3_b x32_3_l x32_3_c] ⟨b4, 0, none⟩ 0 w3 fun w5 =>
      LdI .i64 ⟨b4, 0, none⟩ w5 fun r_0_1 =>
      LdI .i64 ⟨b4, 1, none⟩ w5 fun r_1_1 =>
      LdI .i64 ⟨b4, 2, none⟩ w5 fun r_2_1 =>
      LdL ⟨b4, 3, none⟩ w5 fun r_3_b_1 r_3_l_1 r_3_c_1 =>
      R r_0_1 r_1_1 r_2_1 r_3_b_1 r_3_l_1 r_3_c_1 (3 : Int) w5) (
      ip_sumOf.Call pkt_b pkt_l pkt_c w3 fun r34 w6 =>
      Pn pkt_b fun a_1 =>
      (0 ≤ (7 : Int) ∧ (7 : Int) < ((pkt_l : Nat) : Int)) ∧
      LdI .u8 (a_1.add 7) w6 fun x38 =>
      Bm (r34 != x38) (
        LdI .i64 ⟨none0_, 0, none⟩ w6 fun x40_0 =>
        LdI .i64 ⟨none0_, 1, none⟩ w6 fun x40_1 =>
        LdI .i64 ⟨none0_, 2, none⟩ w6 fun x40_2 =>
        LdL ⟨none0_, 3, none⟩ w6 fun x40_3_b x40_3_l x40_3_c =>
        Sts [.int .i64 x40_0, .int .i64 x40_1, .int .i64 x40_2, .slice x40_3_b x40_3_l x40_3_c] ⟨b4, 0, none⟩ 0 w6 fun w7 =>
        LdI .i64 ⟨b4, 0, none⟩ w7 fun r_0_2 =>
        LdI .i64 ⟨b4, 1, none⟩ w7 fun r_1_2 =>
        LdI .i64 ⟨b4, 2, none⟩ w7 fun r_2_2 =>
        LdL ⟨b4, 3, none⟩ w7 fun r_3_b_2 r_3_l_2 r_3_c_2 =>
        R r_0_2 r_1_2 r_2_2 r_3_b_2 r_3_l_2 r_3_c_2 (4 : Int) w7) (
        Pn pkt_b fun a_2 =>
        (0 ≤ (1 : Int) ∧ (1 : Int) < ((pkt_l : Nat) : Int)) ∧
        LdI .u8 (a_2.add 1) w6 fun x43 =>
        Bm (x43 == (0 : Int)) (
          LdI .i64 ⟨none0_, 0, none⟩ w6 fun x45_0 =>
          LdI .i64 ⟨none0_, 1, none⟩ w6 fun x45_1 =>
          LdI .i64 ⟨none0_, 2, none⟩ w6 fun x45_2 =>
          LdL ⟨none0_, 3, none⟩ w6 fun x45_3_b x45_3_l x45_3_c =>
          Sts [.int .i64 x45_0, .int .i64 x45_1, .int .i64 x45_2, .slice x45_3_b x45_3_l x45_3_c] ⟨b4, 0, none⟩ 0 w6 fun w8 =>
          LdI .i64 ⟨b4, 0, none⟩ w8 fun r_0_3 =>
          LdI .i64 ⟨b4, 1, none⟩ w8 fun r_1_3 =>
          LdI .i64 ⟨b4, 2, none⟩ w8 fun r_2_3 =>
          LdL ⟨b4, 3, none⟩ w8 fun r_3_b_3 r_3_l_3 r_3_c_3 =>
          R r_0_3 r_1_3 r_2_3 r_3_b_3 r_3_l_3 r_3_c_3 (8 : Int) w8) (
          Pn pkt_b fun a_3 =>
          (0 ≤ (3 : Int) ∧ (3 : Int) < ((pkt_l : Nat) : Int)) ∧
          LdI .u8 (a_3.add 3) w6.drew fun x48 =>
          Pn p fun a_4 =>
          LdI .i64 a_4 w6.drew fun x53 =>
          Bm ((IntKind.i64.wrap x48) != x53) (
            LdI .i64 ⟨none0_, 0, none⟩ w6.drew fun x55_0 =>
            LdI .i64 ⟨none0_, 1, none⟩ w6.drew fun x55_1 =>
            LdI .i64 ⟨none0_, 2, none⟩ w6.drew fun x55_2 =>
            LdL ⟨none0_, 3, none⟩ w6.drew fun x55_3_b x55_3_l x55_3_c =>
            Sts [.int .i64 x55_0, .int .i64 x55_1, .int .i64 x55_2, .slice x55_3_b x55_3_l x55_3_c] ⟨b4, 0, none⟩ 0 w6.drew fun w9 =>
            LdI .i64 ⟨b4, 0, none⟩ w9 fun r_0_4 =>
            LdI .i64 ⟨b4, 1, none⟩ w9 fun r_1_4 =>
            LdI .i64 ⟨b4, 2, none⟩ w9 fun r_2_4 =>
            LdL ⟨b4, 3, none⟩ w9 fun r_3_b_4 r_3_l_4 r_3_c_4 =>
            R r_0_4 r_1_4 r_2_4 r_3_b_4 r_3_l_4 r_3_c_4 (7 : Int) w9) (
            Pn pkt_b fun a_5 =>
            (0 ≤ (5 : Int) ∧ (5 : Int) < ((pkt_l : Nat) : Int)) ∧
            LdI .u8 (a_5.add 5) w6.drew fun x58 =>
            Pn pkt_b fun a_6 =>
            (0 ≤ (5 : Int) ∧ (5 : Int) < ((pkt_l : Nat) : Int)) ∧
            LdI .u8 (a_6.add 5) w6.drew fun x63 =>
            Bm (decide ((IntKind.i64.wrap ((IntKind.i64.wrap (IntKind.u8.wrap (BitVec.ofInt IntKind.u8.bits x58 &&& BitVec.ofInt IntKind.u8.bits (127 : Int)).toNat)) + (IntKind.i64.wrap x25))) > (40 : Int))) (
              LdI .i64 ⟨none0_, 0, none⟩ w6.drew fun x71_0 =>
              LdI .i64 ⟨none0_, 1, none⟩ w6.drew fun x71_1 =>
              LdI .i64 ⟨none0_, 2, none⟩ w6.drew fun x71_2 =>
              LdL ⟨none0_, 3, none⟩ w6.drew fun x71_3_b x71_3_l x71_3_c =>
              Sts [.int .i64 x71_0, .int .i64 x71_1, .int .i64 x71_2, .slice x71_3_b x71_3_l x71_3_c] ⟨b4, 0, none⟩ 0 w6.drew fun w10 =>
              LdI .i64 ⟨b4, 0, none⟩ w10 fun r_0_5 =>
              LdI .i64 ⟨b4, 1, none⟩ w10 fun r_1_5 =>
              LdI .i64 ⟨b4, 2, none⟩ w10 fun r_2_5 =>
              LdL ⟨b4, 3, none⟩ w10 fun r_3_b_5 r_3_l_5 r_3_c_5 =>
              R r_0_5 r_1_5 r_2_5 r_3_b_5 r_3_l_5 r_3_c_5 (2 : Int) w10) (
              Bm ((IntKind.i64.wrap x25) == (0 : Int)) (
                Bm ((IntKind.u8.wrap (BitVec.ofInt IntKind.u8.bits x63 &&& BitVec.ofInt IntKind.u8.bits (128 : Int)).toNat) != (0 : Int)) (
                  sB1 p pkt_b pkt_l pkt_c b4 none0_ (IntKind.i64.wrap (IntKind.u8.wrap (BitVec.ofInt IntKind.u8.bits x58 &&& BitVec.ofInt IntKind.u8.bits (127 : Int)).toNat)) ((IntKind.u8.wrap (BitVec.ofInt IntKind.u8.bits x63 &&& BitVec.ofInt IntKind.u8.bits (128 : Int)).toNat) != (0 : Int)) (IntKind.i64.wrap ((IntKind.i64.wrap (IntKind.u8.wrap (BitVec.ofInt IntKind.u8.bits x58 &&& BitVec.ofInt IntKind.u8.bits (127 : Int)).toNat)) + (IntKind.i64.wrap x25))) true w6.drew) (
                  sB1 p pkt_b pkt_l pkt_c b4 none0_ (IntKind.i64.wrap (IntKind.u8.wrap (BitVec.ofInt IntKind.u8.bits x58 &&& BitVec.ofInt IntKind.u8.bits (127 : Int)).toNat)) ((IntKind.u8.wrap (BitVec.ofInt IntKind.u8.bits x63 &&& BitVec.ofInt IntKind.u8.bits (128 : Int)).toNat) != (0 : Int)) (IntKind.i64.wrap ((IntKind.i64.wrap (IntKind.u8.wrap (BitVec.ofInt IntKind.u8.bits x58 &&& BitVec.ofInt IntKind.u8.bits (127 : Int)).toNat)) + (IntKind.i64.wrap x25))) (decide ((IntKind.i64.wrap (IntKind.u8.wrap (BitVec.ofInt IntKind.u8.bits x58 &&& BitVec.ofInt IntKind.u8.bits (127 : Int)).toNat)) > (0 : Int))) w6.drew)) (
                sB1 p pkt_b pkt_l pkt_c b4 none0_ (IntKind.i64.wrap (IntKind.u8.wrap (BitVec.ofInt IntKind.u8.bits x58 &&& BitVec.ofInt IntKind.u8.bits (127 : Int)).toNat)) ((IntKind.u8.wrap (BitVec.ofInt IntKind.u8.bits x63 &&& BitVec.ofInt IntKind.u8.bits (128 : Int)).toNat) != (0 : Int)) (IntKind.i64.wrap ((IntKind.i64.wrap (IntKind.u8.wrap (BitVec.ofInt IntKind.u8.bits x58 &&& BitVec.ofInt IntKind.u8.bits (127 : Int)).toNat)) + (IntKind.i64.wrap x25))) false w6.drew)))))))) = kstep Try.prog 214 Try.f43.results.toList (Try.f43.body.getD .skip) (ip_IP_Input.RV R) (kvc Try.prog 214 Try.f43.results.toList (Try.f43.body.getD .skip) (ip_IP_Input.RV R) [([(0, [1, 1, 1, 1, 1, 1, 1, 1, 1, 1, 1, 1, 1, 0, 1]), (0, [1, 1, 1, 1, 1, 1, 1, 1, 1, 1, 1, 1, 1, 1])], fun σ w => dP (slotOf σ 0) fun p_ => dL (slotOf σ 1) fun pkt_b_ pkt_l_ pkt_c_ => dK (slotOf σ 4) fun t4_ => dK (slotOf σ 6) fun none0_ => dI .i64 (slotOf σ 9) fun off_ => dB (slotOf σ 10) fun more_ => dI .i64 (slotOf σ 11) fun end0_ => dB (slotOf σ 80) fun t80_ => sB1 p_ pkt_b_ pkt_l_ pkt_c_ t4_ none0_ off_ more_ end0_ t80_ w)] 2000) [(0, [])] [(0, .pointer p), (1, .slice pkt_b pkt_l pkt_c)] w := by kernel_rfl
theorem ip_IP_Input.B0_sound {R : Int → Int → Int → Option Addr → Nat → Nat → Int → World → Prop}  (p pkt_b : Option Addr) (pkt_l pkt_c : Nat) (w : World) (h : ip_IP_Input.B0 p pkt_b pkt_l pkt_c w   R) :
    KW Try.prog 43 214 (ip_IP_Input.RV R) ([(0, [])].map (toItem (Try.f43.body.getD .skip))) [(0, .pointer p), (1, .slice pkt_b pkt_l pkt_c)] w := by
  exact block_spec Try.func43 Try.mixed (stops_cons (fun σ w h => by
      obtain ⟨p_, e0, h⟩ := dP_elim h
      obtain ⟨pkt_b_, pkt_l_, pkt_c_, e1, h⟩ := dL_elim h
      obtain ⟨t4_, e2, h⟩ := dK_elim h
      obtain ⟨none0_, e3, h⟩ := dK_elim h
      obtain ⟨off_, e4, h⟩ := dI_elim h
      obtain ⟨more_, e5, h⟩ := dB_elim h
      obtain ⟨end0_, e6, h⟩ := dI_elim h
      obtain ⟨t80_, e7, h⟩ := dB_elim h
      exact (ip_IP_Input.B1_sound  p_ pkt_b_ pkt_l_ pkt_c_ t4_ none0_ off_ more_ end0_ t80_ w h).weaken (Sub.cons (Sub.cons (Sub.cons (Sub.cons (Sub.cons (Sub.cons (Sub.cons (Sub.cons (Sub.nil _) e7) e6) e5) e4) e3) e2) e1) e0)) stops_nil) (Eq.mp (ip_IP_Input.B0_eq p pkt_b pkt_l pkt_c w   R (fun p_ pkt_b_ pkt_l_ pkt_c_ t4_ none0_ off_ more_ end0_ t80_ w => ip_IP_Input.B1 p_ pkt_b_ pkt_l_ pkt_c_ t4_ none0_ off_ more_ end0_ t80_ w  R)) h)
theorem ip_IP_Input.sound (p pkt_b : Option Addr) (pkt_l pkt_c : Nat) (w : World) (R : Int → Int → Int → Option Addr → Nat → Nat → Int → World → Prop) (h : ip_IP_Input.B0 p pkt_b pkt_l pkt_c w R) : ip_IP_Input.Call p pkt_b pkt_l pkt_c w R := by
  have hc := calls_of_block (args := #[.pointer p, .slice pkt_b pkt_l pkt_c]) Try.func43 (body := (Try.f43.body.getD .skip)) (by kernel_rfl) (by kernel_rfl) (args_slot _) (ip_IP_Input.B0_sound p pkt_b pkt_l pkt_c w h)
  exact hc.mono fun e w' he => by
    obtain ⟨v, rfl, hv⟩ := he
    exact ip_IP_Input.RV_elim hv
def ipm_IP_Input.L5b (p : Option Addr) (t4 : Nat) (proto src i total : Int) (data_b : Option Addr) (data_l data_c : Nat) (k : Int) (w : World)  (N5 : Option Addr → Nat → Int → Int → Int → Int → Option Addr → Nat → Nat → Int → World → Prop) (R : Int → Int → Int → Option Addr → Nat → Nat → Int → World → Prop) : Prop :=
  Bm (decide (k < total)) (
    Pn p fun a =>
    LdL (a.add 3) w fun x325_b x325_l x325_c =>
    Pn x325_b fun a_1 =>
    (0 ≤ i ∧ i < ((x325_l : Nat) : Int)) ∧
    LdL ((Addr.add a_1 (i.toNat * 6)).add 5) w fun x329_b x329_l x329_c =>
    Pn x329_b fun a_2 =>
    (0 ≤ k ∧ k < ((x329_l : Nat) : Int)) ∧
    LdI .i64 (Addr.add a_2 (k.toNat * 1)) w fun x332 =>
    Pn data_b fun a_3 =>
    (0 ≤ k ∧ k < ((data_l : Nat) : Int)) ∧
    Sts [.int .u8 (IntKind.u8.wrap x332)] (Addr.add a_3 (k.toNat * 1)) 0 w fun w1 =>
    N5 p t4 proto src i total data_b data_l data_c (IntKind.i64.wrap (k + (1 : Int))) w1) (
    Pn p fun a_4 =>
    LdI .i64 a_4 w fun x339 =>
    New (.cells #[.int .i64 (0 : Int), .int .i64 (0 : Int), .int .i64 (0 : Int), .slice none 0 0] 81) w fun d_ w2 =>
    Sts [.int .i64 src, .int .i64 x339, .int .i64 proto, .slice data_b data_l data_c] ⟨d_, 0, none⟩ 0 w2 fun w3 =>
    ipm_IP_remove.Call p i w3 fun w4 =>
    LdI .i64 ⟨d_, 0, none⟩ w4 fun x346_0 =>
    LdI .i64 ⟨d_, 1, none⟩ w4 fun x346_1 =>
    LdI .i64 ⟨d_, 2, none⟩ w4 fun x346_2 =>
    LdL ⟨d_, 3, none⟩ w4 fun x346_3_b x346_3_l x346_3_c =>
    Sts [.int .i64 x346_0, .int .i64 x346_1, .int .i64 x346_2, .slice x346_3_b x346_3_l x346_3_c] ⟨t4, 0, none⟩ 0 w4 fun w5 =>
    LdI .i64 ⟨t4, 0, none⟩ w5 fun r_0 =>
    LdI .i64 ⟨t4, 1, none⟩ w5 fun r_1 =>
    LdI .i64 ⟨t4, 2, none⟩ w5 fun r_2 =>
    LdL ⟨t4, 3, none⟩ w5 fun r_3_b r_3_l r_3_c =>
    R r_0 r_1 r_2 r_3_b r_3_l r_3_c (0 : Int) w5)
theorem ipm_IP_Input.L5b_eq (p : Option Addr) (t4 : Nat) (proto src i total : Int) (data_b : Option Addr) (data_l data_c : Nat) (k : Int) (w : World)  (N5 : Option Addr → Nat → Int → Int → Int → Int → Option Addr → Nat → Nat → Int → World → Prop) (R : Int → Int → Int → Option Addr → Nat → Nat → Int → World → Prop)  :
    (
  Bm (decide (k < total)) (
    Pn p fun a =>
    LdL (a.add 3) w fun x325_b x325_l x325_c =>
    Pn x325_b fun a_1 =>
    (0 ≤ i ∧ i < ((x325_l : Nat) : Int)) ∧
    LdL ((Addr.add a_1 (i.toNat * 6)).add 5) w fun x329_b x329_l x329_c =>
    Pn x329_b fun a_2 =>
    (0 ≤ k ∧ k < ((x329_l : Nat) : Int)) ∧
    LdI .i64 (Addr.add a_2 (k.toNat * 1)) w fun x332 =>
    Pn data_b fun a_3 =>
    (0 ≤ k ∧ k < ((data_l : Nat) : Int)) ∧
    Sts [.int .u8 (IntKind.u8.wrap x332)] (Addr.add a_3 (k.toNat * 1)) 0 w fun w1 =>
    N5 p t4 proto src i total data_b data_l data_c (IntKind.i64.wrap (k + (1 : Int))) w1) (
    Pn p fun a_4 =>
    LdI .i64 a_4 w fun x339 =>
    New (.cells #[.int .i64 (0 : Int), .int .i64 (0 : Int), .int .i64 (0 : Int), .slice none 0 0] 81) w fun d_ w2 =>
    Sts [.int .i64 src, .int .i64 x339, .int .i64 proto, .slice data_b data_l data_c] ⟨d_, 0, none⟩ 0 w2 fun w3 =>
    ipm_IP_remove.Call p i w3 fun w4 =>
    LdI .i64 ⟨d_, 0, none⟩ w4 fun x346_0 =>
    LdI .i64 ⟨d_, 1, none⟩ w4 fun x346_1 =>
    LdI .i64 ⟨d_, 2, none⟩ w4 fun x346_2 =>
    LdL ⟨d_, 3, none⟩ w4 fun x346_3_b x346_3_l x346_3_c =>
    Sts [.int .i64 x346_0, .int .i64 x346_1, .int .i64 x346_2, .slice x346_3_b x346_3_l x346_3_c] ⟨t4, 0, none⟩ 0 w4 fun w5 =>
    LdI .i64 ⟨t4, 0, none⟩ w5 fun r_0 =>
    LdI .i64 ⟨t4, 1, none⟩ w5 fun r_1 =>
    LdI .i64 ⟨t4, 2, none⟩ w5 fun r_2 =>
    LdL ⟨t4, 3, none⟩ w5 fun r_3_b r_3_l r_3_c =>
    R r_0 r_1 r_2 r_3_b r_3_l r_3_c (0 : Int) w5)) = kstep Try.prog 347 Try.f44.results.toList (Try.f44.body.getD .skip) (ipm_IP_Input.RV R) (kvc Try.prog 347 Try.f44.results.toList (Try.f44.body.getD .skip) (ipm_IP_Input.RV R) [([(0, [1, 1, 1, 1, 1, 1, 1, 1, 1, 1, 1, 1, 1, 1, 1, 1, 1, 1, 1, 1, 1, 1, 1, 0, 1, 0, 0]), (2, [1, 1, 1, 1, 1, 1, 1, 1, 1, 1, 1, 1, 1, 1, 1, 1, 1, 1, 1, 1, 1, 1, 1, 0, 1, 0, 0]), (1, [8]), (0, [1, 1, 1, 1, 1, 1, 1, 1, 1, 1, 1, 1, 1, 1, 1, 1, 1, 1, 1, 1, 1, 1, 1, 1])], fun σ w => dP (slotOf σ 0) fun p_ => dK (slotOf σ 4) fun t4_ => dI .i64 (slotOf σ 8) fun proto_ => dI .i64 (slotOf σ 9) fun src_ => dI .i64 (slotOf σ 13) fun i_ => dI .i64 (slotOf σ 19) fun total_ => dL (slotOf σ 20) fun data_b_ data_l_ data_c_ => dI .i64 (slotOf σ 21) fun k_ => N5 p_ t4_ proto_ src_ i_ total_ data_b_ data_l_ data_c_ k_ w)] 2000) [(0, [1, 1, 1, 1, 1, 1, 1, 1, 1, 1, 1, 1, 1, 1, 1, 1, 1, 1, 1, 1, 1, 1, 1, 0, 1, 0, 0]), (2, [1, 1, 1, 1, 1, 1, 1, 1, 1, 1, 1, 1, 1, 1, 1, 1, 1, 1, 1, 1, 1, 1, 1, 0, 1, 0, 0]), (1, [8]), (0, [1, 1, 1, 1, 1, 1, 1, 1, 1, 1, 1, 1, 1, 1, 1, 1, 1, 1, 1, 1, 1, 1, 1, 1])] [(0, .pointer p), (4, .pointer (some ⟨t4, 0, none⟩)), (8, .int .i64 proto), (9, .int .i64 src), (13, .int .i64 i), (19, .int .i64 total), (20, .slice data_b data_l data_c), (21, .int .i64 k)] w := by kernel_rfl
theorem ipm_IP_Input.L5b_sound {R : Int → Int → Int → Option Addr → Nat → Nat → Int → World → Prop} {N5 : Option Addr → Nat → Int → Int → Int → Int → Option Addr → Nat → Nat → Int → World → Prop} (hN5 : ∀ p t4 proto src i total data_b data_l data_c k w, N5 p t4 proto src i total data_b data_l data_c k w → KW Try.prog 44 347 (ipm_IP_Input.RV R) ([(0, [1, 1, 1, 1, 1, 1, 1, 1, 1, 1, 1, 1, 1, 1, 1, 1, 1, 1, 1, 1, 1, 1, 1, 0, 1, 0, 0]), (2, [1, 1, 1, 1, 1, 1, 1, 1, 1, 1, 1, 1, 1, 1, 1, 1, 1, 1, 1, 1, 1, 1, 1, 0, 1, 0, 0]), (1, [8]), (0, [1, 1, 1, 1, 1, 1, 1, 1, 1, 1, 1, 1, 1, 1, 1, 1, 1, 1, 1, 1, 1, 1, 1, 1])].map (toItem (Try.f44.body.getD .skip))) [(0, .pointer p), (4, .pointer (some ⟨t4, 0, none⟩)), (8, .int .i64 proto), (9, .int .i64 src), (13, .int .i64 i), (19, .int .i64 total), (20, .slice data_b data_l data_c), (21, .int .i64 k)] w) (p : Option Addr) (t4 : Nat) (proto src i total : Int) (data_b : Option Addr) (data_l data_c : Nat) (k : Int) (w : World) (h : ipm_IP_Input.L5b p t4 proto src i total data_b data_l data_c k w  N5 R) :
    KW Try.prog 44 347 (ipm_IP_Input.RV R) ([(0, [1, 1, 1, 1, 1, 1, 1, 1, 1, 1, 1, 1, 1, 1, 1, 1, 1, 1, 1, 1, 1, 1, 1, 0, 1, 0, 0]), (2, [1, 1, 1, 1, 1, 1, 1, 1, 1, 1, 1, 1, 1, 1, 1, 1, 1, 1, 1, 1, 1, 1, 1, 0, 1, 0, 0]), (1, [8]), (0, [1, 1, 1, 1, 1, 1, 1, 1, 1, 1, 1, 1, 1, 1, 1, 1, 1, 1, 1, 1, 1, 1, 1, 1])].map (toItem (Try.f44.body.getD .skip))) [(0, .pointer p), (4, .pointer (some ⟨t4, 0, none⟩)), (8, .int .i64 proto), (9, .int .i64 src), (13, .int .i64 i), (19, .int .i64 total), (20, .slice data_b data_l data_c), (21, .int .i64 k)] w := by
  exact block_spec Try.func44 Try.mixed (stops_cons (fun σ w h => by
      obtain ⟨p_, e0, h⟩ := dP_elim h
      obtain ⟨t4_, e1, h⟩ := dK_elim h
      obtain ⟨proto_, e2, h⟩ := dI_elim h
      obtain ⟨src_, e3, h⟩ := dI_elim h
      obtain ⟨i_, e4, h⟩ := dI_elim h
      obtain ⟨total_, e5, h⟩ := dI_elim h
      obtain ⟨data_b_, data_l_, data_c_, e6, h⟩ := dL_elim h
      obtain ⟨k_, e7, h⟩ := dI_elim h
      exact (hN5 p_ t4_ proto_ src_ i_ total_ data_b_ data_l_ data_c_ k_ w h).weaken (Sub.cons (Sub.cons (Sub.cons (Sub.cons (Sub.cons (Sub.cons (Sub.cons (Sub.cons (Sub.nil _) e7) e6) e5) e4) e3) e2) e1) e0)) stops_nil) (Eq.mp (ipm_IP_Input.L5b_eq p t4 proto src i total data_b data_l data_c k w  N5 R ) h)
def ipm_IP_Input.L5 (p : Option Addr) (t4 : Nat) (proto src i total : Int) (data_b : Option Addr) (data_l data_c : Nat) (k : Int) (w : World)  (R : Int → Int → Int → Option Addr → Nat → Nat → Int → World → Prop) : Prop :=
  ∃ (I : Nat → Option Addr → Nat → Int → Int → Int → Int → Option Addr → Nat → Nat → Int → World → Prop) (m : Nat), I m p t4 proto src i total data_b data_l data_c k w ∧ ∀ m p t4 proto src i total data_b data_l data_c k w, I m p t4 proto src i total data_b data_l data_c k w → ipm_IP_Input.L5b p t4 proto src i total data_b data_l data_c k w  (fun p' t4' proto' src' i' total' data_b' data_l' data_c' k' w' => ∃ m', m' < m ∧ I m' p' t4' proto' src' i' total' data_b' data_l' data_c' k' w') R
theorem ipm_IP_Input.L5_sound {R : Int → Int → Int → Option Addr → Nat → Nat → Int → World → Prop}  (p : Option Addr) (t4 : Nat) (proto src i total : Int) (data_b : Option Addr) (data_l data_c : Nat) (k : Int) (w : World) (h : ipm_IP_Input.L5 p t4 proto src i total data_b data_l data_c k w  R) :
    KW Try.prog 44 347 (ipm_IP_Input.RV R) ([(0, [1, 1, 1, 1, 1, 1, 1, 1, 1, 1, 1, 1, 1, 1, 1, 1, 1, 1, 1, 1, 1, 1, 1, 0, 1, 0, 0]), (2, [1, 1, 1, 1, 1, 1, 1, 1, 1, 1, 1, 1, 1, 1, 1, 1, 1, 1, 1, 1, 1, 1, 1, 0, 1, 0, 0]), (1, [8]), (0, [1, 1, 1, 1, 1, 1, 1, 1, 1, 1, 1, 1, 1, 1, 1, 1, 1, 1, 1, 1, 1, 1, 1, 1])].map (toItem (Try.f44.body.getD .skip))) [(0, .pointer p), (4, .pointer (some ⟨t4, 0, none⟩)), (8, .int .i64 proto), (9, .int .i64 src), (13, .int .i64 i), (19, .int .i64 total), (20, .slice data_b data_l data_c), (21, .int .i64 k)] w := by
  obtain ⟨I, m, h0, hr⟩ := h
  refine KW.loop (fun m σ w => ∃ (p : Option Addr) (t4 : Nat) (proto src i total : Int) (data_b : Option Addr) (data_l data_c : Nat) (k : Int), σ = [(0, .pointer p), (4, .pointer (some ⟨t4, 0, none⟩)), (8, .int .i64 proto), (9, .int .i64 src), (13, .int .i64 i), (19, .int .i64 total), (20, .slice data_b data_l data_c), (21, .int .i64 k)] ∧ I m p t4 proto src i total data_b data_l data_c k w) ?_ m _ w ⟨p, t4, proto, src, i, total, data_b, data_l, data_c, k, rfl, h0⟩
  rintro m ih σ w ⟨p, t4, proto, src, i, total, data_b, data_l, data_c, k, rfl, hI⟩
  exact ipm_IP_Input.L5b_sound  (N5 := fun p' t4' proto' src' i' total' data_b' data_l' data_c' k' w' => ∃ m', m' < m ∧ I m' p' t4' proto' src' i' total' data_b' data_l' data_c' k' w') (fun p' t4' proto' src' i' total' data_b' data_l' data_c' k' w' hx => by obtain ⟨m', hlt, hI'⟩ := hx; exact ih m' hlt _ w' ⟨p', t4', proto', src', i', total', data_b', data_l', data_c', k', rfl, hI'⟩) p t4 proto src i total data_b data_l data_c k w (hr m p t4 proto src i total data_b data_l data_c k w hI)
def ipm_IP_Input.B8 (p : Option Addr) (t4 none0 : Nat) (proto src i total : Int) (t311 : Bool) (w : World)   (R : Int → Int → Int → Option Addr → Nat → Nat → Int → World → Prop) : Prop :=
  Bm t311 (
    LdI .i64 ⟨none0, 0, none⟩ w fun x312_0 =>
    LdI .i64 ⟨none0, 1, none⟩ w fun x312_1 =>
    LdI .i64 ⟨none0, 2, none⟩ w fun x312_2 =>
    LdL ⟨none0, 3, none⟩ w fun x312_3_b x312_3_l x312_3_c =>
    Sts [.int .i64 x312_0, .int .i64 x312_1, .int .i64 x312_2, .slice x312_3_b x312_3_l x312_3_c] ⟨t4, 0, none⟩ 0 w fun w1 =>
    LdI .i64 ⟨t4, 0, none⟩ w1 fun r_0 =>
    LdI .i64 ⟨t4, 1, none⟩ w1 fun r_1 =>
    LdI .i64 ⟨t4, 2, none⟩ w1 fun r_2 =>
    LdL ⟨t4, 3, none⟩ w1 fun r_3_b r_3_l r_3_c =>
    R r_0 r_1 r_2 r_3_b r_3_l r_3_c (10 : Int) w1) (
    Make 5 (.int .u8 (0 : Int)) 1 1 total total w fun b314 w2 =>
    ipm_IP_Input.L5 p t4 proto src i total (some ⟨b314, 0, none⟩) total.toNat total.toNat (0 : Int) w2  R)
theorem ipm_IP_Input.B8_eq (p : Option Addr) (t4 none0 : Nat) (proto src i total : Int) (t311 : Bool) (w : World)   (R : Int → Int → Int → Option Addr → Nat → Nat → Int → World → Prop) (sL5 : Option Addr → Nat → Int → Int → Int → Int → Option Addr → Nat → Nat → Int → World → Prop) :
    (
  Bm t311 (
    LdI .i64 ⟨none0, 0, none⟩ w fun x312_0 =>
    LdI .i64 ⟨none0, 1, none⟩ w fun x312_1 =>
    LdI .i64 ⟨none0, 2, none⟩ w fun x312_2 =>
    LdL ⟨none0, 3, none⟩ w fun x312_3_b x312_3_l x312_3_c =>
    Sts [.int .i64 x312_0, .int .i64 x312_1, .int .i64 x312_2, .slice x312_3_b x312_3_l x312_3_c] ⟨t4, 0, none⟩ 0 w fun w1 =>
    LdI .i64 ⟨t4, 0, none⟩ w1 fun r_0 =>
    LdI .i64 ⟨t4, 1, none⟩ w1 fun r_1 =>
    LdI .i64 ⟨t4, 2, none⟩ w1 fun r_2 =>
    LdL ⟨t4, 3, none⟩ w1 fun r_3_b r_3_l r_3_c =>
    R r_0 r_1 r_2 r_3_b r_3_l r_3_c (10 : Int) w1) (
    Make 5 (.int .u8 (0 : Int)) 1 1 total total w fun b314 w2 =>
    sL5 p t4 proto src i total (some ⟨b314, 0, none⟩) total.toNat total.toNat (0 : Int) w2)) = kstep Try.prog 347 Try.f44.results.toList (Try.f44.body.getD .skip) (ipm_IP_Input.RV R) (kvc Try.prog 347 Try.f44.results.toList (Try.f44.body.getD .skip) (ipm_IP_Input.RV R) [([(0, [1, 1, 1, 1, 1, 1, 1, 1, 1, 1, 1, 1, 1, 1, 1, 1, 1, 1, 1, 1, 1, 1, 1, 0, 1, 0, 0]), (2, [1, 1, 1, 1, 1, 1, 1, 1, 1, 1, 1, 1, 1, 1, 1, 1, 1, 1, 1, 1, 1, 1, 1, 0, 1, 0, 0]), (1, [8]), (0, [1, 1, 1, 1, 1, 1, 1, 1, 1, 1, 1, 1, 1, 1, 1, 1, 1, 1, 1, 1, 1, 1, 1, 1])], fun σ w => dP (slotOf σ 0) fun p_ => dK (slotOf σ 4) fun t4_ => dI .i64 (slotOf σ 8) fun proto_ => dI .i64 (slotOf σ 9) fun src_ => dI .i64 (slotOf σ 13) fun i_ => dI .i64 (slotOf σ 19) fun total_ => dL (slotOf σ 20) fun data_b_ data_l_ data_c_ => dI .i64 (slotOf σ 21) fun k_ => sL5 p_ t4_ proto_ src_ i_ total_ data_b_ data_l_ data_c_ k_ w)] 2000) [(0, [1, 1, 1, 1, 1, 1, 1, 1, 1, 1, 1, 1, 1, 1, 1, 1, 1, 1, 1, 1, 1, 0, 1]), (0, [1, 1, 1, 1, 1, 1, 1, 1, 1, 1, 1, 1, 1, 1, 1, 1, 1, 1, 1, 1, 1, 1])] [(0, .pointer p), (4, .pointer (some ⟨t4, 0, none⟩)), (6, .pointer (some ⟨none0, 0, none⟩)), (8, .int .i64 proto), (9, .int .i64 src), (13, .int .i64 i), (19, .int .i64 total), (311, .bool t311)] w := by kernel_rfl
theorem ipm_IP_Input.B8_sound {R : Int → Int → Int → Option Addr → Nat → Nat → Int → World → Prop}  (p : Option Addr) (t4 none0 : Nat) (proto src i total : Int) (t311 : Bool) (w : World) (h : ipm_IP_Input.B8 p t4 none0 proto src i total t311 w   R) :
    KW Try.prog 44 347 (ipm_IP_Input.RV R) ([(0, [1, 1, 1, 1, 1, 1, 1, 1, 1, 1, 1, 1, 1, 1, 1, 1, 1, 1, 1, 1, 1, 0, 1]), (0, [1, 1, 1, 1, 1, 1, 1, 1, 1, 1, 1, 1, 1, 1, 1, 1, 1, 1, 1, 1, 1, 1])].map (toItem (Try.f44.body.getD .skip))) [(0, .pointer p), (4, .pointer (some ⟨t4, 0, none⟩)), (6, .pointer (some ⟨none0, 0, none⟩)), (8, .int .i64 proto), (9, .int .i64 src), (13, .int .i64 i), (19, .int .i64 total), (311, .bool t311)] w := by
  exact block_spec Try.func44 Try.mixed (stops_cons (fun σ w h => by
      obtain ⟨p_, e0, h⟩ := dP_elim h
      obtain ⟨t4_, e1, h⟩ := dK_elim h
      obtain ⟨proto_, e2, h⟩ := dI_elim h
      obtain ⟨src_, e3, h⟩ := dI_elim h
      obtain ⟨i_, e4, h⟩ := dI_elim h
      obtain ⟨total_, e5, h⟩ := dI_elim h
      obtain ⟨data_b_, data_l_, data_c_, e6, h⟩ := dL_elim h
      obtain ⟨k_, e7, h⟩ := dI_elim h
      exact (ipm_IP_Input.L5_sound  p_ t4_ proto_ src_ i_ total_ data_b_ data_l_ data_c_ k_ w h).weaken (Sub.cons (Sub.cons (Sub.cons (Sub.cons (Sub.cons (Sub.cons (Sub.cons (Sub.cons (Sub.nil _) e7) e6) e5) e4) e3) e2) e1) e0)) stops_nil) (Eq.mp (ipm_IP_Input.B8_eq p t4 none0 proto src i total t311 w   R (fun p_ t4_ proto_ src_ i_ total_ data_b_ data_l_ data_c_ k_ w => ipm_IP_Input.L5 p_ t4_ proto_ src_ i_ total_ data_b_ data_l_ data_c_ k_ w  R)) h)
def ipm_IP_Input.L4b (p pkt_b : Option Addr) (pkt_l pkt_c t4 none0 : Nat) (n proto src off i k : Int) (w : World)  (N4 : Option Addr → Option Addr → Nat → Nat → Nat → Nat → Int → Int → Int → Int → Int → Int → World → Prop) (R : Int → Int → Int → Option Addr → Nat → Nat → Int → World → Prop) : Prop :=
  Bm (decide (k < n)) (
    Pn p fun a =>
    LdL (a.add 3) w.drew fun x280_b x280_l x280_c =>
    Pn x280_b fun a_1 =>
    (0 ≤ i ∧ i < ((x280_l : Nat) : Int)) ∧
    LdL ((Addr.add a_1 (i.toNat * 6)).add 5) w.drew fun x284_b x284_l x284_c =>
    Pn pkt_b fun a_2 =>
    (0 ≤ (IntKind.i64.wrap ((8 : Int) + k)) ∧ (IntKind.i64.wrap ((8 : Int) + k)) < ((pkt_l : Nat) : Int)) ∧
    LdI .u8 (Addr.add a_2 ((IntKind.i64.wrap ((8 : Int) + k)).toNat * 1)) w.drew fun x292 =>
    Pn x284_b fun a_3 =>
    (0 ≤ (IntKind.i64.wrap (off + k)) ∧ (IntKind.i64.wrap (off + k)) < ((x284_l : Nat) : Int)) ∧
    Sts [.int .i64 (IntKind.i64.wrap x292)] (Addr.add a_3 ((IntKind.i64.wrap (off + k)).toNat * 1)) 0 w.drew fun w1 =>
    N4 p pkt_b pkt_l pkt_c t4 none0 n proto src off i (IntKind.i64.wrap (k + (1 : Int))) w1) (
    Pn p fun a_4 =>
    LdL (a_4.add 3) w fun x298_b x298_l x298_c =>
    Pn x298_b fun a_5 =>
    (0 ≤ i ∧ i < ((x298_l : Nat) : Int)) ∧
    LdI .i64 ((Addr.add a_5 (i.toNat * 6)).add 4) w fun x302 =>
    Bm (decide (x302 < (0 : Int))) (
      ipm_IP_Input.B8 p t4 none0 proto src i x302 true w  R) (
      ipm_IP_have.Call p i w fun r308 w2 =>
      ipm_IP_Input.B8 p t4 none0 proto src i x302 (decide (r308 < x302)) w2  R))
theorem ipm_IP_Input.L4b_eq (p pkt_b : Option Addr) (pkt_l pkt_c t4 none0 : Nat) (n proto src off i k : Int) (w : World)  (N4 : Option Addr → Option Addr → Nat → Nat → Nat → Nat → Int → Int → Int → Int → Int → Int → World → Prop) (R : Int → Int → Int → Option Addr → Nat → Nat → Int → World → Prop) (sB8 : Option Addr → Nat → Nat → Int → Int → Int → Int → Bool → World → Prop) :
    (
  Bm (decide (k < n)) (
    Pn p fun a =>
    LdL (a.add 3) w.drew fun x280_b x280_l x280_c =>
    Pn x280_b fun a_1 =>
    (0 ≤ i ∧ i < ((x280_l : Nat) : Int)) ∧
    LdL ((Addr.add a_1 (i.toNat * 6)).add 5) w.drew fun x284_b x284_l x284_c =>
    Pn pkt_b fun a_2 =>
    (0 ≤ (IntKind.i64.wrap ((8 : Int) + k)) ∧ (IntKind.i64.wrap ((8 : Int) + k)) < ((pkt_l : Nat) : Int)) ∧
    LdI .u8 (Addr.add a_2 ((IntKind.i64.wrap ((8 : Int) + k)).toNat * 1)) w.drew fun x292 =>
    Pn x284_b fun a_3 =>
    (0 ≤ (IntKind.i64.wrap (off + k)) ∧ (IntKind.i64.wrap (off + k)) < ((x284_l : Nat) : Int)) ∧
    Sts [.int .i64 (IntKind.i64.wrap x292)] (Addr.add a_3 ((IntKind.i64.wrap (off + k)).toNat * 1)) 0 w.drew fun w1 =>
    N4 p pkt_b pkt_l pkt_c t4 none0 n proto src off i (IntKind.i64.wrap (k + (1 : Int))) w1) (
    Pn p fun a_4 =>
    LdL (a_4.add 3) w fun x298_b x298_l x298_c =>
    Pn x298_b fun a_5 =>
    (0 ≤ i ∧ i < ((x298_l : Nat) : Int)) ∧
    LdI .i64 ((Addr.add a_5 (i.toNat * 6)).add 4) w fun x302 =>
    Bm (decide (x302 < (0 : Int))) (
      sB8 p t4 none0 proto src i x302 true w) (
      ipm_IP_have.Call p i w fun r308 w2 =>
      sB8 p t4 none0 proto src i x302 (decide (r308 < x302)) w2))) = kstep Try.prog 347 Try.f44.results.toList (Try.f44.body.getD .skip) (ipm_IP_Input.RV R) (kvc Try.prog 347 Try.f44.results.toList (Try.f44.body.getD .skip) (ipm_IP_Input.RV R) [([(0, [1, 1, 1, 1, 1, 1, 1, 1, 1, 1, 1, 1, 1, 1, 1, 1, 1, 1, 1, 0, 1, 0, 0]), (2, [1, 1, 1, 1, 1, 1, 1, 1, 1, 1, 1, 1, 1, 1, 1, 1, 1, 1, 1, 0, 1, 0, 0]), (1, [6]), (0, [1, 1, 1, 1, 1, 1, 1, 1, 1, 1, 1, 1, 1, 1, 1, 1, 1, 1, 1, 1])], fun σ w => dP (slotOf σ 0) fun p_ => dL (slotOf σ 1) fun pkt_b_ pkt_l_ pkt_c_ => dK (slotOf σ 4) fun t4_ => dK (slotOf σ 6) fun none0_ => dI .i64 (slotOf σ 7) fun n_ => dI .i64 (slotOf σ 8) fun proto_ => dI .i64 (slotOf σ 9) fun src_ => dI .i64 (slotOf σ 11) fun off_ => dI .i64 (slotOf σ 13) fun i_ => dI .i64 (slotOf σ 18) fun k_ => N4 p_ pkt_b_ pkt_l_ pkt_c_ t4_ none0_ n_ proto_ src_ off_ i_ k_ w),
    ([(0, [1, 1, 1, 1, 1, 1, 1, 1, 1, 1, 1, 1, 1, 1, 1, 1, 1, 1, 1, 1, 1, 0, 1]), (0, [1, 1, 1, 1, 1, 1, 1, 1, 1, 1, 1, 1, 1, 1, 1, 1, 1, 1, 1, 1, 1, 1])], fun σ w => dP (slotOf σ 0) fun p_ => dK (slotOf σ 4) fun t4_ => dK (slotOf σ 6) fun none0_ => dI .i64 (slotOf σ 8) fun proto_ => dI .i64 (slotOf σ 9) fun src_ => dI .i64 (slotOf σ 13) fun i_ => dI .i64 (slotOf σ 19) fun total_ => dB (slotOf σ 311) fun t311_ => sB8 p_ t4_ none0_ proto_ src_ i_ total_ t311_ w)] 2000) [(0, [1, 1, 1, 1, 1, 1, 1, 1, 1, 1, 1, 1, 1, 1, 1, 1, 1, 1, 1, 0, 1, 0, 0]), (2, [1, 1, 1, 1, 1, 1, 1, 1, 1, 1, 1, 1, 1, 1, 1, 1, 1, 1, 1, 0, 1, 0, 0]), (1, [6]), (0, [1, 1, 1, 1, 1, 1, 1, 1, 1, 1, 1, 1, 1, 1, 1, 1, 1, 1, 1, 1])] [(0, .pointer p), (1, .slice pkt_b pkt_l pkt_c), (4, .pointer (some ⟨t4, 0, none⟩)), (6, .pointer (some ⟨none0, 0, none⟩)), (7, .int .i64 n), (8, .int .i64 proto), (9, .int .i64 src), (11, .int .i64 off), (13, .int .i64 i), (18, .int .i64 k)] w := by kernel_rfl
theorem ipm_IP_Input.L4b_sound {R : Int → Int → Int → Option Addr → Nat → Nat → Int → World → Prop} {N4 : Option Addr → Option Addr → Nat → Nat → Nat → Nat → Int → Int → Int → Int → Int → Int → World → Prop} (hN4 : ∀ p pkt_b pkt_l pkt_c t4 none0 n proto src off i k w, N4 p pkt_b pkt_l pkt_c t4 none0 n proto src off i k w → KW Try.prog 44 347 (ipm_IP_Input.RV R) ([(0, [1, 1, 1, 1, 1, 1, 1, 1, 1, 1, 1, 1, 1, 1, 1, 1, 1, 1, 1, 0, 1, 0, 0]), (2, [1, 1, 1, 1, 1, 1, 1, 1, 1, 1, 1, 1, 1, 1, 1, 1, 1, 1, 1, 0, 1, 0, 0]), (1, [6]), (0, [1, 1, 1, 1, 1, 1, 1, 1, 1, 1, 1, 1, 1, 1, 1, 1, 1, 1, 1, 1])].map (toItem (Try.f44.body.getD .skip))) [(0, .pointer p), (1, .slice pkt_b pkt_l pkt_c), (4, .pointer (some ⟨t4, 0, none⟩)), (6, .pointer (some ⟨none0, 0, none⟩)), (7, .int .i64 n), (8, .int .i64 proto), (9, .int .i64 src), (11, .int .i64 off), (13, .int .i64 i), (18, .int .i64 k)] w) (p pkt_b : Option Addr) (pkt_l pkt_c t4 none0 : Nat) (n proto src off i k : Int) (w : World) (h : ipm_IP_Input.L4b p pkt_b pkt_l pkt_c t4 none0 n proto src off i k w  N4 R) :
    KW Try.prog 44 347 (ipm_IP_Input.RV R) ([(0, [1, 1, 1, 1, 1, 1, 1, 1, 1, 1, 1, 1, 1, 1, 1, 1, 1, 1, 1, 0, 1, 0, 0]), (2, [1, 1, 1, 1, 1, 1, 1, 1, 1, 1, 1, 1, 1, 1, 1, 1, 1, 1, 1, 0, 1, 0, 0]), (1, [6]), (0, [1, 1, 1, 1, 1, 1, 1, 1, 1, 1, 1, 1, 1, 1, 1, 1, 1, 1, 1, 1])].map (toItem (Try.f44.body.getD .skip))) [(0, .pointer p), (1, .slice pkt_b pkt_l pkt_c), (4, .pointer (some ⟨t4, 0, none⟩)), (6, .pointer (some ⟨none0, 0, none⟩)), (7, .int .i64 n), (8, .int .i64 proto), (9, .int .i64 src), (11, .int .i64 off), (13, .int .i64 i), (18, .int .i64 k)] w := by
  exact block_spec Try.func44 Try.mixed (stops_cons (fun σ w h => by
      obtain ⟨p_, e0, h⟩ := dP_elim h
      obtain ⟨pkt_b_, pkt_l_, pkt_c_, e1, h⟩ := dL_elim h
      obtain ⟨t4_, e2, h⟩ := dK_elim h
      obtain ⟨none0_, e3, h⟩ := dK_elim h
      obtain ⟨n_, e4, h⟩ := dI_elim h
      obtain ⟨proto_, e5, h⟩ := dI_elim h
      obtain ⟨src_, e6, h⟩ := dI_elim h
      obtain ⟨off_, e7, h⟩ := dI_elim h
      obtain ⟨i_, e8, h⟩ := dI_elim h
      obtain ⟨k_, e9, h⟩ := dI_elim h
      exact (hN4 p_ pkt_b_ pkt_l_ pkt_c_ t4_ none0_ n_ proto_ src_ off_ i_ k_ w h).weaken (Sub.cons (Sub.cons (Sub.cons (Sub.cons (Sub.cons (Sub.cons (Sub.cons (Sub.cons (Sub.cons (Sub.cons (Sub.nil _) e9) e8) e7) e6) e5) e4) e3) e2) e1) e0)) (stops_cons (fun σ w h => by
      obtain ⟨p_, e0, h⟩ := dP_elim h
      obtain ⟨t4_, e1, h⟩ := dK_elim h
      obtain ⟨none0_, e2, h⟩ := dK_elim h
      obtain ⟨proto_, e3, h⟩ := dI_elim h
      obtain ⟨src_, e4, h⟩ := dI_elim h
      obtain ⟨i_, e5, h⟩ := dI_elim h
      obtain ⟨total_, e6, h⟩ := dI_elim h
      obtain ⟨t311_, e7, h⟩ := dB_elim h
      exact (ipm_IP_Input.B8_sound  p_ t4_ none0_ proto_ src_ i_ total_ t311_ w h).weaken (Sub.cons (Sub.cons (Sub.cons (Sub.cons (Sub.cons (Sub.cons (Sub.cons (Sub.cons (Sub.nil _) e7) e6) e5) e4) e3) e2) e1) e0)) stops_nil)) (Eq.mp (ipm_IP_Input.L4b_eq p pkt_b pkt_l pkt_c t4 none0 n proto src off i k w  N4 R (fun p_ t4_ none0_ proto_ src_ i_ total_ t311_ w => ipm_IP_Input.B8 p_ t4_ none0_ proto_ src_ i_ total_ t311_ w  R)) h)
def ipm_IP_Input.L4 (p pkt_b : Option Addr) (pkt_l pkt_c t4 none0 : Nat) (n proto src off i k : Int) (w : World)  (R : Int → Int → Int → Option Addr → Nat → Nat → Int → World → Prop) : Prop :=
  ∃ (I : Nat → Option Addr → Option Addr → Nat → Nat → Nat → Nat → Int → Int → Int → Int → Int → Int → World → Prop) (m : Nat), I m p pkt_b pkt_l pkt_c t4 none0 n proto src off i k w ∧ ∀ m p pkt_b pkt_l pkt_c t4 none0 n proto src off i k w, I m p pkt_b pkt_l pkt_c t4 none0 n proto src off i k w → ipm_IP_Input.L4b p pkt_b pkt_l pkt_c t4 none0 n proto src off i k w  (fun p' pkt_b' pkt_l' pkt_c' t4' none0' n' proto' src' off' i' k' w' => ∃ m', m' < m ∧ I m' p' pkt_b' pkt_l' pkt_c' t4' none0' n' proto' src' off' i' k' w') R
theorem ipm_IP_Input.L4_sound {R : Int → Int → Int → Option Addr → Nat → Nat → Int → World → Prop}  (p pkt_b : Option Addr) (pkt_l pkt_c t4 none0 : Nat) (n proto src off i k : Int) (w : World) (h : ipm_IP_Input.L4 p pkt_b pkt_l pkt_c t4 none0 n proto src off i k w  R) :
    KW Try.prog 44 347 (ipm_IP_Input.RV R) ([(0, [1, 1, 1, 1, 1, 1, 1, 1, 1, 1, 1, 1, 1, 1, 1, 1, 1, 1, 1, 0, 1, 0, 0]), (2, [1, 1, 1, 1, 1, 1, 1, 1, 1, 1, 1, 1, 1, 1, 1, 1, 1, 1, 1, 0, 1, 0, 0]), (1, [6]), (0, [1, 1, 1, 1, 1, 1, 1, 1, 1, 1, 1, 1, 1, 1, 1, 1, 1, 1, 1, 1])].map (toItem (Try.f44.body.getD .skip))) [(0, .pointer p), (1, .slice pkt_b pkt_l pkt_c), (4, .pointer (some ⟨t4, 0, none⟩)), (6, .pointer (some ⟨none0, 0, none⟩)), (7, .int .i64 n), (8, .int .i64 proto), (9, .int .i64 src), (11, .int .i64 off), (13, .int .i64 i), (18, .int .i64 k)] w := by
  obtain ⟨I, m, h0, hr⟩ := h
  refine KW.loop (fun m σ w => ∃ (p pkt_b : Option Addr) (pkt_l pkt_c t4 none0 : Nat) (n proto src off i k : Int), σ = [(0, .pointer p), (1, .slice pkt_b pkt_l pkt_c), (4, .pointer (some ⟨t4, 0, none⟩)), (6, .pointer (some ⟨none0, 0, none⟩)), (7, .int .i64 n), (8, .int .i64 proto), (9, .int .i64 src), (11, .int .i64 off), (13, .int .i64 i), (18, .int .i64 k)] ∧ I m p pkt_b pkt_l pkt_c t4 none0 n proto src off i k w) ?_ m _ w ⟨p, pkt_b, pkt_l, pkt_c, t4, none0, n, proto, src, off, i, k, rfl, h0⟩
  rintro m ih σ w ⟨p, pkt_b, pkt_l, pkt_c, t4, none0, n, proto, src, off, i, k, rfl, hI⟩
  exact ipm_IP_Input.L4b_sound  (N4 := fun p' pkt_b' pkt_l' pkt_c' t4' none0' n' proto' src' off' i' k' w' => ∃ m', m' < m ∧ I m' p' pkt_b' pkt_l' pkt_c' t4' none0' n' proto' src' off' i' k' w') (fun p' pkt_b' pkt_l' pkt_c' t4' none0' n' proto' src' off' i' k' w' hx => by obtain ⟨m', hlt, hI'⟩ := hx; exact ih m' hlt _ w' ⟨p', pkt_b', pkt_l', pkt_c', t4', none0', n', proto', src', off', i', k', rfl, hI'⟩) p pkt_b pkt_l pkt_c t4 none0 n proto src off i k w (hr m p pkt_b pkt_l pkt_c t4 none0 n proto src off i k w hI)
def ipm_IP_Input.B6 (p pkt_b : Option Addr) (pkt_l pkt_c t4 none0 : Nat) (n proto src off i : Int) (w : World)   (R : Int → Int → Int → Option Addr → Nat → Nat → Int → World → Prop) : Prop :=
  ipm_IP_Input.L4 p pkt_b pkt_l pkt_c t4 none0 n proto src off i (0 : Int) w  R
theorem ipm_IP_Input.B6_eq (p pkt_b : Option Addr) (pkt_l pkt_c t4 none0 : Nat) (n proto src off i : Int) (w : World)   (R : Int → Int → Int → Option Addr → Nat → Nat → Int → World → Prop) (sL4 : Option Addr → Option Addr → Nat → Nat → Nat → Nat → Int → Int → Int → Int → Int → Int → World → Prop) :
    (
  sL4 p pkt_b pkt_l pkt_c t4 none0 n proto src off i (0 : Int) w) = kstep Try.prog 347 Try.f44.results.toList (Try.f44.body.getD .skip) (ipm_IP_Input.RV R) (kvc Try.prog 347 Try.f44.results.toList (Try.f44.body.getD .skip) (ipm_IP_Input.RV R) [([(0, [1, 1, 1, 1, 1, 1, 1, 1, 1, 1, 1, 1, 1, 1, 1, 1, 1, 1, 1, 0, 1, 0, 0]), (2, [1, 1, 1, 1, 1, 1, 1, 1, 1, 1, 1, 1, 1, 1, 1, 1, 1, 1, 1, 0, 1, 0, 0]), (1, [6]), (0, [1, 1, 1, 1, 1, 1, 1, 1, 1, 1, 1, 1, 1, 1, 1, 1, 1, 1, 1, 1])], fun σ w => dP (slotOf σ 0) fun p_ => dL (slotOf σ 1) fun pkt_b_ pkt_l_ pkt_c_ => dK (slotOf σ 4) fun t4_ => dK (slotOf σ 6) fun none0_ => dI .i64 (slotOf σ 7) fun n_ => dI .i64 (slotOf σ 8) fun proto_ => dI .i64 (slotOf σ 9) fun src_ => dI .i64 (slotOf σ 11) fun off_ => dI .i64 (slotOf σ 13) fun i_ => dI .i64 (slotOf σ 18) fun k_ => sL4 p_ pkt_b_ pkt_l_ pkt_c_ t4_ none0_ n_ proto_ src_ off_ i_ k_ w)] 2000) [(0, [1, 1, 1, 1, 1, 1, 1, 1, 1, 1, 1, 1, 1, 1, 1, 1, 1, 1, 1])] [(0, .pointer p), (1, .slice pkt_b pkt_l pkt_c), (4, .pointer (some ⟨t4, 0, none⟩)), (6, .pointer (some ⟨none0, 0, none⟩)), (7, .int .i64 n), (8, .int .i64 proto), (9, .int .i64 src), (11, .int .i64 off), (13, .int .i64 i)] w := by kernel_rfl
theorem ipm_IP_Input.B6_sound {R : Int → Int → Int → Option Addr → Nat → Nat → Int → World → Prop}  (p pkt_b : Option Addr) (pkt_l pkt_c t4 none0 : Nat) (n proto src off i : Int) (w : World) (h : ipm_IP_Input.B6 p pkt_b pkt_l pkt_c t4 none0 n proto src off i w   R) :
    KW Try.prog 44 347 (ipm_IP_Input.RV R) ([(0, [1, 1, 1, 1, 1, 1, 1, 1, 1, 1, 1, 1, 1, 1, 1, 1, 1, 1, 1])].map (toItem (Try.f44.body.getD .skip))) [(0, .pointer p), (1, .slice pkt_b pkt_l pkt_c), (4, .pointer (some ⟨t4, 0, none⟩)), (6, .pointer (some ⟨none0, 0, none⟩)), (7, .int .i64 n), (8, .int .i64 proto), (9, .int .i64 src), (11, .int .i64 off), (13, .int .i64 i)] w := by
  exact block_spec Try.func44 Try.mixed (stops_cons (fun σ w h => by
      obtain ⟨p_, e0, h⟩ := dP_elim h
      obtain ⟨pkt_b_, pkt_l_, pkt_c_, e1, h⟩ := dL_elim h
      obtain ⟨t4_, e2, h⟩ := dK_elim h
      obtain ⟨none0_, e3, h⟩ := dK_elim h
      obtain ⟨n_, e4, h⟩ := dI_elim h
      obtain ⟨proto_, e5, h⟩ := dI_elim h
      obtain ⟨src_, e6, h⟩ := dI_elim h
      obtain ⟨off_, e7, h⟩ := dI_elim h
      obtain ⟨i_, e8, h⟩ := dI_elim h
      obtain ⟨k_, e9, h⟩ := dI_elim h
      exact (ipm_IP_Input.L4_sound  p_ pkt_b_ pkt_l_ pkt_c_ t4_ none0_ n_ proto_ src_ off_ i_ k_ w h).weaken (Sub.cons (Sub.cons (Sub.cons (Sub.cons (Sub.cons (Sub.cons (Sub.cons (Sub.cons (Sub.cons (Sub.cons (Sub.nil _) e9) e8) e7) e6) e5) e4) e3) e2) e1) e0)) stops_nil) (Eq.mp (ipm_IP_Input.B6_eq p pkt_b pkt_l pkt_c t4 none0 n proto src off i w   R (fun p_ pkt_b_ pkt_l_ pkt_c_ t4_ none0_ n_ proto_ src_ off_ i_ k_ w => ipm_IP_Input.L4 p_ pkt_b_ pkt_l_ pkt_c_ t4_ none0_ n_ proto_ src_ off_ i_ k_ w  R)) h)
def ipm_IP_Input.B3 (p pkt_b : Option Addr) (pkt_l pkt_c t4 none0 : Nat) (n proto src off : Int) (more : Bool) (i : Int) (bad : Bool) (w : World)   (R : Int → Int → Int → Option Addr → Nat → Nat → Int → World → Prop) : Prop :=
  Bm bad (
    ipm_IP_remove.Call p i w fun w1 =>
    LdI .i64 ⟨none0, 0, none⟩ w1 fun x259_0 =>
    LdI .i64 ⟨none0, 1, none⟩ w1 fun x259_1 =>
    LdI .i64 ⟨none0, 2, none⟩ w1 fun x259_2 =>
    LdL ⟨none0, 3, none⟩ w1 fun x259_3_b x259_3_l x259_3_c =>
    Sts [.int .i64 x259_0, .int .i64 x259_1, .int .i64 x259_2, .slice x259_3_b x259_3_l x259_3_c] ⟨t4, 0, none⟩ 0 w1 fun w2 =>
    LdI .i64 ⟨t4, 0, none⟩ w2 fun r_0 =>
    LdI .i64 ⟨t4, 1, none⟩ w2 fun r_1 =>
    LdI .i64 ⟨t4, 2, none⟩ w2 fun r_2 =>
    LdL ⟨t4, 3, none⟩ w2 fun r_3_b r_3_l r_3_c =>
    R r_0 r_1 r_2 r_3_b r_3_l r_3_c (9 : Int) w2) (
    Bm (!more) (
      Pn p fun a =>
      LdL (a.add 3) w fun x265_b x265_l x265_c =>
      Pn x265_b fun a_1 =>
      (0 ≤ i ∧ i < ((x265_l : Nat) : Int)) ∧
      Sts [.int .i64 (IntKind.i64.wrap (off + n))] ((Addr.add a_1 (i.toNat * 6)).add 4) 0 w fun w3 =>
      ipm_IP_Input.B6 p pkt_b pkt_l pkt_c t4 none0 n proto src off i w3  R) (
      ipm_IP_Input.B6 p pkt_b pkt_l pkt_c t4 none0 n proto src off i w  R))
theorem ipm_IP_Input.B3_eq (p pkt_b : Option Addr) (pkt_l pkt_c t4 none0 : Nat) (n proto src off : Int) (more : Bool) (i : Int) (bad : Bool) (w : World)   (R : Int → Int → Int → Option Addr → Nat → Nat → Int → World → Prop) (sB6 : Option Addr → Option Addr → Nat → Nat → Nat → Nat → Int → Int → Int → Int → Int → World → Prop) :
    (
  Bm bad (
    ipm_IP_remove.Call p i w fun w1 =>
    LdI .i64 ⟨none0, 0, none⟩ w1 fun x259_0 =>
    LdI .i64 ⟨none0, 1, none⟩ w1 fun x259_1 =>
    LdI .i64 ⟨none0, 2, none⟩ w1 fun x259_2 =>
    LdL ⟨none0, 3, none⟩ w1 fun x259_3_b x259_3_l x259_3_c =>
    Sts [.int .i64 x259_0, .int .i64 x259_1, .int .i64 x259_2, .slice x259_3_b x259_3_l x259_3_c] ⟨t4, 0, none⟩ 0 w1 fun w2 =>
    LdI .i64 ⟨t4, 0, none⟩ w2 fun r_0 =>
    LdI .i64 ⟨t4, 1, none⟩ w2 fun r_1 =>
    LdI .i64 ⟨t4, 2, none⟩ w2 fun r_2 =>
    LdL ⟨t4, 3, none⟩ w2 fun r_3_b r_3_l r_3_c =>
    R r_0 r_1 r_2 r_3_b r_3_l r_3_c (9 : Int) w2) (
    Bm (!more) (
      Pn p fun a =>
      LdL (a.add 3) w fun x265_b x265_l x265_c =>
      Pn x265_b fun a_1 =>
      (0 ≤ i ∧ i < ((x265_l : Nat) : Int)) ∧
      Sts [.int .i64 (IntKind.i64.wrap (off + n))] ((Addr.add a_1 (i.toNat * 6)).add 4) 0 w fun w3 =>
      sB6 p pkt_b pkt_l pkt_c t4 none0 n proto src off i w3) (
      sB6 p pkt_b pkt_l pkt_c t4 none0 n proto src off i w))) = kstep Try.prog 347 Try.f44.results.toList (Try.f44.body.getD .skip) (ipm_IP_Input.RV R) (kvc Try.prog 347 Try.f44.results.toList (Try.f44.body.getD .skip) (ipm_IP_Input.RV R) [([(0, [1, 1, 1, 1, 1, 1, 1, 1, 1, 1, 1, 1, 1, 1, 1, 1, 1, 1, 1])], fun σ w => dP (slotOf σ 0) fun p_ => dL (slotOf σ 1) fun pkt_b_ pkt_l_ pkt_c_ => dK (slotOf σ 4) fun t4_ => dK (slotOf σ 6) fun none0_ => dI .i64 (slotOf σ 7) fun n_ => dI .i64 (slotOf σ 8) fun proto_ => dI .i64 (slotOf σ 9) fun src_ => dI .i64 (slotOf σ 11) fun off_ => dI .i64 (slotOf σ 13) fun i_ => sB6 p_ pkt_b_ pkt_l_ pkt_c_ t4_ none0_ n_ proto_ src_ off_ i_ w)] 2000) [(0, [1, 1, 1, 1, 1, 1, 1, 1, 1, 1, 1, 1, 1, 1, 1, 1, 1])] [(0, .pointer p), (1, .slice pkt_b pkt_l pkt_c), (4, .pointer (some ⟨t4, 0, none⟩)), (6, .pointer (some ⟨none0, 0, none⟩)), (7, .int .i64 n), (8, .int .i64 proto), (9, .int .i64 src), (11, .int .i64 off), (12, .bool more), (13, .int .i64 i), (16, .bool bad)] w := by kernel_rfl
theorem ipm_IP_Input.B3_sound {R : Int → Int → Int → Option Addr → Nat → Nat → Int → World → Prop}  (p pkt_b : Option Addr) (pkt_l pkt_c t4 none0 : Nat) (n proto src off : Int) (more : Bool) (i : Int) (bad : Bool) (w : World) (h : ipm_IP_Input.B3 p pkt_b pkt_l pkt_c t4 none0 n proto src off more i bad w   R) :
    KW Try.prog 44 347 (ipm_IP_Input.RV R) ([(0, [1, 1, 1, 1, 1, 1, 1, 1, 1, 1, 1, 1, 1, 1, 1, 1, 1])].map (toItem (Try.f44.body.getD .skip))) [(0, .pointer p), (1, .slice pkt_b pkt_l pkt_c), (4, .pointer (some ⟨t4, 0, none⟩)), (6, .pointer (some ⟨none0, 0, none⟩)), (7, .int .i64 n), (8, .int .i64 proto), (9, .int .i64 src), (11, .int .i64 off), (12, .bool more), (13, .int .i64 i), (16, .bool bad)] w := by
  exact block_spec Try.func44 Try.mixed (stops_cons (fun σ w h => by
      obtain ⟨p_, e0, h⟩ := dP_elim h
      obtain ⟨pkt_b_, pkt_l_, pkt_c_, e1, h⟩ := dL_elim h
      obtain ⟨t4_, e2, h⟩ := dK_elim h
      obtain ⟨none0_, e3, h⟩ := dK_elim h
      obtain ⟨n_, e4, h⟩ := dI_elim h
      obtain ⟨proto_, e5, h⟩ := dI_elim h
      obtain ⟨src_, e6, h⟩ := dI_elim h
      obtain ⟨off_, e7, h⟩ := dI_elim h
      obtain ⟨i_, e8, h⟩ := dI_elim h
      exact (ipm_IP_Input.B6_sound  p_ pkt_b_ pkt_l_ pkt_c_ t4_ none0_ n_ proto_ src_ off_ i_ w h).weaken (Sub.cons (Sub.cons (Sub.cons (Sub.cons (Sub.cons (Sub.cons (Sub.cons (Sub.cons (Sub.cons (Sub.nil _) e8) e7) e6) e5) e4) e3) e2) e1) e0)) stops_nil) (Eq.mp (ipm_IP_Input.B3_eq p pkt_b pkt_l pkt_c t4 none0 n proto src off more i bad w   R (fun p_ pkt_b_ pkt_l_ pkt_c_ t4_ none0_ n_ proto_ src_ off_ i_ w => ipm_IP_Input.B6 p_ pkt_b_ pkt_l_ pkt_c_ t4_ none0_ n_ proto_ src_ off_ i_ w  R)) h)
def ipm_IP_Input.B7 (p pkt_b : Option Addr) (pkt_l pkt_c t4 none0 : Nat) (n proto src off : Int) (more : Bool) (i : Int) (bad : Bool) (k : Int) (w : World) (N2 : Option Addr → Option Addr → Nat → Nat → Nat → Nat → Int → Int → Int → Int → Bool → Int → Bool → Int → World → Prop)  (R : Int → Int → Int → Option Addr → Nat → Nat → Int → World → Prop) : Prop :=
  N2 p pkt_b pkt_l pkt_c t4 none0 n proto src off more i bad (IntKind.i64.wrap (k + (1 : Int))) w
theorem ipm_IP_Input.B7_eq (p pkt_b : Option Addr) (pkt_l pkt_c t4 none0 : Nat) (n proto src off : Int) (more : Bool) (i : Int) (bad : Bool) (k : Int) (w : World) (N2 : Option Addr → Option Addr → Nat → Nat → Nat → Nat → Int → Int → Int → Int → Bool → Int → Bool → Int → World → Prop)  (R : Int → Int → Int → Option Addr → Nat → Nat → Int → World → Prop)  :
    (
  N2 p pkt_b pkt_l pkt_c t4 none0 n proto src off more i bad (IntKind.i64.wrap (k + (1 : Int))) w) = kstep Try.prog 347 Try.f44.results.toList (Try.f44.body.getD .skip) (ipm_IP_Input.RV R) (kvc Try.prog 347 Try.f44.results.toList (Try.f44.body.getD .skip) (ipm_IP_Input.RV R) [([(0, [1, 1, 1, 1, 1, 1, 1, 1, 1, 1, 1, 1, 1, 1, 1, 1, 0, 1, 1, 1, 1, 0, 0]), (2, [1, 1, 1, 1, 1, 1, 1, 1, 1, 1, 1, 1, 1, 1, 1, 1, 0, 1, 1, 1, 1, 0, 0]), (1, [4]), (0, [1, 1, 1, 1, 1, 1, 1, 1, 1, 1, 1, 1, 1, 1, 1, 1, 1])], fun σ w => dP (slotOf σ 0) fun p_ => dL (slotOf σ 1) fun pkt_b_ pkt_l_ pkt_c_ => dK (slotOf σ 4) fun t4_ => dK (slotOf σ 6) fun none0_ => dI .i64 (slotOf σ 7) fun n_ => dI .i64 (slotOf σ 8) fun proto_ => dI .i64 (slotOf σ 9) fun src_ => dI .i64 (slotOf σ 11) fun off_ => dB (slotOf σ 12) fun more_ => dI .i64 (slotOf σ 13) fun i_ => dB (slotOf σ 16) fun bad_ => dI .i64 (slotOf σ 17) fun k_ => N2 p_ pkt_b_ pkt_l_ pkt_c_ t4_ none0_ n_ proto_ src_ off_ more_ i_ bad_ k_ w)] 2000) [(0, [1, 1, 1, 1, 1, 1, 1, 1, 1, 1, 1, 1, 1, 1, 1, 1, 0, 1, 1, 1, 1, 0, 0, 1, 1]), (2, [1, 1, 1, 1, 1, 1, 1, 1, 1, 1, 1, 1, 1, 1, 1, 1, 0, 1, 1, 1, 1, 0, 0]), (1, [4]), (0, [1, 1, 1, 1, 1, 1, 1, 1, 1, 1, 1, 1, 1, 1, 1, 1, 1])] [(0, .pointer p), (1, .slice pkt_b pkt_l pkt_c), (4, .pointer (some ⟨t4, 0, none⟩)), (6, .pointer (some ⟨none0, 0, none⟩)), (7, .int .i64 n), (8, .int .i64 proto), (9, .int .i64 src), (11, .int .i64 off), (12, .bool more), (13, .int .i64 i), (16, .bool bad), (17, .int .i64 k)] w := by kernel_rfl
theorem ipm_IP_Input.B7_sound {R : Int → Int → Int → Option Addr → Nat → Nat → Int → World → Prop} {N2 : Option Addr → Option Addr → Nat → Nat → Nat → Nat → Int → Int → Int → Int → Bool → Int → Bool → Int → World → Prop} (hN2 : ∀ p pkt_b pkt_l pkt_c t4 none0 n proto src off more i bad k w, N2 p pkt_b pkt_l pkt_c t4 none0 n proto src off more i bad k w → KW Try.prog 44 347 (ipm_IP_Input.RV R) ([(0, [1, 1, 1, 1, 1, 1, 1, 1, 1, 1, 1, 1, 1, 1, 1, 1, 0, 1, 1, 1, 1, 0, 0]), (2, [1, 1, 1, 1, 1, 1, 1, 1, 1, 1, 1, 1, 1, 1, 1, 1, 0, 1, 1, 1, 1, 0, 0]), (1, [4]), (0, [1, 1, 1, 1, 1, 1, 1, 1, 1, 1, 1, 1, 1, 1, 1, 1, 1])].map (toItem (Try.f44.body.getD .skip))) [(0, .pointer p), (1, .slice pkt_b pkt_l pkt_c), (4, .pointer (some ⟨t4, 0, none⟩)), (6, .pointer (some ⟨none0, 0, none⟩)), (7, .int .i64 n), (8, .int .i64 proto), (9, .int .i64 src), (11, .int .i64 off), (12, .bool more), (13, .int .i64 i), (16, .bool bad), (17, .int .i64 k)] w) (p pkt_b : Option Addr) (pkt_l pkt_c t4 none0 : Nat) (n proto src off : Int) (more : Bool) (i : Int) (bad : Bool) (k : Int) (w : World) (h : ipm_IP_Input.B7 p pkt_b pkt_l pkt_c t4 none0 n proto src off more i bad k w N2  R) :
    KW Try.prog 44 347 (ipm_IP_Input.RV R) ([(0, [1, 1, 1, 1, 1, 1, 1, 1, 1, 1, 1, 1, 1, 1, 1, 1, 0, 1, 1, 1, 1, 0, 0, 1, 1]), (2, [1, 1, 1, 1, 1, 1, 1, 1, 1, 1, 1, 1, 1, 1, 1, 1, 0, 1, 1, 1, 1, 0, 0]), (1, [4]), (0, [1, 1, 1, 1, 1, 1, 1, 1, 1, 1, 1, 1, 1, 1, 1, 1, 1])].map (toItem (Try.f44.body.getD .skip))) [(0, .pointer p), (1, .slice pkt_b pkt_l pkt_c), (4, .pointer (some ⟨t4, 0, none⟩)), (6, .pointer (some ⟨none0, 0, none⟩)), (7, .int .i64 n), (8, .int .i64 proto), (9, .int .i64 src), (11, .int .i64 off), (12, .bool more), (13, .int .i64 i), (16, .bool bad), (17, .int .i64 k)] w := by
  exact block_spec Try.func44 Try.mixed (stops_cons (fun σ w h => by
      obtain ⟨p_, e0, h⟩ := dP_elim h
      obtain ⟨pkt_b_, pkt_l_, pkt_c_, e1, h⟩ := dL_elim h
      obtain ⟨t4_, e2, h⟩ := dK_elim h
      obtain ⟨none0_, e3, h⟩ := dK_elim h
      obtain ⟨n_, e4, h⟩ := dI_elim h
      obtain ⟨proto_, e5, h⟩ := dI_elim h
      obtain ⟨src_, e6, h⟩ := dI_elim h
      obtain ⟨off_, e7, h⟩ := dI_elim h
      obtain ⟨more_, e8, h⟩ := dB_elim h
      obtain ⟨i_, e9, h⟩ := dI_elim h
      obtain ⟨bad_, e10, h⟩ := dB_elim h
      obtain ⟨k_, e11, h⟩ := dI_elim h
      exact (hN2 p_ pkt_b_ pkt_l_ pkt_c_ t4_ none0_ n_ proto_ src_ off_ more_ i_ bad_ k_ w h).weaken (Sub.cons (Sub.cons (Sub.cons (Sub.cons (Sub.cons (Sub.cons (Sub.cons (Sub.cons (Sub.cons (Sub.cons (Sub.cons (Sub.cons (Sub.nil _) e11) e10) e9) e8) e7) e6) e5) e4) e3) e2) e1) e0)) stops_nil) (Eq.mp (ipm_IP_Input.B7_eq p pkt_b pkt_l pkt_c t4 none0 n proto src off more i bad k w N2  R ) h)
def ipm_IP_Input.L2b (p pkt_b : Option Addr) (pkt_l pkt_c t4 none0 : Nat) (n proto src off : Int) (more : Bool) (i : Int) (bad : Bool) (k : Int) (w : World)  (N2 : Option Addr → Option Addr → Nat → Nat → Nat → Nat → Int → Int → Int → Int → Bool → Int → Bool → Int → World → Prop) (R : Int → Int → Int → Option Addr → Nat → Nat → Int → World → Prop) : Prop :=
  Bm (decide (k < (40 : Int))) (
    Pn p fun a =>
    LdL (a.add 3) w fun x246_b x246_l x246_c =>
    Pn x246_b fun a_1 =>
    (0 ≤ i ∧ i < ((x246_l : Nat) : Int)) ∧
    LdL ((Addr.add a_1 (i.toNat * 6)).add 5) w fun x250_b x250_l x250_c =>
    Pn x250_b fun a_2 =>
    (0 ≤ k ∧ k < ((x250_l : Nat) : Int)) ∧
    LdI .i64 (Addr.add a_2 (k.toNat * 1)) w fun x253 =>
    Bm (decide (x253 ≥ (0 : Int))) (
      ipm_IP_Input.B7 p pkt_b pkt_l pkt_c t4 none0 n proto src off more i true k w N2 R) (
      ipm_IP_Input.B7 p pkt_b pkt_l pkt_c t4 none0 n proto src off more i bad k w N2 R)) (
    ipm_IP_Input.B3 p pkt_b pkt_l pkt_c t4 none0 n proto src off more i bad w  R)
theorem ipm_IP_Input.L2b_eq (p pkt_b : Option Addr) (pkt_l pkt_c t4 none0 : Nat) (n proto src off : Int) (more : Bool) (i : Int) (bad : Bool) (k : Int) (w : World)  (N2 : Option Addr → Option Addr → Nat → Nat → Nat → Nat → Int → Int → Int → Int → Bool → Int → Bool → Int → World → Prop) (R : Int → Int → Int → Option Addr → Nat → Nat → Int → World → Prop) (sB7 : Option Addr → Option Addr → Nat → Nat → Nat → Nat → Int → Int → Int → Int → Bool → Int → Bool → Int → World → Prop) (sB3 : Option Addr → Option Addr → Nat → Nat → Nat → Nat → Int → Int → Int → Int → Bool → Int → Bool → World → Prop) :
    (
  Bm (decide (k < (40 : Int))) (
    Pn p fun a =>
    LdL (a.add 3) w fun x246_b x246_l x246_c =>
    Pn x246_b fun a_1 =>
    (0 ≤ i ∧ i < ((x246_l : Nat) : Int)) ∧
    LdL ((Addr.add a_1 (i.toNat * 6)).add 5) w fun x250_b x250_l x250_c =>
    Pn x250_b fun a_2 =>
    (0 ≤ k ∧ k < ((x250_l : Nat) : Int)) ∧
    LdI .i64 (Addr.add a_2 (k.toNat * 1)) w fun x253 =>
    Bm (decide (x253 ≥ (0 : Int))) (
      sB7 p pkt_b pkt_l pkt_c t4 none0 n proto src off more i true k w) (
      sB7 p pkt_b pkt_l pkt_c t4 none0 n proto src off more i bad k w)) (
    sB3 p pkt_b pkt_l pkt_c t4 none0 n proto src off more i bad w)) = kstep Try.prog 347 Try.f44.results.toList (Try.f44.body.getD .skip) (ipm_IP_Input.RV R) (kvc Try.prog 347 Try.f44.results.toList (Try.f44.body.getD .skip) (ipm_IP_Input.RV R) [([(0, [1, 1, 1, 1, 1, 1, 1, 1, 1, 1, 1, 1, 1, 1, 1, 1, 0, 1, 1, 1, 1, 0, 0, 1, 1]), (2, [1, 1, 1, 1, 1, 1, 1, 1, 1, 1, 1, 1, 1, 1, 1, 1, 0, 1, 1, 1, 1, 0, 0]), (1, [4]), (0, [1, 1, 1, 1, 1, 1, 1, 1, 1, 1, 1, 1, 1, 1, 1, 1, 1])], fun σ w => dP (slotOf σ 0) fun p_ => dL (slotOf σ 1) fun pkt_b_ pkt_l_ pkt_c_ => dK (slotOf σ 4) fun t4_ => dK (slotOf σ 6) fun none0_ => dI .i64 (slotOf σ 7) fun n_ => dI .i64 (slotOf σ 8) fun proto_ => dI .i64 (slotOf σ 9) fun src_ => dI .i64 (slotOf σ 11) fun off_ => dB (slotOf σ 12) fun more_ => dI .i64 (slotOf σ 13) fun i_ => dB (slotOf σ 16) fun bad_ => dI .i64 (slotOf σ 17) fun k_ => sB7 p_ pkt_b_ pkt_l_ pkt_c_ t4_ none0_ n_ proto_ src_ off_ more_ i_ bad_ k_ w),
    ([(0, [1, 1, 1, 1, 1, 1, 1, 1, 1, 1, 1, 1, 1, 1, 1, 1, 1])], fun σ w => dP (slotOf σ 0) fun p_ => dL (slotOf σ 1) fun pkt_b_ pkt_l_ pkt_c_ => dK (slotOf σ 4) fun t4_ => dK (slotOf σ 6) fun none0_ => dI .i64 (slotOf σ 7) fun n_ => dI .i64 (slotOf σ 8) fun proto_ => dI .i64 (slotOf σ 9) fun src_ => dI .i64 (slotOf σ 11) fun off_ => dB (slotOf σ 12) fun more_ => dI .i64 (slotOf σ 13) fun i_ => dB (slotOf σ 16) fun bad_ => sB3 p_ pkt_b_ pkt_l_ pkt_c_ t4_ none0_ n_ proto_ src_ off_ more_ i_ bad_ w)] 2000) [(0, [1, 1, 1, 1, 1, 1, 1, 1, 1, 1, 1, 1, 1, 1, 1, 1, 0, 1, 1, 1, 1, 0, 0]), (2, [1, 1, 1, 1, 1, 1, 1, 1, 1, 1, 1, 1, 1, 1, 1, 1, 0, 1, 1, 1, 1, 0, 0]), (1, [4]), (0, [1, 1, 1, 1, 1, 1, 1, 1, 1, 1, 1, 1, 1, 1, 1, 1, 1])] [(0, .pointer p), (1, .slice pkt_b pkt_l pkt_c), (4, .pointer (some ⟨t4, 0, none⟩)), (6, .pointer (some ⟨none0, 0, none⟩)), (7, .int .i64 n), (8, .int .i64 proto), (9, .int .i64 src), (11, .int .i64 off), (12, .bool more), (13, .int .i64 i), (16, .bool bad), (17, .int .i64 k)] w := by kernel_rfl
theorem ipm_IP_Input.L2b_sound {R : Int → Int → Int → Option Addr → Nat → Nat → Int → World → Prop} {N2 : Option Addr → Option Addr → Nat → Nat → Nat → Nat → Int → Int → Int → Int → Bool → Int → Bool → Int → World → Prop} (hN2 : ∀ p pkt_b pkt_l pkt_c t4 none0 n proto src off more i bad k w, N2 p pkt_b pkt_l pkt_c t4 none0 n proto src off more i bad k w → KW Try.prog 44 347 (ipm_IP_Input.RV R) ([(0, [1, 1, 1, 1, 1, 1, 1, 1, 1, 1, 1, 1, 1, 1, 1, 1, 0, 1, 1, 1, 1, 0, 0]), (2, [1, 1, 1, 1, 1, 1, 1, 1, 1, 1, 1, 1, 1, 1, 1, 1, 0, 1, 1, 1, 1, 0, 0]), (1, [4]), (0, [1, 1, 1, 1, 1, 1, 1, 1, 1, 1, 1, 1, 1, 1, 1, 1, 1])].map (toItem (Try.f44.body.getD .skip))) [(0, .pointer p), (1, .slice pkt_b pkt_l pkt_c), (4, .pointer (some ⟨t4, 0, none⟩)), (6, .pointer (some ⟨none0, 0, none⟩)), (7, .int .i64 n), (8, .int .i64 proto), (9, .int .i64 src), (11, .int .i64 off), (12, .bool more), (13, .int .i64 i), (16, .bool bad), (17, .int .i64 k)] w) (p pkt_b : Option Addr) (pkt_l pkt_c t4 none0 : Nat) (n proto src off : Int) (more : Bool) (i : Int) (bad : Bool) (k : Int) (w : World) (h : ipm_IP_Input.L2b p pkt_b pkt_l pkt_c t4 none0 n proto src off more i bad k w  N2 R) :
    KW Try.prog 44 347 (ipm_IP_Input.RV R) ([(0, [1, 1, 1, 1, 1, 1, 1, 1, 1, 1, 1, 1, 1, 1, 1, 1, 0, 1, 1, 1, 1, 0, 0]), (2, [1, 1, 1, 1, 1, 1, 1, 1, 1, 1, 1, 1, 1, 1, 1, 1, 0, 1, 1, 1, 1, 0, 0]), (1, [4]), (0, [1, 1, 1, 1, 1, 1, 1, 1, 1, 1, 1, 1, 1, 1, 1, 1, 1])].map (toItem (Try.f44.body.getD .skip))) [(0, .pointer p), (1, .slice pkt_b pkt_l pkt_c), (4, .pointer (some ⟨t4, 0, none⟩)), (6, .pointer (some ⟨none0, 0, none⟩)), (7, .int .i64 n), (8, .int .i64 proto), (9, .int .i64 src), (11, .int .i64 off), (12, .bool more), (13, .int .i64 i), (16, .bool bad), (17, .int .i64 k)] w := by
  exact block_spec Try.func44 Try.mixed (stops_cons (fun σ w h => by
      obtain ⟨p_, e0, h⟩ := dP_elim h
      obtain ⟨pkt_b_, pkt_l_, pkt_c_, e1, h⟩ := dL_elim h
      obtain ⟨t4_, e2, h⟩ := dK_elim h
      obtain ⟨none0_, e3, h⟩ := dK_elim h
      obtain ⟨n_, e4, h⟩ := dI_elim h
      obtain ⟨proto_, e5, h⟩ := dI_elim h
      obtain ⟨src_, e6, h⟩ := dI_elim h
      obtain ⟨off_, e7, h⟩ := dI_elim h
      obtain ⟨more_, e8, h⟩ := dB_elim h
      obtain ⟨i_, e9, h⟩ := dI_elim h
      obtain ⟨bad_, e10, h⟩ := dB_elim h
      obtain ⟨k_, e11, h⟩ := dI_elim h
      exact (ipm_IP_Input.B7_sound hN2 p_ pkt_b_ pkt_l_ pkt_c_ t4_ none0_ n_ proto_ src_ off_ more_ i_ bad_ k_ w h).weaken (Sub.cons (Sub.cons (Sub.cons (Sub.cons (Sub.cons (Sub.cons (Sub.cons (Sub.cons (Sub.cons (Sub.cons (Sub.cons (Sub.cons (Sub.nil _) e11) e10) e9) e8) e7) e6) e5) e4) e3) e2) e1) e0)) (stops_cons (fun σ w h => by
      obtain ⟨p_, e0, h⟩ := dP_elim h
      obtain ⟨pkt_b_, pkt_l_, pkt_c_, e1, h⟩ := dL_elim h
      obtain ⟨t4_, e2, h⟩ := dK_elim h
      obtain ⟨none0_, e3, h⟩ := dK_elim h
      obtain ⟨n_, e4, h⟩ := dI_elim h
      obtain ⟨proto_, e5, h⟩ := dI_elim h
      obtain ⟨src_, e6, h⟩ := dI_elim h
      obtain ⟨off_, e7, h⟩ := dI_elim h
      obtain ⟨more_, e8, h⟩ := dB_elim h
      obtain ⟨i_, e9, h⟩ := dI_elim h
      obtain ⟨bad_, e10, h⟩ := dB_elim h
      exact (ipm_IP_Input.B3_sound  p_ pkt_b_ pkt_l_ pkt_c_ t4_ none0_ n_ proto_ src_ off_ more_ i_ bad_ w h).weaken (Sub.cons (Sub.cons (Sub.cons (Sub.cons (Sub.cons (Sub.cons (Sub.cons (Sub.cons (Sub.cons (Sub.cons (Sub.cons (Sub.nil _) e10) e9) e8) e7) e6) e5) e4) e3) e2) e1) e0)) stops_nil)) (Eq.mp (ipm_IP_Input.L2b_eq p pkt_b pkt_l pkt_c t4 none0 n proto src off more i bad k w  N2 R (fun p_ pkt_b_ pkt_l_ pkt_c_ t4_ none0_ n_ proto_ src_ off_ more_ i_ bad_ k_ w => ipm_IP_Input.B7 p_ pkt_b_ pkt_l_ pkt_c_ t4_ none0_ n_ proto_ src_ off_ more_ i_ bad_ k_ w N2 R) (fun p_ pkt_b_ pkt_l_ pkt_c_ t4_ none0_ n_ proto_ src_ off_ more_ i_ bad_ w => ipm_IP_Input.B3 p_ pkt_b_ pkt_l_ pkt_c_ t4_ none0_ n_ proto_ src_ off_ more_ i_ bad_ w  R)) h)
def ipm_IP_Input.L2 (p pkt_b : Option Addr) (pkt_l pkt_c t4 none0 : Nat) (n proto src off : Int) (more : Bool) (i : Int) (bad : Bool) (k : Int) (w : World)  (R : Int → Int → Int → Option Addr → Nat → Nat → Int → World → Prop) : Prop :=
  ∃ (I : Nat → Option Addr → Option Addr → Nat → Nat → Nat → Nat → Int → Int → Int → Int → Bool → Int → Bool → Int → World → Prop) (m : Nat), I m p pkt_b pkt_l pkt_c t4 none0 n proto src off more i bad k w ∧ ∀ m p pkt_b pkt_l pkt_c t4 none0 n proto src off more i bad k w, I m p pkt_b pkt_l pkt_c t4 none0 n proto src off more i bad k w → ipm_IP_Input.L2b p pkt_b pkt_l pkt_c t4 none0 n proto src off more i bad k w  (fun p' pkt_b' pkt_l' pkt_c' t4' none0' n' proto' src' off' more' i' bad' k' w' => ∃ m', m' < m ∧ I m' p' pkt_b' pkt_l' pkt_c' t4' none0' n' proto' src' off' more' i' bad' k' w') R
theorem ipm_IP_Input.L2_sound {R : Int → Int → Int → Option Addr → Nat → Nat → Int → World → Prop}  (p pkt_b : Option Addr) (pkt_l pkt_c t4 none0 : Nat) (n proto src off : Int) (more : Bool) (i : Int) (bad : Bool) (k : Int) (w : World) (h : ipm_IP_Input.L2 p pkt_b pkt_l pkt_c t4 none0 n proto src off more i bad k w  R) :
    KW Try.prog 44 347 (ipm_IP_Input.RV R) ([(0, [1, 1, 1, 1, 1, 1, 1, 1, 1, 1, 1, 1, 1, 1, 1, 1, 0, 1, 1, 1, 1, 0, 0]), (2, [1, 1, 1, 1, 1, 1, 1, 1, 1, 1, 1, 1, 1, 1, 1, 1, 0, 1, 1, 1, 1, 0, 0]), (1, [4]), (0, [1, 1, 1, 1, 1, 1, 1, 1, 1, 1, 1, 1, 1, 1, 1, 1, 1])].map (toItem (Try.f44.body.getD .skip))) [(0, .pointer p), (1, .slice pkt_b pkt_l pkt_c), (4, .pointer (some ⟨t4, 0, none⟩)), (6, .pointer (some ⟨none0, 0, none⟩)), (7, .int .i64 n), (8, .int .i64 proto), (9, .int .i64 src), (11, .int .i64 off), (12, .bool more), (13, .int .i64 i), (16, .bool bad), (17, .int .i64 k)] w := by
  obtain ⟨I, m, h0, hr⟩ := h
  refine KW.loop (fun m σ w => ∃ (p pkt_b : Option Addr) (pkt_l pkt_c t4 none0 : Nat) (n proto src off : Int) (more : Bool) (i : Int) (bad : Bool) (k : Int), σ = [(0, .pointer p), (1, .slice pkt_b pkt_l pkt_c), (4, .pointer (some ⟨t4, 0, none⟩)), (6, .pointer (some ⟨none0, 0, none⟩)), (7, .int .i64 n), (8, .int .i64 proto), (9, .int .i64 src), (11, .int .i64 off), (12, .bool more), (13, .int .i64 i), (16, .bool bad), (17, .int .i64 k)] ∧ I m p pkt_b pkt_l pkt_c t4 none0 n proto src off more i bad k w) ?_ m _ w ⟨p, pkt_b, pkt_l, pkt_c, t4, none0, n, proto, src, off, more, i, bad, k, rfl, h0⟩
  rintro m ih σ w ⟨p, pkt_b, pkt_l, pkt_c, t4, none0, n, proto, src, off, more, i, bad, k, rfl, hI⟩
  exact ipm_IP_Input.L2b_sound  (N2 := fun p' pkt_b' pkt_l' pkt_c' t4' none0' n' proto' src' off' more' i' bad' k' w' => ∃ m', m' < m ∧ I m' p' pkt_b' pkt_l' pkt_c' t4' none0' n' proto' src' off' more' i' bad' k' w') (fun p' pkt_b' pkt_l' pkt_c' t4' none0' n' proto' src' off' more' i' bad' k' w' hx => by obtain ⟨m', hlt, hI'⟩ := hx; exact ih m' hlt _ w' ⟨p', pkt_b', pkt_l', pkt_c', t4', none0', n', proto', src', off', more', i', bad', k', rfl, hI'⟩) p pkt_b pkt_l pkt_c t4 none0 n proto src off more i bad k w (hr m p pkt_b pkt_l pkt_c t4 none0 n proto src off more i bad k w hI)
def ipm_IP_Input.B4 (p pkt_b : Option Addr) (pkt_l pkt_c t4 none0 : Nat) (n proto src off : Int) (more : Bool) (i : Int) (bad : Bool) (w : World)   (R : Int → Int → Int → Option Addr → Nat → Nat → Int → World → Prop) : Prop :=
  ipm_IP_Input.L2 p pkt_b pkt_l pkt_c t4 none0 n proto src off more i bad (IntKind.i64.wrap (off + n)) w  R
theorem ipm_IP_Input.B4_eq (p pkt_b : Option Addr) (pkt_l pkt_c t4 none0 : Nat) (n proto src off : Int) (more : Bool) (i : Int) (bad : Bool) (w : World)   (R : Int → Int → Int → Option Addr → Nat → Nat → Int → World → Prop) (sL2 : Option Addr → Option Addr → Nat → Nat → Nat → Nat → Int → Int → Int → Int → Bool → Int → Bool → Int → World → Prop) :
    (
  sL2 p pkt_b pkt_l pkt_c t4 none0 n proto src off more i bad (IntKind.i64.wrap (off + n)) w) = kstep Try.prog 347 Try.f44.results.toList (Try.f44.body.getD .skip) (ipm_IP_Input.RV R) (kvc Try.prog 347 Try.f44.results.toList (Try.f44.body.getD .skip) (ipm_IP_Input.RV R) [([(0, [1, 1, 1, 1, 1, 1, 1, 1, 1, 1, 1, 1, 1, 1, 1, 1, 0, 1, 1, 1, 1, 0, 0]), (2, [1, 1, 1, 1, 1, 1, 1, 1, 1, 1, 1, 1, 1, 1, 1, 1, 0, 1, 1, 1, 1, 0, 0]), (1, [4]), (0, [1, 1, 1, 1, 1, 1, 1, 1, 1, 1, 1, 1, 1, 1, 1, 1, 1])], fun σ w => dP (slotOf σ 0) fun p_ => dL (slotOf σ 1) fun pkt_b_ pkt_l_ pkt_c_ => dK (slotOf σ 4) fun t4_ => dK (slotOf σ 6) fun none0_ => dI .i64 (slotOf σ 7) fun n_ => dI .i64 (slotOf σ 8) fun proto_ => dI .i64 (slotOf σ 9) fun src_ => dI .i64 (slotOf σ 11) fun off_ => dB (slotOf σ 12) fun more_ => dI .i64 (slotOf σ 13) fun i_ => dB (slotOf σ 16) fun bad_ => dI .i64 (slotOf σ 17) fun k_ => sL2 p_ pkt_b_ pkt_l_ pkt_c_ t4_ none0_ n_ proto_ src_ off_ more_ i_ bad_ k_ w)] 2000) [(0, [1, 1, 1, 1, 1, 1, 1, 1, 1, 1, 1, 1, 1, 1, 1, 1, 0, 1, 1, 1]), (0, [1, 1, 1, 1, 1, 1, 1, 1, 1, 1, 1, 1, 1, 1, 1, 1, 1])] [(0, .pointer p), (1, .slice pkt_b pkt_l pkt_c), (4, .pointer (some ⟨t4, 0, none⟩)), (6, .pointer (some ⟨none0, 0, none⟩)), (7, .int .i64 n), (8, .int .i64 proto), (9, .int .i64 src), (11, .int .i64 off), (12, .bool more), (13, .int .i64 i), (16, .bool bad)] w := by kernel_rfl
theorem ipm_IP_Input.B4_sound {R : Int → Int → Int → Option Addr → Nat → Nat → Int → World → Prop}  (p pkt_b : Option Addr) (pkt_l pkt_c t4 none0 : Nat) (n proto src off : Int) (more : Bool) (i : Int) (bad : Bool) (w : World) (h : ipm_IP_Input.B4 p pkt_b pkt_l pkt_c t4 none0 n proto src off more i bad w   R) :
    KW Try.prog 44 347 (ipm_IP_Input.RV R) ([(0, [1, 1, 1, 1, 1, 1, 1, 1, 1, 1, 1, 1, 1, 1, 1, 1, 0, 1, 1, 1]), (0, [1, 1, 1, 1, 1, 1, 1, 1, 1, 1, 1, 1, 1, 1, 1, 1, 1])].map (toItem (Try.f44.body.getD .skip))) [(0, .pointer p), (1, .slice pkt_b pkt_l pkt_c), (4, .pointer (some ⟨t4, 0, none⟩)), (6, .pointer (some ⟨none0, 0, none⟩)), (7, .int .i64 n), (8, .int .i64 proto), (9, .int .i64 src), (11, .int .i64 off), (12, .bool more), (13, .int .i64 i), (16, .bool bad)] w := by
  exact block_spec Try.func44 Try.mixed (stops_cons (fun σ w h => by
      obtain ⟨p_, e0, h⟩ := dP_elim h
      obtain ⟨pkt_b_, pkt_l_, pkt_c_, e1, h⟩ := dL_elim h
      obtain ⟨t4_, e2, h⟩ := dK_elim h
      obtain ⟨none0_, e3, h⟩ := dK_elim h
      obtain ⟨n_, e4, h⟩ := dI_elim h
      obtain ⟨proto_, e5, h⟩ := dI_elim h
      obtain ⟨src_, e6, h⟩ := dI_elim h
      obtain ⟨off_, e7, h⟩ := dI_elim h
      obtain ⟨more_, e8, h⟩ := dB_elim h
      obtain ⟨i_, e9, h⟩ := dI_elim h
      obtain ⟨bad_, e10, h⟩ := dB_elim h
      obtain ⟨k_, e11, h⟩ := dI_elim h
      exact (ipm_IP_Input.L2_sound  p_ pkt_b_ pkt_l_ pkt_c_ t4_ none0_ n_ proto_ src_ off_ more_ i_ bad_ k_ w h).weaken (Sub.cons (Sub.cons (Sub.cons (Sub.cons (Sub.cons (Sub.cons (Sub.cons (Sub.cons (Sub.cons (Sub.cons (Sub.cons (Sub.cons (Sub.nil _) e11) e10) e9) e8) e7) e6) e5) e4) e3) e2) e1) e0)) stops_nil) (Eq.mp (ipm_IP_Input.B4_eq p pkt_b pkt_l pkt_c t4 none0 n proto src off more i bad w   R (fun p_ pkt_b_ pkt_l_ pkt_c_ t4_ none0_ n_ proto_ src_ off_ more_ i_ bad_ k_ w => ipm_IP_Input.L2 p_ pkt_b_ pkt_l_ pkt_c_ t4_ none0_ n_ proto_ src_ off_ more_ i_ bad_ k_ w  R)) h)
def ipm_IP_Input.L3b (p pkt_b : Option Addr) (pkt_l pkt_c t4 none0 : Nat) (n proto src id0 off : Int) (more : Bool) (i : Int) (cell_b : Option Addr) (cell_l cell_c : Nat) (k : Int) (w : World)  (N3 : Option Addr → Option Addr → Nat → Nat → Nat → Nat → Int → Int → Int → Int → Int → Bool → Int → Option Addr → Nat → Nat → Int → World → Prop) (R : Int → Int → Int → Option Addr → Nat → Nat → Int → World → Prop) : Prop :=
  Bm (decide (k < (40 : Int))) (
    Pn cell_b fun a =>
    (0 ≤ k ∧ k < ((cell_l : Nat) : Int)) ∧
    Sts [.int .i64 (-1 : Int)] (Addr.add a (k.toNat * 1)) 0 w fun w1 =>
    N3 p pkt_b pkt_l pkt_c t4 none0 n proto src id0 off more i cell_b cell_l cell_c (IntKind.i64.wrap (k + (1 : Int))) w1) (
    Pn p fun a_1 =>
    LdL (a_1.add 3) w fun x181_b x181_l x181_c =>
    Pn x181_b fun a_2 =>
    (0 ≤ i ∧ i < ((x181_l : Nat) : Int)) ∧
    Sts [.int .i64 src, .int .i64 proto, .int .i64 id0, .int .i64 (4 : Int), .int .i64 (-1 : Int), .slice cell_b cell_l cell_c] (Addr.add a_2 (i.toNat * 6)) 0 w fun w2 =>
    Bm more (
      Pn p fun a_3 =>
      LdL (a_3.add 3) w2 fun x193_b x193_l x193_c =>
      Pn x193_b fun a_4 =>
      (0 ≤ i ∧ i < ((x193_l : Nat) : Int)) ∧
      LdI .i64 ((Addr.add a_4 (i.toNat * 6)).add 4) w2 fun x197 =>
      Bm (decide (x197 ≥ (0 : Int))) (
        Pn p fun a_5 =>
        LdL (a_5.add 3) w2 fun x206_b x206_l x206_c =>
        Pn x206_b fun a_6 =>
        (0 ≤ i ∧ i < ((x206_l : Nat) : Int)) ∧
        LdI .i64 ((Addr.add a_6 (i.toNat * 6)).add 4) w2 fun x210 =>
        ipm_IP_Input.B3 p pkt_b pkt_l pkt_c t4 none0 n proto src off more i (decide ((IntKind.i64.wrap (off + n)) > x210)) w2  R) (
        ipm_IP_Input.B3 p pkt_b pkt_l pkt_c t4 none0 n proto src off more i false w2  R)) (
      Pn p fun a_7 =>
      LdL (a_7.add 3) w2 fun x216_b x216_l x216_c =>
      Pn x216_b fun a_8 =>
      (0 ≤ i ∧ i < ((x216_l : Nat) : Int)) ∧
      LdI .i64 ((Addr.add a_8 (i.toNat * 6)).add 4) w2 fun x220 =>
      Bm (decide (x220 ≥ (0 : Int))) (
        Pn p fun a_9 =>
        LdL (a_9.add 3) w2 fun x226_b x226_l x226_c =>
        Pn x226_b fun a_10 =>
        (0 ≤ i ∧ i < ((x226_l : Nat) : Int)) ∧
        LdI .i64 ((Addr.add a_10 (i.toNat * 6)).add 4) w2 fun x230 =>
        ipm_IP_Input.B4 p pkt_b pkt_l pkt_c t4 none0 n proto src off more i (x230 != (IntKind.i64.wrap (off + n))) w2  R) (
        ipm_IP_Input.B4 p pkt_b pkt_l pkt_c t4 none0 n proto src off more i false w2  R)))
theorem ipm_IP_Input.L3b_eq (p pkt_b : Option Addr) (pkt_l pkt_c t4 none0 : Nat) (n proto src id0 off : Int) (more : Bool) (i : Int) (cell_b : Option Addr) (cell_l cell_c : Nat) (k : Int) (w : World)  (N3 : Option Addr → Option Addr → Nat → Nat → Nat → Nat → Int → Int → Int → Int → Int → Bool → Int → Option Addr → Nat → Nat → Int → World → Prop) (R : Int → Int → Int → Option Addr → Nat → Nat → Int → World → Prop) (sB3 : Option Addr → Option Addr → Nat → Nat → Nat → Nat → Int → Int → Int → Int → Bool → Int → Bool → World → Prop) (sB4 : Option Addr → Option Addr → Nat → Nat → Nat → Nat → Int → Int → Int → Int → Bool → Int → Bool → World → Prop) :
    (
  Bm (decide (k < (40 : Int))) (
    Pn cell_b fun a =>
    (0 ≤ k ∧ k < ((cell_l : Nat) : Int)) ∧
    Sts [.int .i64 (-1 : Int)] (Addr.add a (k.toNat * 1)) 0 w fun w1 =>
    N3 p pkt_b pkt_l pkt_c t4 none0 n proto src id0 off more i cell_b cell_l cell_c (IntKind.i64.wrap (k + (1 : Int))) w1) (
    Pn p fun a_1 =>
    LdL (a_1.add 3) w fun x181_b x181_l x181_c =>
    Pn x181_b fun a_2 =>
    (0 ≤ i ∧ i < ((x181_l : Nat) : Int)) ∧
    Sts [.int .i64 src, .int .i64 proto, .int .i64 id0, .int .i64 (4 : Int), .int .i64 (-1 : Int), .slice cell_b cell_l cell_c] (Addr.add a_2 (i.toNat * 6)) 0 w fun w2 =>
    Bm more (
      Pn p fun a_3 =>
      LdL (a_3.add 3) w2 fun x193_b x193_l x193_c =>
      Pn x193_b fun a_4 =>
      (0 ≤ i ∧ i < ((x193_l : Nat) : Int)) ∧
      LdI .i64 ((Addr.add a_4 (i.toNat * 6)).add 4) w2 fun x197 =>
      Bm (decide (x197 ≥ (0 : Int))) (
        Pn p fun a_5 =>
        LdL (a_5.add 3) w2 fun x206_b x206_l x206_c =>
        Pn x206_b fun a_6 =>
        (0 ≤ i ∧ i < ((x206_l : Nat) : Int)) ∧
        LdI .i64 ((Addr.add a_6 (i.toNat * 6)).add 4) w2 fun x210 =>
        sB3 p pkt_b pkt_l pkt_c t4 none0 n proto src off more i (decide ((IntKind.i64.wrap (off + n)) > x210)) w2) (
        sB3 p pkt_b pkt_l pkt_c t4 none0 n proto src off more i false w2)) (
      Pn p fun a_7 =>
      LdL (a_7.add 3) w2 fun x216_b x216_l x216_c =>
      Pn x216_b fun a_8 =>
      (0 ≤ i ∧ i < ((x216_l : Nat) : Int)) ∧
      LdI .i64 ((Addr.add a_8 (i.toNat * 6)).add 4) w2 fun x220 =>
      Bm (decide (x220 ≥ (0 : Int))) (
        Pn p fun a_9 =>
        LdL (a_9.add 3) w2 fun x226_b x226_l x226_c =>
        Pn x226_b fun a_10 =>
        (0 ≤ i ∧ i < ((x226_l : Nat) : Int)) ∧
        LdI .i64 ((Addr.add a_10 (i.toNat * 6)).add 4) w2 fun x230 =>
        sB4 p pkt_b pkt_l pkt_c t4 none0 n proto src off more i (x230 != (IntKind.i64.wrap (off + n))) w2) (
        sB4 p pkt_b pkt_l pkt_c t4 none0 n proto src off more i false w2)))) = kstep Try.prog 347 Try.f44.results.toList (Try.f44.body.getD .skip) (ipm_IP_Input.RV R) (kvc Try.prog 347 Try.f44.results.toList (Try.f44.body.getD .skip) (ipm_IP_Input.RV R) [([(0, [1, 1, 1, 1, 1, 1, 1, 1, 1, 1, 1, 1, 1, 1, 0, 1, 0, 1, 1, 1, 1, 1, 1, 0, 1, 0, 0]), (2, [1, 1, 1, 1, 1, 1, 1, 1, 1, 1, 1, 1, 1, 1, 0, 1, 0, 1, 1, 1, 1, 1, 1, 0, 1, 0, 0]), (1, [2]), (0, [1, 1, 1, 1, 1, 1, 1, 1, 1, 1, 1, 1, 1, 1, 0, 1, 0, 1, 1, 1, 1, 1, 1, 1]), (0, [1, 1, 1, 1, 1, 1, 1, 1, 1, 1, 1, 1, 1, 1, 1])], fun σ w => dP (slotOf σ 0) fun p_ => dL (slotOf σ 1) fun pkt_b_ pkt_l_ pkt_c_ => dK (slotOf σ 4) fun t4_ => dK (slotOf σ 6) fun none0_ => dI .i64 (slotOf σ 7) fun n_ => dI .i64 (slotOf σ 8) fun proto_ => dI .i64 (slotOf σ 9) fun src_ => dI .i64 (slotOf σ 10) fun id0_ => dI .i64 (slotOf σ 11) fun off_ => dB (slotOf σ 12) fun more_ => dI .i64 (slotOf σ 13) fun i_ => dL (slotOf σ 14) fun cell_b_ cell_l_ cell_c_ => dI .i64 (slotOf σ 15) fun k_ => N3 p_ pkt_b_ pkt_l_ pkt_c_ t4_ none0_ n_ proto_ src_ id0_ off_ more_ i_ cell_b_ cell_l_ cell_c_ k_ w),
    ([(0, [1, 1, 1, 1, 1, 1, 1, 1, 1, 1, 1, 1, 1, 1, 1, 1, 1])], fun σ w => dP (slotOf σ 0) fun p_ => dL (slotOf σ 1) fun pkt_b_ pkt_l_ pkt_c_ => dK (slotOf σ 4) fun t4_ => dK (slotOf σ 6) fun none0_ => dI .i64 (slotOf σ 7) fun n_ => dI .i64 (slotOf σ 8) fun proto_ => dI .i64 (slotOf σ 9) fun src_ => dI .i64 (slotOf σ 11) fun off_ => dB (slotOf σ 12) fun more_ => dI .i64 (slotOf σ 13) fun i_ => dB (slotOf σ 16) fun bad_ => sB3 p_ pkt_b_ pkt_l_ pkt_c_ t4_ none0_ n_ proto_ src_ off_ more_ i_ bad_ w),
    ([(0, [1, 1, 1, 1, 1, 1, 1, 1, 1, 1, 1, 1, 1, 1, 1, 1, 0, 1, 1, 1]), (0, [1, 1, 1, 1, 1, 1, 1, 1, 1, 1, 1, 1, 1, 1, 1, 1, 1])], fun σ w => dP (slotOf σ 0) fun p_ => dL (slotOf σ 1) fun pkt_b_ pkt_l_ pkt_c_ => dK (slotOf σ 4) fun t4_ => dK (slotOf σ 6) fun none0_ => dI .i64 (slotOf σ 7) fun n_ => dI .i64 (slotOf σ 8) fun proto_ => dI .i64 (slotOf σ 9) fun src_ => dI .i64 (slotOf σ 11) fun off_ => dB (slotOf σ 12) fun more_ => dI .i64 (slotOf σ 13) fun i_ => dB (slotOf σ 16) fun bad_ => sB4 p_ pkt_b_ pkt_l_ pkt_c_ t4_ none0_ n_ proto_ src_ off_ more_ i_ bad_ w)] 2000) [(0, [1, 1, 1, 1, 1, 1, 1, 1, 1, 1, 1, 1, 1, 1, 0, 1, 0, 1, 1, 1, 1, 1, 1, 0, 1, 0, 0]), (2, [1, 1, 1, 1, 1, 1, 1, 1, 1, 1, 1, 1, 1, 1, 0, 1, 0, 1, 1, 1, 1, 1, 1, 0, 1, 0, 0]), (1, [2]), (0, [1, 1, 1, 1, 1, 1, 1, 1, 1, 1, 1, 1, 1, 1, 0, 1, 0, 1, 1, 1, 1, 1, 1, 1]), (0, [1, 1, 1, 1, 1, 1, 1, 1, 1, 1, 1, 1, 1, 1, 1])] [(0, .pointer p), (1, .slice pkt_b pkt_l pkt_c), (4, .pointer (some ⟨t4, 0, none⟩)), (6, .pointer (some ⟨none0, 0, none⟩)), (7, .int .i64 n), (8, .int .i64 proto), (9, .int .i64 src), (10, .int .i64 id0), (11, .int .i64 off), (12, .bool more), (13, .int .i64 i), (14, .slice cell_b cell_l cell_c), (15, .int .i64 k)] w := by kernel_rfl
theorem ipm_IP_Input.L3b_sound {R : Int → Int → Int → Option Addr → Nat → Nat → Int → World → Prop} {N3 : Option Addr → Option Addr → Nat → Nat → Nat → Nat → Int → Int → Int → Int → Int → Bool → Int → Option Addr → Nat → Nat → Int → World → Prop} (hN3 : ∀ p pkt_b pkt_l pkt_c t4 none0 n proto src id0 off more i cell_b cell_l cell_c k w, N3 p pkt_b pkt_l pkt_c t4 none0 n proto src id0 off more i cell_b cell_l cell_c k w → KW Try.prog 44 347 (ipm_IP_Input.RV R) ([(0, [1, 1, 1, 1, 1, 1, 1, 1, 1, 1, 1, 1, 1, 1, 0, 1, 0, 1, 1, 1, 1, 1, 1, 0, 1, 0, 0]), (2, [1, 1, 1, 1, 1, 1, 1, 1, 1, 1, 1, 1, 1, 1, 0, 1, 0, 1, 1, 1, 1, 1, 1, 0, 1, 0, 0]), (1, [2]), (0, [1, 1, 1, 1, 1, 1, 1, 1, 1, 1, 1, 1, 1, 1, 0, 1, 0, 1, 1, 1, 1, 1, 1, 1]), (0, [1, 1, 1, 1, 1, 1, 1, 1, 1, 1, 1, 1, 1, 1, 1])].map (toItem (Try.f44.body.getD .skip))) [(0, .pointer p), (1, .slice pkt_b pkt_l pkt_c), (4, .pointer (some ⟨t4, 0, none⟩)), (6, .pointer (some ⟨none0, 0, none⟩)), (7, .int .i64 n), (8, .int .i64 proto), (9, .int .i64 src), (10, .int .i64 id0), (11, .int .i64 off), (12, .bool more), (13, .int .i64 i), (14, .slice cell_b cell_l cell_c), (15, .int .i64 k)] w) (p pkt_b : Option Addr) (pkt_l pkt_c t4 none0 : Nat) (n proto src id0 off : Int) (more : Bool) (i : Int) (cell_b : Option Addr) (cell_l cell_c : Nat) (k : Int) (w : World) (h : ipm_IP_Input.L3b p pkt_b pkt_l pkt_c t4 none0 n proto src id0 off more i cell_b cell_l cell_c k w  N3 R) :
    KW Try.prog 44 347 (ipm_IP_Input.RV R) ([(0, [1, 1, 1, 1, 1, 1, 1, 1, 1, 1, 1, 1, 1, 1, 0, 1, 0, 1, 1, 1, 1, 1, 1, 0, 1, 0, 0]), (2, [1, 1, 1, 1, 1, 1, 1, 1, 1, 1, 1, 1, 1, 1, 0, 1, 0, 1, 1, 1, 1, 1, 1, 0, 1, 0, 0]), (1, [2]), (0, [1, 1, 1, 1, 1, 1, 1, 1, 1, 1, 1, 1, 1, 1, 0, 1, 0, 1, 1, 1, 1, 1, 1, 1]), (0, [1, 1, 1, 1, 1, 1, 1, 1, 1, 1, 1, 1, 1, 1, 1])].map (toItem (Try.f44.body.getD .skip))) [(0, .pointer p), (1, .slice pkt_b pkt_l pkt_c), (4, .pointer (some ⟨t4, 0, none⟩)), (6, .pointer (some ⟨none0, 0, none⟩)), (7, .int .i64 n), (8, .int .i64 proto), (9, .int .i64 src), (10, .int .i64 id0), (11, .int .i64 off), (12, .bool more), (13, .int .i64 i), (14, .slice cell_b cell_l cell_c), (15, .int .i64 k)] w := by
  exact block_spec Try.func44 Try.mixed (stops_cons (fun σ w h => by
      obtain ⟨p_, e0, h⟩ := dP_elim h
      obtain ⟨pkt_b_, pkt_l_, pkt_c_, e1, h⟩ := dL_elim h
      obtain ⟨t4_, e2, h⟩ := dK_elim h
      obtain ⟨none0_, e3, h⟩ := dK_elim h
      obtain ⟨n_, e4, h⟩ := dI_elim h
      obtain ⟨proto_, e5, h⟩ := dI_elim h
      obtain ⟨src_, e6, h⟩ := dI_elim h
      obtain ⟨id0_, e7, h⟩ := dI_elim h
      obtain ⟨off_, e8, h⟩ := dI_elim h
      obtain ⟨more_, e9, h⟩ := dB_elim h
      obtain ⟨i_, e10, h⟩ := dI_elim h
      obtain ⟨cell_b_, cell_l_, cell_c_, e11, h⟩ := dL_elim h
      obtain ⟨k_, e12, h⟩ := dI_elim h
      exact (hN3 p_ pkt_b_ pkt_l_ pkt_c_ t4_ none0_ n_ proto_ src_ id0_ off_ more_ i_ cell_b_ cell_l_ cell_c_ k_ w h).weaken (Sub.cons (Sub.cons (Sub.cons (Sub.cons (Sub.cons (Sub.cons (Sub.cons (Sub.cons (Sub.cons (Sub.cons (Sub.cons (Sub.cons (Sub.cons (Sub.nil _) e12) e11) e10) e9) e8) e7) e6) e5) e4) e3) e2) e1) e0)) (stops_cons (fun σ w h => by
      obtain ⟨p_, e0, h⟩ := dP_elim h
      obtain ⟨pkt_b_, pkt_l_, pkt_c_, e1, h⟩ := dL_elim h
      obtain ⟨t4_, e2, h⟩ := dK_elim h
      obtain ⟨none0_, e3, h⟩ := dK_elim h
      obtain ⟨n_, e4, h⟩ := dI_elim h
      obtain ⟨proto_, e5, h⟩ := dI_elim h
      obtain ⟨src_, e6, h⟩ := dI_elim h
      obtain ⟨off_, e7, h⟩ := dI_elim h
      obtain ⟨more_, e8, h⟩ := dB_elim h
      obtain ⟨i_, e9, h⟩ := dI_elim h
      obtain ⟨bad_, e10, h⟩ := dB_elim h
      exact (ipm_IP_Input.B3_sound  p_ pkt_b_ pkt_l_ pkt_c_ t4_ none0_ n_ proto_ src_ off_ more_ i_ bad_ w h).weaken (Sub.cons (Sub.cons (Sub.cons (Sub.cons (Sub.cons (Sub.cons (Sub.cons (Sub.cons (Sub.cons (Sub.cons (Sub.cons (Sub.nil _) e10) e9) e8) e7) e6) e5) e4) e3) e2) e1) e0)) (stops_cons (fun σ w h => by
      obtain ⟨p_, e0, h⟩ := dP_elim h
      obtain ⟨pkt_b_, pkt_l_, pkt_c_, e1, h⟩ := dL_elim h
      obtain ⟨t4_, e2, h⟩ := dK_elim h
      obtain ⟨none0_, e3, h⟩ := dK_elim h
      obtain ⟨n_, e4, h⟩ := dI_elim h
      obtain ⟨proto_, e5, h⟩ := dI_elim h
      obtain ⟨src_, e6, h⟩ := dI_elim h
      obtain ⟨off_, e7, h⟩ := dI_elim h
      obtain ⟨more_, e8, h⟩ := dB_elim h
      obtain ⟨i_, e9, h⟩ := dI_elim h
      obtain ⟨bad_, e10, h⟩ := dB_elim h
      exact (ipm_IP_Input.B4_sound  p_ pkt_b_ pkt_l_ pkt_c_ t4_ none0_ n_ proto_ src_ off_ more_ i_ bad_ w h).weaken (Sub.cons (Sub.cons (Sub.cons (Sub.cons (Sub.cons (Sub.cons (Sub.cons (Sub.cons (Sub.cons (Sub.cons (Sub.cons (Sub.nil _) e10) e9) e8) e7) e6) e5) e4) e3) e2) e1) e0)) stops_nil))) (Eq.mp (ipm_IP_Input.L3b_eq p pkt_b pkt_l pkt_c t4 none0 n proto src id0 off more i cell_b cell_l cell_c k w  N3 R (fun p_ pkt_b_ pkt_l_ pkt_c_ t4_ none0_ n_ proto_ src_ off_ more_ i_ bad_ w => ipm_IP_Input.B3 p_ pkt_b_ pkt_l_ pkt_c_ t4_ none0_ n_ proto_ src_ off_ more_ i_ bad_ w  R) (fun p_ pkt_b_ pkt_l_ pkt_c_ t4_ none0_ n_ proto_ src_ off_ more_ i_ bad_ w => ipm_IP_Input.B4 p_ pkt_b_ pkt_l_ pkt_c_ t4_ none0_ n_ proto_ src_ off_ more_ i_ bad_ w  R)) h)
def ipm_IP_Input.L3 (p pkt_b : Option Addr) (pkt_l pkt_c t4 none0 : Nat) (n proto src id0 off : Int) (more : Bool) (i : Int) (cell_b : Option Addr) (cell_l cell_c : Nat) (k : Int) (w : World)  (R : Int → Int → Int → Option Addr → Nat → Nat → Int → World → Prop) : Prop :=
  ∃ (I : Nat → Option Addr → Option Addr → Nat → Nat → Nat → Nat → Int → Int → Int → Int → Int → Bool → Int → Option Addr → Nat → Nat → Int → World → Prop) (m : Nat), I m p pkt_b pkt_l pkt_c t4 none0 n proto src id0 off more i cell_b cell_l cell_c k w ∧ ∀ m p pkt_b pkt_l pkt_c t4 none0 n proto src id0 off more i cell_b cell_l cell_c k w, I m p pkt_b pkt_l pkt_c t4 none0 n proto src id0 off more i cell_b cell_l cell_c k w → ipm_IP_Input.L3b p pkt_b pkt_l pkt_c t4 none0 n proto src id0 off more i cell_b cell_l cell_c k w  (fun p' pkt_b' pkt_l' pkt_c' t4' none0' n' proto' src' id0' off' more' i' cell_b' cell_l' cell_c' k' w' => ∃ m', m' < m ∧ I m' p' pkt_b' pkt_l' pkt_c' t4' none0' n' proto' src' id0' off' more' i' cell_b' cell_l' cell_c' k' w') R
theorem ipm_IP_Input.L3_sound {R : Int → Int → Int → Option Addr → Nat → Nat → Int → World → Prop}  (p pkt_b : Option Addr) (pkt_l pkt_c t4 none0 : Nat) (n proto src id0 off : Int) (more : Bool) (i : Int) (cell_b : Option Addr) (cell_l cell_c : Nat) (k : Int) (w : World) (h : ipm_IP_Input.L3 p pkt_b pkt_l pkt_c t4 none0 n proto src id0 off more i cell_b cell_l cell_c k w  R) :
    KW Try.prog 44 347 (ipm_IP_Input.RV R) ([(0, [1, 1, 1, 1, 1, 1, 1, 1, 1, 1, 1, 1, 1, 1, 0, 1, 0, 1, 1, 1, 1, 1, 1, 0, 1, 0, 0]), (2, [1, 1, 1, 1, 1, 1, 1, 1, 1, 1, 1, 1, 1, 1, 0, 1, 0, 1, 1, 1, 1, 1, 1, 0, 1, 0, 0]), (1, [2]), (0, [1, 1, 1, 1, 1, 1, 1, 1, 1, 1, 1, 1, 1, 1, 0, 1, 0, 1, 1, 1, 1, 1, 1, 1]), (0, [1, 1, 1, 1, 1, 1, 1, 1, 1, 1, 1, 1, 1, 1, 1])].map (toItem (Try.f44.body.getD .skip))) [(0, .pointer p), (1, .slice pkt_b pkt_l pkt_c), (4, .pointer (some ⟨t4, 0, none⟩)), (6, .pointer (some ⟨none0, 0, none⟩)), (7, .int .i64 n), (8, .int .i64 proto), (9, .int .i64 src), (10, .int .i64 id0), (11, .int .i64 off), (12, .bool more), (13, .int .i64 i), (14, .slice cell_b cell_l cell_c), (15, .int .i64 k)] w := by
  obtain ⟨I, m, h0, hr⟩ := h
  refine KW.loop (fun m σ w => ∃ (p pkt_b : Option Addr) (pkt_l pkt_c t4 none0 : Nat) (n proto src id0 off : Int) (more : Bool) (i : Int) (cell_b : Option Addr) (cell_l cell_c : Nat) (k : Int), σ = [(0, .pointer p), (1, .slice pkt_b pkt_l pkt_c), (4, .pointer (some ⟨t4, 0, none⟩)), (6, .pointer (some ⟨none0, 0, none⟩)), (7, .int .i64 n), (8, .int .i64 proto), (9, .int .i64 src), (10, .int .i64 id0), (11, .int .i64 off), (12, .bool more), (13, .int .i64 i), (14, .slice cell_b cell_l cell_c), (15, .int .i64 k)] ∧ I m p pkt_b pkt_l pkt_c t4 none0 n proto src id0 off more i cell_b cell_l cell_c k w) ?_ m _ w ⟨p, pkt_b, pkt_l, pkt_c, t4, none0, n, proto, src, id0, off, more, i, cell_b, cell_l, cell_c, k, rfl, h0⟩
  rintro m ih σ w ⟨p, pkt_b, pkt_l, pkt_c, t4, none0, n, proto, src, id0, off, more, i, cell_b, cell_l, cell_c, k, rfl, hI⟩
  exact ipm_IP_Input.L3b_sound  (N3 := fun p' pkt_b' pkt_l' pkt_c' t4' none0' n' proto' src' id0' off' more' i' cell_b' cell_l' cell_c' k' w' => ∃ m', m' < m ∧ I m' p' pkt_b' pkt_l' pkt_c' t4' none0' n' proto' src' id0' off' more' i' cell_b' cell_l' cell_c' k' w') (fun p' pkt_b' pkt_l' pkt_c' t4' none0' n' proto' src' id0' off' more' i' cell_b' cell_l' cell_c' k' w' hx => by obtain ⟨m', hlt, hI'⟩ := hx; exact ih m' hlt _ w' ⟨p', pkt_b', pkt_l', pkt_c', t4', none0', n', proto', src', id0', off', more', i', cell_b', cell_l', cell_c', k', rfl, hI'⟩) p pkt_b pkt_l pkt_c t4 none0 n proto src id0 off more i cell_b cell_l cell_c k w (hr m p pkt_b pkt_l pkt_c t4 none0 n proto src id0 off more i cell_b cell_l cell_c k w hI)
def ipm_IP_Input.B5 (p pkt_b : Option Addr) (pkt_l pkt_c t4 none0 : Nat) (n proto src id0 off : Int) (more : Bool) (i : Int) (t143 : Bool) (w : World) (N1 : Option Addr → Option Addr → Nat → Nat → Nat → Nat → Int → Int → Int → Int → Int → Bool → Int → World → Prop)  (R : Int → Int → Int → Option Addr → Nat → Nat → Int → World → Prop) : Prop :=
  Bm t143 (
    N1 p pkt_b pkt_l pkt_c t4 none0 n proto src id0 off more (IntKind.i64.wrap (i + (1 : Int))) w) (
    Pn p fun a =>
    LdL (a.add 3) w fun x150_b x150_l x150_c =>
    New (.cells #[.int .i64 (0 : Int), .int .i64 (0 : Int), .int .i64 (0 : Int), .int .i64 (0 : Int), .int .i64 (0 : Int), .slice none 0 0] 85) w fun b152 w1 =>
    Append 85 (.agg #[.int .i64 (0 : Int), .int .i64 (0 : Int), .int .i64 (0 : Int), .int .i64 (0 : Int), .int .i64 (0 : Int), .slice none 0 0]) 6 64 x150_b x150_l x150_c (some ⟨b152, 0, none⟩) 1 w1 fun b153 c153 w2 =>
    Pn p fun a_1 =>
    Sts [.slice b153 (x150_l + 1) c153] (a_1.add 3) 0 w2 fun w3 =>
    Pn p fun a_2 =>
    LdL (a_2.add 3) w3.drew fun x159_b x159_l x159_c =>
    (0 ≤ (IntKind.i64.wrap (i + (1 : Int))) ∧ (IntKind.i64.wrap (i + (1 : Int))) ≤ ((x159_l : Nat) : Int)) ∧
    Pn p fun a_3 =>
    LdL (a_3.add 3) w3.drew fun x166_b x166_l x166_c =>
    (0 ≤ i ∧ i ≤ ((x166_l : Nat) : Int)) ∧
    Copy 6 (slBase x159_b (IntKind.i64.wrap (i + (1 : Int))) ((x159_c : Nat) : Int) 6) (((x159_l : Nat) : Int).toNat - (IntKind.i64.wrap (i + (1 : Int))).toNat) (slBase x166_b i ((x166_c : Nat) : Int) 6) (((x166_l : Nat) : Int).toNat - i.toNat) w3.drew fun n169 w4 =>
    Make 3 (.int .i64 (0 : Int)) 1 8 (40 : Int) (40 : Int) w4 fun b170 w5 =>
    ipm_IP_Input.L3 p pkt_b pkt_l pkt_c t4 none0 n proto src id0 off more i (some ⟨b170, 0, none⟩) 40 40 (0 : Int) w5  R)
theorem ipm_IP_Input.B5_eq (p pkt_b : Option Addr) (pkt_l pkt_c t4 none0 : Nat) (n proto src id0 off : Int) (more : Bool) (i : Int) (t143 : Bool) (w : World) (N1 : Option Addr → Option Addr → Nat → Nat → Nat → Nat → Int → Int → Int → Int → Int → Bool → Int → World → Prop)  (R : Int → Int → Int → Option Addr → Nat → Nat → Int → World → Prop) (sL3 : Option Addr → Option Addr → Nat → Nat → Nat → Nat → Int → Int → Int → Int → Int → Bool → Int → Option Addr → Nat → Nat → Int → World → Prop) :
    (
  Bm t143 (
    N1 p pkt_b pkt_l pkt_c t4 none0 n proto src id0 off more (IntKind.i64.wrap (i + (1 : Int))) w) (
    Pn p fun a =>
    LdL (a.add 3) w fun x150_b x150_l x150_c =>
    New (.cells #[.int .i64 (0 : Int), .int .i64 (0 : Int), .int .i64 (0 : Int), .int .i64 (0 : Int), .int .i64 (0 : Int), .slice none 0 0] 85) w fun b152 w1 =>
    Append 85 (.agg #[.int .i64 (0 : Int), .int .i64 (0 : Int), .int .i64 (0 : Int), .int .i64 (0 : Int), .int .i64 (0 : Int), .slice none 0 0]) 6 64 x150_b x150_l x150_c (some ⟨b152, 0, none⟩) 1 w1 fun b153 c153 w2 =>
    Pn p fun a_1 =>
    Sts [.slice b153 (x150_l + 1) c153] (a_1.add 3) 0 w2 fun w3 =>
    Pn p fun a_2 =>
    LdL (a_2.add 3) w3.drew fun x159_b x159_l x159_c =>
    (0 ≤ (IntKind.i64.wrap (i + (1 : Int))) ∧ (IntKind.i64.wrap (i + (1 : Int))) ≤ ((x159_l : Nat) : Int)) ∧
    Pn p fun a_3 =>
    LdL (a_3.add 3) w3.drew fun x166_b x166_l x166_c =>
    (0 ≤ i ∧ i ≤ ((x166_l : Nat) : Int)) ∧
    Copy 6 (slBase x159_b (IntKind.i64.wrap (i + (1 : Int))) ((x159_c : Nat) : Int) 6) (((x159_l : Nat) : Int).toNat - (IntKind.i64.wrap (i + (1 : Int))).toNat) (slBase x166_b i ((x166_c : Nat) : Int) 6) (((x166_l : Nat) : Int).toNat - i.toNat) w3.drew fun n169 w4 =>
    Make 3 (.int .i64 (0 : Int)) 1 8 (40 : Int) (40 : Int) w4 fun b170 w5 =>
    sL3 p pkt_b pkt_l pkt_c t4 none0 n proto src id0 off more i (some ⟨b170, 0, none⟩) 40 40 (0 : Int) w5)) = kstep Try.prog 347 Try.f44.results.toList (Try.f44.body.getD .skip) (ipm_IP_Input.RV R) (kvc Try.prog 347 Try.f44.results.toList (Try.f44.body.getD .skip) (ipm_IP_Input.RV R) [([(0, [1, 1, 1, 1, 1, 1, 1, 1, 1, 1, 1, 1, 1, 1, 0, 1, 0, 1, 1, 0, 0, 0]), (2, [1, 1, 1, 1, 1, 1, 1, 1, 1, 1, 1, 1, 1, 1, 0, 1, 0, 1, 1, 0, 0, 0]), (1, [0]), (0, [1, 1, 1, 1, 1, 1, 1, 1, 1, 1, 1, 1, 1, 1, 0, 1, 0, 1, 1, 1]), (0, [1, 1, 1, 1, 1, 1, 1, 1, 1, 1, 1, 1, 1, 1, 1])], fun σ w => dP (slotOf σ 0) fun p_ => dL (slotOf σ 1) fun pkt_b_ pkt_l_ pkt_c_ => dK (slotOf σ 4) fun t4_ => dK (slotOf σ 6) fun none0_ => dI .i64 (slotOf σ 7) fun n_ => dI .i64 (slotOf σ 8) fun proto_ => dI .i64 (slotOf σ 9) fun src_ => dI .i64 (slotOf σ 10) fun id0_ => dI .i64 (slotOf σ 11) fun off_ => dB (slotOf σ 12) fun more_ => dI .i64 (slotOf σ 13) fun i_ => N1 p_ pkt_b_ pkt_l_ pkt_c_ t4_ none0_ n_ proto_ src_ id0_ off_ more_ i_ w),
    ([(0, [1, 1, 1, 1, 1, 1, 1, 1, 1, 1, 1, 1, 1, 1, 0, 1, 0, 1, 1, 1, 1, 1, 1, 0, 1, 0, 0]), (2, [1, 1, 1, 1, 1, 1, 1, 1, 1, 1, 1, 1, 1, 1, 0, 1, 0, 1, 1, 1, 1, 1, 1, 0, 1, 0, 0]), (1, [2]), (0, [1, 1, 1, 1, 1, 1, 1, 1, 1, 1, 1, 1, 1, 1, 0, 1, 0, 1, 1, 1, 1, 1, 1, 1]), (0, [1, 1, 1, 1, 1, 1, 1, 1, 1, 1, 1, 1, 1, 1, 1])], fun σ w => dP (slotOf σ 0) fun p_ => dL (slotOf σ 1) fun pkt_b_ pkt_l_ pkt_c_ => dK (slotOf σ 4) fun t4_ => dK (slotOf σ 6) fun none0_ => dI .i64 (slotOf σ 7) fun n_ => dI .i64 (slotOf σ 8) fun proto_ => dI .i64 (slotOf σ 9) fun src_ => dI .i64 (slotOf σ 10) fun id0_ => dI .i64 (slotOf σ 11) fun off_ => dB (slotOf σ 12) fun more_ => dI .i64 (slotOf σ 13) fun i_ => dL (slotOf σ 14) fun cell_b_ cell_l_ cell_c_ => dI .i64 (slotOf σ 15) fun k_ => sL3 p_ pkt_b_ pkt_l_ pkt_c_ t4_ none0_ n_ proto_ src_ id0_ off_ more_ i_ cell_b_ cell_l_ cell_c_ k_ w)] 2000) [(0, [1, 1, 1, 1, 1, 1, 1, 1, 1, 1, 1, 1, 1, 1, 0, 1, 0, 1, 1, 0, 0, 0, 0, 1]), (0, [1, 1, 1, 1, 1, 1, 1, 1, 1, 1, 1, 1, 1, 1, 0, 1, 0, 1, 1, 0, 0, 0, 1]), (2, [1, 1, 1, 1, 1, 1, 1, 1, 1, 1, 1, 1, 1, 1, 0, 1, 0, 1, 1, 0, 0, 0]), (1, [0]), (0, [1, 1, 1, 1, 1, 1, 1, 1, 1, 1, 1, 1, 1, 1, 0, 1, 0, 1, 1, 1]), (0, [1, 1, 1, 1, 1, 1, 1, 1, 1, 1, 1, 1, 1, 1, 1])] [(0, .pointer p), (1, .slice pkt_b pkt_l pkt_c), (4, .pointer (some ⟨t4, 0, none⟩)), (6, .pointer (some ⟨none0, 0, none⟩)), (7, .int .i64 n), (8, .int .i64 proto), (9, .int .i64 src), (10, .int .i64 id0), (11, .int .i64 off), (12, .bool more), (13, .int .i64 i), (143, .bool t143)] w := by kernel_rfl
theorem ipm_IP_Input.B5_sound {R : Int → Int → Int → Option Addr → Nat → Nat → Int → World → Prop} {N1 : Option Addr → Option Addr → Nat → Nat → Nat → Nat → Int → Int → Int → Int → Int → Bool → Int → World → Prop} (hN1 : ∀ p pkt_b pkt_l pkt_c t4 none0 n proto src id0 off more i w, N1 p pkt_b pkt_l pkt_c t4 none0 n proto src id0 off more i w → KW Try.prog 44 347 (ipm_IP_Input.RV R) ([(0, [1, 1, 1, 1, 1, 1, 1, 1, 1, 1, 1, 1, 1, 1, 0, 1, 0, 1, 1, 0, 0, 0]), (2, [1, 1, 1, 1, 1, 1, 1, 1, 1, 1, 1, 1, 1, 1, 0, 1, 0, 1, 1, 0, 0, 0]), (1, [0]), (0, [1, 1, 1, 1, 1, 1, 1, 1, 1, 1, 1, 1, 1, 1, 0, 1, 0, 1, 1, 1]), (0, [1, 1, 1, 1, 1, 1, 1, 1, 1, 1, 1, 1, 1, 1, 1])].map (toItem (Try.f44.body.getD .skip))) [(0, .pointer p), (1, .slice pkt_b pkt_l pkt_c), (4, .pointer (some ⟨t4, 0, none⟩)), (6, .pointer (some ⟨none0, 0, none⟩)), (7, .int .i64 n), (8, .int .i64 proto), (9, .int .i64 src), (10, .int .i64 id0), (11, .int .i64 off), (12, .bool more), (13, .int .i64 i)] w) (p pkt_b : Option Addr) (pkt_l pkt_c t4 none0 : Nat) (n proto src id0 off : Int) (more : Bool) (i : Int) (t143 : Bool) (w : World) (h : ipm_IP_Input.B5 p pkt_b pkt_l pkt_c t4 none0 n proto src id0 off more i t143 w N1  R) :
    KW Try.prog 44 347 (ipm_IP_Input.RV R) ([(0, [1, 1, 1, 1, 1, 1, 1, 1, 1, 1, 1, 1, 1, 1, 0, 1, 0, 1, 1, 0, 0, 0, 0, 1]), (0, [1, 1, 1, 1, 1, 1, 1, 1, 1, 1, 1, 1, 1, 1, 0, 1, 0, 1, 1, 0, 0, 0, 1]), (2, [1, 1, 1, 1, 1, 1, 1, 1, 1, 1, 1, 1, 1, 1, 0, 1, 0, 1, 1, 0, 0, 0]), (1, [0]), (0, [1, 1, 1, 1, 1, 1, 1, 1, 1, 1, 1, 1, 1, 1, 0, 1, 0, 1, 1, 1]), (0, [1, 1, 1, 1, 1, 1, 1, 1, 1, 1, 1, 1, 1, 1, 1])].map (toItem (Try.f44.body.getD .skip))) [(0, .pointer p), (1, .slice pkt_b pkt_l pkt_c), (4, .pointer (some ⟨t4, 0, none⟩)), (6, .pointer (some ⟨none0, 0, none⟩)), (7, .int .i64 n), (8, .int .i64 proto), (9, .int .i64 src), (10, .int .i64 id0), (11, .int .i64 off), (12, .bool more), (13, .int .i64 i), (143, .bool t143)] w := by
  exact block_spec Try.func44 Try.mixed (stops_cons (fun σ w h => by
      obtain ⟨p_, e0, h⟩ := dP_elim h
      obtain ⟨pkt_b_, pkt_l_, pkt_c_, e1, h⟩ := dL_elim h
      obtain ⟨t4_, e2, h⟩ := dK_elim h
      obtain ⟨none0_, e3, h⟩ := dK_elim h
      obtain ⟨n_, e4, h⟩ := dI_elim h
      obtain ⟨proto_, e5, h⟩ := dI_elim h
      obtain ⟨src_, e6, h⟩ := dI_elim h
      obtain ⟨id0_, e7, h⟩ := dI_elim h
      obtain ⟨off_, e8, h⟩ := dI_elim h
      obtain ⟨more_, e9, h⟩ := dB_elim h
      obtain ⟨i_, e10, h⟩ := dI_elim h
      exact (hN1 p_ pkt_b_ pkt_l_ pkt_c_ t4_ none0_ n_ proto_ src_ id0_ off_ more_ i_ w h).weaken (Sub.cons (Sub.cons (Sub.cons (Sub.cons (Sub.cons (Sub.cons (Sub.cons (Sub.cons (Sub.cons (Sub.cons (Sub.cons (Sub.nil _) e10) e9) e8) e7) e6) e5) e4) e3) e2) e1) e0)) (stops_cons (fun σ w h => by
      obtain ⟨p_, e0, h⟩ := dP_elim h
      obtain ⟨pkt_b_, pkt_l_, pkt_c_, e1, h⟩ := dL_elim h
      obtain ⟨t4_, e2, h⟩ := dK_elim h
      obtain ⟨none0_, e3, h⟩ := dK_elim h
      obtain ⟨n_, e4, h⟩ := dI_elim h
      obtain ⟨proto_, e5, h⟩ := dI_elim h
      obtain ⟨src_, e6, h⟩ := dI_elim h
      obtain ⟨id0_, e7, h⟩ := dI_elim h
      obtain ⟨off_, e8, h⟩ := dI_elim h
      obtain ⟨more_, e9, h⟩ := dB_elim h
      obtain ⟨i_, e10, h⟩ := dI_elim h
      obtain ⟨cell_b_, cell_l_, cell_c_, e11, h⟩ := dL_elim h
      obtain ⟨k_, e12, h⟩ := dI_elim h
      exact (ipm_IP_Input.L3_sound  p_ pkt_b_ pkt_l_ pkt_c_ t4_ none0_ n_ proto_ src_ id0_ off_ more_ i_ cell_b_ cell_l_ cell_c_ k_ w h).weaken (Sub.cons (Sub.cons (Sub.cons (Sub.cons (Sub.cons (Sub.cons (Sub.cons (Sub.cons (Sub.cons (Sub.cons (Sub.cons (Sub.cons (Sub.cons (Sub.nil _) e12) e11) e10) e9) e8) e7) e6) e5) e4) e3) e2) e1) e0)) stops_nil)) (Eq.mp (ipm_IP_Input.B5_eq p pkt_b pkt_l pkt_c t4 none0 n proto src id0 off more i t143 w N1  R (fun p_ pkt_b_ pkt_l_ pkt_c_ t4_ none0_ n_ proto_ src_ id0_ off_ more_ i_ cell_b_ cell_l_ cell_c_ k_ w => ipm_IP_Input.L3 p_ pkt_b_ pkt_l_ pkt_c_ t4_ none0_ n_ proto_ src_ id0_ off_ more_ i_ cell_b_ cell_l_ cell_c_ k_ w  R)) h)
def ipm_IP_Input.L1b (p pkt_b : Option Addr) (pkt_l pkt_c t4 none0 : Nat) (n proto src id0 off : Int) (more : Bool) (i : Int) (w : World)  (N1 : Option Addr → Option Addr → Nat → Nat → Nat → Nat → Int → Int → Int → Int → Int → Bool → Int → World → Prop) (R : Int → Int → Int → Option Addr → Nat → Nat → Int → World → Prop) : Prop :=
  Pn p fun a =>
  LdL (a.add 3) w fun x133_b x133_l x133_c =>
  Bm (decide (i < ((x133_l : Nat) : Int))) (
    ipm_IP_less.Call p i src proto id0 w fun r142 w1 =>
    ipm_IP_Input.B5 p pkt_b pkt_l pkt_c t4 none0 n proto src id0 off more i r142 w1 N1 R) (
    ipm_IP_Input.B5 p pkt_b pkt_l pkt_c t4 none0 n proto src id0 off more i false w N1 R)
theorem ipm_IP_Input.L1b_eq (p pkt_b : Option Addr) (pkt_l pkt_c t4 none0 : Nat) (n proto src id0 off : Int) (more : Bool) (i : Int) (w : World)  (N1 : Option Addr → Option Addr → Nat → Nat → Nat → Nat → Int → Int → Int → Int → Int → Bool → Int → World → Prop) (R : Int → Int → Int → Option Addr → Nat → Nat → Int → World → Prop) (sB5 : Option Addr → Option Addr → Nat → Nat → Nat → Nat → Int → Int → Int → Int → Int → Bool → Int → Bool → World → Prop) :
    (
  Pn p fun a =>
  LdL (a.add 3) w fun x133_b x133_l x133_c =>
  Bm (decide (i < ((x133_l : Nat) : Int))) (
    ipm_IP_less.Call p i src proto id0 w fun r142 w1 =>
    sB5 p pkt_b pkt_l pkt_c t4 none0 n proto src id0 off more i r142 w1) (
    sB5 p pkt_b pkt_l pkt_c t4 none0 n proto src id0 off more i false w)) = kstep Try.prog 347 Try.f44.results.toList (Try.f44.body.getD .skip) (ipm_IP_Input.RV R) (kvc Try.prog 347 Try.f44.results.toList (Try.f44.body.getD .skip) (ipm_IP_Input.RV R) [([(0, [1, 1, 1, 1, 1, 1, 1, 1, 1, 1, 1, 1, 1, 1, 0, 1, 0, 1, 1, 0, 0, 0, 0, 1]), (0, [1, 1, 1, 1, 1, 1, 1, 1, 1, 1, 1, 1, 1, 1, 0, 1, 0, 1, 1, 0, 0, 0, 1]), (2, [1, 1, 1, 1, 1, 1, 1, 1, 1, 1, 1, 1, 1, 1, 0, 1, 0, 1, 1, 0, 0, 0]), (1, [0]), (0, [1, 1, 1, 1, 1, 1, 1, 1, 1, 1, 1, 1, 1, 1, 0, 1, 0, 1, 1, 1]), (0, [1, 1, 1, 1, 1, 1, 1, 1, 1, 1, 1, 1, 1, 1, 1])], fun σ w => dP (slotOf σ 0) fun p_ => dL (slotOf σ 1) fun pkt_b_ pkt_l_ pkt_c_ => dK (slotOf σ 4) fun t4_ => dK (slotOf σ 6) fun none0_ => dI .i64 (slotOf σ 7) fun n_ => dI .i64 (slotOf σ 8) fun proto_ => dI .i64 (slotOf σ 9) fun src_ => dI .i64 (slotOf σ 10) fun id0_ => dI .i64 (slotOf σ 11) fun off_ => dB (slotOf σ 12) fun more_ => dI .i64 (slotOf σ 13) fun i_ => dB (slotOf σ 143) fun t143_ => sB5 p_ pkt_b_ pkt_l_ pkt_c_ t4_ none0_ n_ proto_ src_ id0_ off_ more_ i_ t143_ w)] 2000) [(0, [1, 1, 1, 1, 1, 1, 1, 1, 1, 1, 1, 1, 1, 1, 0, 1, 0, 1, 1, 0, 0, 0]), (2, [1, 1, 1, 1, 1, 1, 1, 1, 1, 1, 1, 1, 1, 1, 0, 1, 0, 1, 1, 0, 0, 0]), (1, [0]), (0, [1, 1, 1, 1, 1, 1, 1, 1, 1, 1, 1, 1, 1, 1, 0, 1, 0, 1, 1, 1]), (0, [1, 1, 1, 1, 1, 1, 1, 1, 1, 1, 1, 1, 1, 1, 1])] [(0, .pointer p), (1, .slice pkt_b pkt_l pkt_c), (4, .pointer (some ⟨t4, 0, none⟩)), (6, .pointer (some ⟨none0, 0, none⟩)), (7, .int .i64 n), (8, .int .i64 proto), (9, .int .i64 src), (10, .int .i64 id0), (11, .int .i64 off), (12, .bool more), (13, .int .i64 i)] w := by kernel_rfl
theorem ipm_IP_Input.L1b_sound {R : Int → Int → Int → Option Addr → Nat → Nat → Int → World → Prop} {N1 : Option Addr → Option Addr → Nat → Nat → Nat → Nat → Int → Int → Int → Int → Int → Bool → Int → World → Prop} (hN1 : ∀ p pkt_b pkt_l pkt_c t4 none0 n proto src id0 off more i w, N1 p pkt_b pkt_l pkt_c t4 none0 n proto src id0 off more i w → KW Try.prog 44 347 (ipm_IP_Input.RV R) ([(0, [1, 1, 1, 1, 1, 1, 1, 1, 1, 1, 1, 1, 1, 1, 0, 1, 0, 1, 1, 0, 0, 0]), (2, [1, 1, 1, 1, 1, 1, 1, 1, 1, 1, 1, 1, 1, 1, 0, 1, 0, 1, 1, 0, 0, 0]), (1, [0]), (0, [1, 1, 1, 1, 1, 1, 1, 1, 1, 1, 1, 1, 1, 1, 0, 1, 0, 1, 1, 1]), (0, [1, 1, 1, 1, 1, 1, 1, 1, 1, 1, 1, 1, 1, 1, 1])].map (toItem (Try.f44.body.getD .skip))) [(0, .pointer p), (1, .slice pkt_b pkt_l pkt_c), (4, .pointer (some ⟨t4, 0, none⟩)), (6, .pointer (some ⟨none0, 0, none⟩)), (7, .int .i64 n), (8, .int .i64 proto), (9, .int .i64 src), (10, .int .i64 id0), (11, .int .i64 off), (12, .bool more), (13, .int .i64 i)] w) (p pkt_b : Option Addr) (pkt_l pkt_c t4 none0 : Nat) (n proto src id0 off : Int) (more : Bool) (i : Int) (w : World) (h : ipm_IP_Input.L1b p pkt_b pkt_l pkt_c t4 none0 n proto src id0 off more i w  N1 R) :
    KW Try.prog 44 347 (ipm_IP_Input.RV R) ([(0, [1, 1, 1, 1, 1, 1, 1, 1, 1, 1, 1, 1, 1, 1, 0, 1, 0, 1, 1, 0, 0, 0]), (2, [1, 1, 1, 1, 1, 1, 1, 1, 1, 1, 1, 1, 1, 1, 0, 1, 0, 1, 1, 0, 0, 0]), (1, [0]), (0, [1, 1, 1, 1, 1, 1, 1, 1, 1, 1, 1, 1, 1, 1, 0, 1, 0, 1, 1, 1]), (0, [1, 1, 1, 1, 1, 1, 1, 1, 1, 1, 1, 1, 1, 1, 1])].map (toItem (Try.f44.body.getD .skip))) [(0, .pointer p), (1, .slice pkt_b pkt_l pkt_c), (4, .pointer (some ⟨t4, 0, none⟩)), (6, .pointer (some ⟨none0, 0, none⟩)), (7, .int .i64 n), (8, .int .i64 proto), (9, .int .i64 src), (10, .int .i64 id0), (11, .int .i64 off), (12, .bool more), (13, .int .i64 i)] w := by
  exact block_spec Try.func44 Try.mixed (stops_cons (fun σ w h => by
      obtain ⟨p_, e0, h⟩ := dP_elim h
      obtain ⟨pkt_b_, pkt_l_, pkt_c_, e1, h⟩ := dL_elim h
      obtain ⟨t4_, e2, h⟩ := dK_elim h
      obtain ⟨none0_, e3, h⟩ := dK_elim h
      obtain ⟨n_, e4, h⟩ := dI_elim h
      obtain ⟨proto_, e5, h⟩ := dI_elim h
      obtain ⟨src_, e6, h⟩ := dI_elim h
      obtain ⟨id0_, e7, h⟩ := dI_elim h
      obtain ⟨off_, e8, h⟩ := dI_elim h
      obtain ⟨more_, e9, h⟩ := dB_elim h
      obtain ⟨i_, e10, h⟩ := dI_elim h
      obtain ⟨t143_, e11, h⟩ := dB_elim h
      exact (ipm_IP_Input.B5_sound hN1 p_ pkt_b_ pkt_l_ pkt_c_ t4_ none0_ n_ proto_ src_ id0_ off_ more_ i_ t143_ w h).weaken (Sub.cons (Sub.cons (Sub.cons (Sub.cons (Sub.cons (Sub.cons (Sub.cons (Sub.cons (Sub.cons (Sub.cons (Sub.cons (Sub.cons (Sub.nil _) e11) e10) e9) e8) e7) e6) e5) e4) e3) e2) e1) e0)) stops_nil) (Eq.mp (ipm_IP_Input.L1b_eq p pkt_b pkt_l pkt_c t4 none0 n proto src id0 off more i w  N1 R (fun p_ pkt_b_ pkt_l_ pkt_c_ t4_ none0_ n_ proto_ src_ id0_ off_ more_ i_ t143_ w => ipm_IP_Input.B5 p_ pkt_b_ pkt_l_ pkt_c_ t4_ none0_ n_ proto_ src_ id0_ off_ more_ i_ t143_ w N1 R)) h)
def ipm_IP_Input.L1 (p pkt_b : Option Addr) (pkt_l pkt_c t4 none0 : Nat) (n proto src id0 off : Int) (more : Bool) (i : Int) (w : World)  (R : Int → Int → Int → Option Addr → Nat → Nat → Int → World → Prop) : Prop :=
  ∃ (I : Nat → Option Addr → Option Addr → Nat → Nat → Nat → Nat → Int → Int → Int → Int → Int → Bool → Int → World → Prop) (m : Nat), I m p pkt_b pkt_l pkt_c t4 none0 n proto src id0 off more i w ∧ ∀ m p pkt_b pkt_l pkt_c t4 none0 n proto src id0 off more i w, I m p pkt_b pkt_l pkt_c t4 none0 n proto src id0 off more i w → ipm_IP_Input.L1b p pkt_b pkt_l pkt_c t4 none0 n proto src id0 off more i w  (fun p' pkt_b' pkt_l' pkt_c' t4' none0' n' proto' src' id0' off' more' i' w' => ∃ m', m' < m ∧ I m' p' pkt_b' pkt_l' pkt_c' t4' none0' n' proto' src' id0' off' more' i' w') R
theorem ipm_IP_Input.L1_sound {R : Int → Int → Int → Option Addr → Nat → Nat → Int → World → Prop}  (p pkt_b : Option Addr) (pkt_l pkt_c t4 none0 : Nat) (n proto src id0 off : Int) (more : Bool) (i : Int) (w : World) (h : ipm_IP_Input.L1 p pkt_b pkt_l pkt_c t4 none0 n proto src id0 off more i w  R) :
    KW Try.prog 44 347 (ipm_IP_Input.RV R) ([(0, [1, 1, 1, 1, 1, 1, 1, 1, 1, 1, 1, 1, 1, 1, 0, 1, 0, 1, 1, 0, 0, 0]), (2, [1, 1, 1, 1, 1, 1, 1, 1, 1, 1, 1, 1, 1, 1, 0, 1, 0, 1, 1, 0, 0, 0]), (1, [0]), (0, [1, 1, 1, 1, 1, 1, 1, 1, 1, 1, 1, 1, 1, 1, 0, 1, 0, 1, 1, 1]), (0, [1, 1, 1, 1, 1, 1, 1, 1, 1, 1, 1, 1, 1, 1, 1])].map (toItem (Try.f44.body.getD .skip))) [(0, .pointer p), (1, .slice pkt_b pkt_l pkt_c), (4, .pointer (some ⟨t4, 0, none⟩)), (6, .pointer (some ⟨none0, 0, none⟩)), (7, .int .i64 n), (8, .int .i64 proto), (9, .int .i64 src), (10, .int .i64 id0), (11, .int .i64 off), (12, .bool more), (13, .int .i64 i)] w := by
  obtain ⟨I, m, h0, hr⟩ := h
  refine KW.loop (fun m σ w => ∃ (p pkt_b : Option Addr) (pkt_l pkt_c t4 none0 : Nat) (n proto src id0 off : Int) (more : Bool) (i : Int), σ = [(0, .pointer p), (1, .slice pkt_b pkt_l pkt_c), (4, .pointer (some ⟨t4, 0, none⟩)), (6, .pointer (some ⟨none0, 0, none⟩)), (7, .int .i64 n), (8, .int .i64 proto), (9, .int .i64 src), (10, .int .i64 id0), (11, .int .i64 off), (12, .bool more), (13, .int .i64 i)] ∧ I m p pkt_b pkt_l pkt_c t4 none0 n proto src id0 off more i w) ?_ m _ w ⟨p, pkt_b, pkt_l, pkt_c, t4, none0, n, proto, src, id0, off, more, i, rfl, h0⟩
  rintro m ih σ w ⟨p, pkt_b, pkt_l, pkt_c, t4, none0, n, proto, src, id0, off, more, i, rfl, hI⟩
  exact ipm_IP_Input.L1b_sound  (N1 := fun p' pkt_b' pkt_l' pkt_c' t4' none0' n' proto' src' id0' off' more' i' w' => ∃ m', m' < m ∧ I m' p' pkt_b' pkt_l' pkt_c' t4' none0' n' proto' src' id0' off' more' i' w') (fun p' pkt_b' pkt_l' pkt_c' t4' none0' n' proto' src' id0' off' more' i' w' hx => by obtain ⟨m', hlt, hI'⟩ := hx; exact ih m' hlt _ w' ⟨p', pkt_b', pkt_l', pkt_c', t4', none0', n', proto', src', id0', off', more', i', rfl, hI'⟩) p pkt_b pkt_l pkt_c t4 none0 n proto src id0 off more i w (hr m p pkt_b pkt_l pkt_c t4 none0 n proto src id0 off more i w hI)
def ipm_IP_Input.B2 (p pkt_b : Option Addr) (pkt_l pkt_c t4 none0 : Nat) (n proto src id0 off : Int) (more t104 : Bool) (w : World)   (R : Int → Int → Int → Option Addr → Nat → Nat → Int → World → Prop) : Prop :=
  Bm t104 (
    Pn p fun a =>
    LdI .i64 a w.drew fun x109 =>
    (0 ≤ (8 : Int) ∧ (8 : Int) ≤ ((pkt_l : Nat) : Int)) ∧
    api_CopyBytes.Call (slBase pkt_b (8 : Int) ((pkt_c : Nat) : Int) 1) (((pkt_l : Nat) : Int).toNat - (8 : Int).toNat) (((pkt_c : Nat) : Int).toNat - (8 : Int).toNat) w.drew fun r113_b r113_l r113_c w1 =>
    w1.cell? a = some (.int .i64 x109) ∧
    Sts [.int .i64 src, .int .i64 x109, .int .i64 proto, .slice r113_b r113_l r113_c] ⟨t4, 0, none⟩ 0 w1 fun w2 =>
    LdI .i64 ⟨t4, 0, none⟩ w2 fun r_0 =>
    LdI .i64 ⟨t4, 1, none⟩ w2 fun r_1 =>
    LdI .i64 ⟨t4, 2, none⟩ w2 fun r_2 =>
    LdL ⟨t4, 3, none⟩ w2 fun r_3_b r_3_l r_3_c =>
    R r_0 r_1 r_2 r_3_b r_3_l r_3_c (0 : Int) w2) (
    ipm_IP_find.Call p src proto id0 w fun r119 w3 =>
    Bm (decide (r119 < (0 : Int))) (
      Pn p fun a_1 =>
      LdL (a_1.add 3) w3 fun x125_b x125_l x125_c =>
      Bm (((x125_l : Nat) : Int) == (3 : Int)) (
        LdI .i64 ⟨none0, 0, none⟩ w3 fun x128_0 =>
        LdI .i64 ⟨none0, 1, none⟩ w3 fun x128_1 =>
        LdI .i64 ⟨none0, 2, none⟩ w3 fun x128_2 =>
        LdL ⟨none0, 3, none⟩ w3 fun x128_3_b x128_3_l x128_3_c =>
        Sts [.int .i64 x128_0, .int .i64 x128_1, .int .i64 x128_2, .slice x128_3_b x128_3_l x128_3_c] ⟨t4, 0, none⟩ 0 w3 fun w4 =>
        LdI .i64 ⟨t4, 0, none⟩ w4 fun r_0_1 =>
        LdI .i64 ⟨t4, 1, none⟩ w4 fun r_1_1 =>
        LdI .i64 ⟨t4, 2, none⟩ w4 fun r_2_1 =>
        LdL ⟨t4, 3, none⟩ w4 fun r_3_b_1 r_3_l_1 r_3_c_1 =>
        R r_0_1 r_1_1 r_2_1 r_3_b_1 r_3_l_1 r_3_c_1 (11 : Int) w4) (
        ipm_IP_Input.L1 p pkt_b pkt_l pkt_c t4 none0 n proto src id0 off more (0 : Int) w3  R)) (
      Bm more (
        Pn p fun a_2 =>
        LdL (a_2.add 3) w3 fun x193_b x193_l x193_c =>
        Pn x193_b fun a_3 =>
        (0 ≤ r119 ∧ r119 < ((x193_l : Nat) : Int)) ∧
        LdI .i64 ((Addr.add a_3 (r119.toNat * 6)).add 4) w3 fun x197 =>
        Bm (decide (x197 ≥ (0 : Int))) (
          Pn p fun a_4 =>
          LdL (a_4.add 3) w3 fun x206_b x206_l x206_c =>
          Pn x206_b fun a_5 =>
          (0 ≤ r119 ∧ r119 < ((x206_l : Nat) : Int)) ∧
          LdI .i64 ((Addr.add a_5 (r119.toNat * 6)).add 4) w3 fun x210 =>
          ipm_IP_Input.B3 p pkt_b pkt_l pkt_c t4 none0 n proto src off more r119 (decide ((IntKind.i64.wrap (off + n)) > x210)) w3  R) (
          ipm_IP_Input.B3 p pkt_b pkt_l pkt_c t4 none0 n proto src off more r119 false w3  R)) (
        Pn p fun a_6 =>
        LdL (a_6.add 3) w3 fun x216_b x216_l x216_c =>
        Pn x216_b fun a_7 =>
        (0 ≤ r119 ∧ r119 < ((x216_l : Nat) : Int)) ∧
        LdI .i64 ((Addr.add a_7 (r119.toNat * 6)).add 4) w3 fun x220 =>
        Bm (decide (x220 ≥ (0 : Int))) (
          Pn p fun a_8 =>
          LdL (a_8.add 3) w3 fun x226_b x226_l x226_c =>
          Pn x226_b fun a_9 =>
          (0 ≤ r119 ∧ r119 < ((x226_l : Nat) : Int)) ∧
          LdI .i64 ((Addr.add a_9 (r119.toNat * 6)).add 4) w3 fun x230 =>
          ipm_IP_Input.B4 p pkt_b pkt_l pkt_c t4 none0 n proto src off more r119 (x230 != (IntKind.i64.wrap (off + n))) w3  R) (
          ipm_IP_Input.B4 p pkt_b pkt_l pkt_c t4 none0 n proto src off more r119 false w3  R))))
theorem ipm_IP_Input.B2_eq (p pkt_b : Option Addr) (pkt_l pkt_c t4 none0 : Nat) (n proto src id0 off : Int) (more t104 : Bool) (w : World)   (R : Int → Int → Int → Option Addr → Nat → Nat → Int → World → Prop) (sL1 : Option Addr → Option Addr → Nat → Nat → Nat → Nat → Int → Int → Int → Int → Int → Bool → Int → World → Prop) (sB3 : Option Addr → Option Addr → Nat → Nat → Nat → Nat → Int → Int → Int → Int → Bool → Int → Bool → World → Prop) (sB4 : Option Addr → Option Addr → Nat → Nat → Nat → Nat → Int → Int → Int → Int → Bool → Int → Bool → World → Prop) :
    (
  Bm t104 (
    Pn p fun a =>
    LdI .i64 a w.drew fun x109 =>
    (0 ≤ (8 : Int) ∧ (8 : Int) ≤ ((pkt_l : Nat) : Int)) ∧
    api_CopyBytes.Call (slBase pkt_b (8 : Int) ((pkt_c : Nat) : Int) 1) (((pkt_l : Nat) : Int).toNat - (8 : Int).toNat) (((pkt_c : Nat) : Int).toNat - (8 : Int).toNat) w.drew fun r113_b r113_l r113_c w1 =>
    w1.cell? a = some (.int .i64 x109) ∧
    Sts [.int .i64 src, .int .i64 x109, .int .i64 proto, .slice r113_b r113_l r113_c] ⟨t4, 0, none⟩ 0 w1 fun w2 =>
    LdI .i64 ⟨t4, 0, none⟩ w2 fun r_0 =>
    LdI .i64 ⟨t4, 1, none⟩ w2 fun r_1 =>
    LdI .i64 ⟨t4, 2, none⟩ w2 fun r_2 =>
    LdL ⟨t4, 3, none⟩ w2 fun r_3_b r_3_l r_3_c =>
    R r_0 r_1 r_2 r_3_b r_3_l r_3_c (0 : Int) w2) (
    ipm_IP_find.Call p src proto id0 w fun r119 w3 =>
    Bm (decide (r119 < (0 : Int))) (
      Pn p fun a_1 =>
      LdL (a_1.add 3) w3 fun x125_b x125_l x125_c =>
      Bm (((x125_l : Nat) : Int) == (3 : Int)) (
        LdI .i64 ⟨none0, 0, none⟩ w3 fun x128_0 =>
        LdI .i64 ⟨none0, 1, none⟩ w3 fun x128_1 =>
        LdI .i64 ⟨none0, 2, none⟩ w3 fun x128_2 =>
        LdL ⟨none0, 3, none⟩ w3 fun x128_3_b x128_3_l x128_3_c =>
        Sts [.int .i64 x128_0, .int .i64 x128_1, .int .i64 x128_2, .slice x128_3_b x128_3_l x128_3_c] ⟨t4, 0, none⟩ 0 w3 fun w4 =>
        LdI .i64 ⟨t4, 0, none⟩ w4 fun r_0_1 =>
        LdI .i64 ⟨t4, 1, none⟩ w4 fun r_1_1 =>
        LdI .i64 ⟨t4, 2, none⟩ w4 fun r_2_1 =>
        LdL ⟨t4, 3, none⟩ w4 fun r_3_b_1 r_3_l_1 r_3_c_1 =>
        R r_0_1 r_1_1 r_2_1 r_3_b_1 r_3_l_1 r_3_c_1 (11 : Int) w4) (
        sL1 p pkt_b pkt_l pkt_c t4 none0 n proto src id0 off more (0 : Int) w3)) (
      Bm more (
        Pn p fun a_2 =>
        LdL (a_2.add 3) w3 fun x193_b x193_l x193_c =>
        Pn x193_b fun a_3 =>
        (0 ≤ r119 ∧ r119 < ((x193_l : Nat) : Int)) ∧
        LdI .i64 ((Addr.add a_3 (r119.toNat * 6)).add 4) w3 fun x197 =>
        Bm (decide (x197 ≥ (0 : Int))) (
          Pn p fun a_4 =>
          LdL (a_4.add 3) w3 fun x206_b x206_l x206_c =>
          Pn x206_b fun a_5 =>
          (0 ≤ r119 ∧ r119 < ((x206_l : Nat) : Int)) ∧
          LdI .i64 ((Addr.add a_5 (r119.toNat * 6)).add 4) w3 fun x210 =>
          sB3 p pkt_b pkt_l pkt_c t4 none0 n proto src off more r119 (decide ((IntKind.i64.wrap (off + n)) > x210)) w3) (
          sB3 p pkt_b pkt_l pkt_c t4 none0 n proto src off more r119 false w3)) (
        Pn p fun a_6 =>
        LdL (a_6.add 3) w3 fun x216_b x216_l x216_c =>
        Pn x216_b fun a_7 =>
        (0 ≤ r119 ∧ r119 < ((x216_l : Nat) : Int)) ∧
        LdI .i64 ((Addr.add a_7 (r119.toNat * 6)).add 4) w3 fun x220 =>
        Bm (decide (x220 ≥ (0 : Int))) (
          Pn p fun a_8 =>
          LdL (a_8.add 3) w3 fun x226_b x226_l x226_c =>
          Pn x226_b fun a_9 =>
          (0 ≤ r119 ∧ r119 < ((x226_l : Nat) : Int)) ∧
          LdI .i64 ((Addr.add a_9 (r119.toNat * 6)).add 4) w3 fun x230 =>
          sB4 p pkt_b pkt_l pkt_c t4 none0 n proto src off more r119 (x230 != (IntKind.i64.wrap (off + n))) w3) (
          sB4 p pkt_b pkt_l pkt_c t4 none0 n proto src off more r119 false w3))))) = kstep Try.prog 347 Try.f44.results.toList (Try.f44.body.getD .skip) (ipm_IP_Input.RV R) (kvc Try.prog 347 Try.f44.results.toList (Try.f44.body.getD .skip) (ipm_IP_Input.RV R) [([(0, [1, 1, 1, 1, 1, 1, 1, 1, 1, 1, 1, 1, 1, 1, 0, 1, 0, 1, 1, 0, 0, 0]), (2, [1, 1, 1, 1, 1, 1, 1, 1, 1, 1, 1, 1, 1, 1, 0, 1, 0, 1, 1, 0, 0, 0]), (1, [0]), (0, [1, 1, 1, 1, 1, 1, 1, 1, 1, 1, 1, 1, 1, 1, 0, 1, 0, 1, 1, 1]), (0, [1, 1, 1, 1, 1, 1, 1, 1, 1, 1, 1, 1, 1, 1, 1])], fun σ w => dP (slotOf σ 0) fun p_ => dL (slotOf σ 1) fun pkt_b_ pkt_l_ pkt_c_ => dK (slotOf σ 4) fun t4_ => dK (slotOf σ 6) fun none0_ => dI .i64 (slotOf σ 7) fun n_ => dI .i64 (slotOf σ 8) fun proto_ => dI .i64 (slotOf σ 9) fun src_ => dI .i64 (slotOf σ 10) fun id0_ => dI .i64 (slotOf σ 11) fun off_ => dB (slotOf σ 12) fun more_ => dI .i64 (slotOf σ 13) fun i_ => sL1 p_ pkt_b_ pkt_l_ pkt_c_ t4_ none0_ n_ proto_ src_ id0_ off_ more_ i_ w),
    ([(0, [1, 1, 1, 1, 1, 1, 1, 1, 1, 1, 1, 1, 1, 1, 1, 1, 1])], fun σ w => dP (slotOf σ 0) fun p_ => dL (slotOf σ 1) fun pkt_b_ pkt_l_ pkt_c_ => dK (slotOf σ 4) fun t4_ => dK (slotOf σ 6) fun none0_ => dI .i64 (slotOf σ 7) fun n_ => dI .i64 (slotOf σ 8) fun proto_ => dI .i64 (slotOf σ 9) fun src_ => dI .i64 (slotOf σ 11) fun off_ => dB (slotOf σ 12) fun more_ => dI .i64 (slotOf σ 13) fun i_ => dB (slotOf σ 16) fun bad_ => sB3 p_ pkt_b_ pkt_l_ pkt_c_ t4_ none0_ n_ proto_ src_ off_ more_ i_ bad_ w),
    ([(0, [1, 1, 1, 1, 1, 1, 1, 1, 1, 1, 1, 1, 1, 1, 1, 1, 0, 1, 1, 1]), (0, [1, 1, 1, 1, 1, 1, 1, 1, 1, 1, 1, 1, 1, 1, 1, 1, 1])], fun σ w => dP (slotOf σ 0) fun p_ => dL (slotOf σ 1) fun pkt_b_ pkt_l_ pkt_c_ => dK (slotOf σ 4) fun t4_ => dK (slotOf σ 6) fun none0_ => dI .i64 (slotOf σ 7) fun n_ => dI .i64 (slotOf σ 8) fun proto_ => dI .i64 (slotOf σ 9) fun src_ => dI .i64 (slotOf σ 11) fun off_ => dB (slotOf σ 12) fun more_ => dI .i64 (slotOf σ 13) fun i_ => dB (slotOf σ 16) fun bad_ => sB4 p_ pkt_b_ pkt_l_ pkt_c_ t4_ none0_ n_ proto_ src_ off_ more_ i_ bad_ w)] 2000) [(0, [1, 1, 1, 1, 1, 1, 1, 1, 1, 1, 1, 1, 0, 1]), (0, [1, 1, 1, 1, 1, 1, 1, 1, 1, 1, 1, 1, 1])] [(0, .pointer p), (1, .slice pkt_b pkt_l pkt_c), (4, .pointer (some ⟨t4, 0, none⟩)), (6, .pointer (some ⟨none0, 0, none⟩)), (7, .int .i64 n), (8, .int .i64 proto), (9, .int .i64 src), (10, .int .i64 id0), (11, .int .i64 off), (12, .bool more), (104, .bool t104)] w := by kernel_rfl
theorem ipm_IP_Input.B2_sound {R : Int → Int → Int → Option Addr → Nat → Nat → Int → World → Prop}  (p pkt_b : Option Addr) (pkt_l pkt_c t4 none0 : Nat) (n proto src id0 off : Int) (more t104 : Bool) (w : World) (h : ipm_IP_Input.B2 p pkt_b pkt_l pkt_c t4 none0 n proto src id0 off more t104 w   R) :
    KW Try.prog 44 347 (ipm_IP_Input.RV R) ([(0, [1, 1, 1, 1, 1, 1, 1, 1, 1, 1, 1, 1, 0, 1]), (0, [1, 1, 1, 1, 1, 1, 1, 1, 1, 1, 1, 1, 1])].map (toItem (Try.f44.body.getD .skip))) [(0, .pointer p), (1, .slice pkt_b pkt_l pkt_c), (4, .pointer (some ⟨t4, 0, none⟩)), (6, .pointer (some ⟨none0, 0, none⟩)), (7, .int .i64 n), (8, .int .i64 proto), (9, .int .i64 src), (10, .int .i64 id0), (11, .int .i64 off), (12, .bool more), (104, .bool t104)] w := by
  exact block_spec Try.func44 Try.mixed (stops_cons (fun σ w h => by
      obtain ⟨p_, e0, h⟩ := dP_elim h
      obtain ⟨pkt_b_, pkt_l_, pkt_c_, e1, h⟩ := dL_elim h
      obtain ⟨t4_, e2, h⟩ := dK_elim h
      obtain ⟨none0_, e3, h⟩ := dK_elim h
      obtain ⟨n_, e4, h⟩ := dI_elim h
      obtain ⟨proto_, e5, h⟩ := dI_elim h
      obtain ⟨src_, e6, h⟩ := dI_elim h
      obtain ⟨id0_, e7, h⟩ := dI_elim h
      obtain ⟨off_, e8, h⟩ := dI_elim h
      obtain ⟨more_, e9, h⟩ := dB_elim h
      obtain ⟨i_, e10, h⟩ := dI_elim h
      exact (ipm_IP_Input.L1_sound  p_ pkt_b_ pkt_l_ pkt_c_ t4_ none0_ n_ proto_ src_ id0_ off_ more_ i_ w h).weaken (Sub.cons (Sub.cons (Sub.cons (Sub.cons (Sub.cons (Sub.cons (Sub.cons (Sub.cons (Sub.cons (Sub.cons (Sub.cons (Sub.nil _) e10) e9) e8) e7) e6) e5) e4) e3) e2) e1) e0)) (stops_cons (fun σ w h => by
      obtain ⟨p_, e0, h⟩ := dP_elim h
      obtain ⟨pkt_b_, pkt_l_, pkt_c_, e1, h⟩ := dL_elim h
      obtain ⟨t4_, e2, h⟩ := dK_elim h
      obtain ⟨none0_, e3, h⟩ := dK_elim h
      obtain ⟨n_, e4, h⟩ := dI_elim h
      obtain ⟨proto_, e5, h⟩ := dI_elim h
      obtain ⟨src_, e6, h⟩ := dI_elim h
      obtain ⟨off_, e7, h⟩ := dI_elim h
      obtain ⟨more_, e8, h⟩ := dB_elim h
      obtain ⟨i_, e9, h⟩ := dI_elim h
      obtain ⟨bad_, e10, h⟩ := dB_elim h
      exact (ipm_IP_Input.B3_sound  p_ pkt_b_ pkt_l_ pkt_c_ t4_ none0_ n_ proto_ src_ off_ more_ i_ bad_ w h).weaken (Sub.cons (Sub.cons (Sub.cons (Sub.cons (Sub.cons (Sub.cons (Sub.cons (Sub.cons (Sub.cons (Sub.cons (Sub.cons (Sub.nil _) e10) e9) e8) e7) e6) e5) e4) e3) e2) e1) e0)) (stops_cons (fun σ w h => by
      obtain ⟨p_, e0, h⟩ := dP_elim h
      obtain ⟨pkt_b_, pkt_l_, pkt_c_, e1, h⟩ := dL_elim h
      obtain ⟨t4_, e2, h⟩ := dK_elim h
      obtain ⟨none0_, e3, h⟩ := dK_elim h
      obtain ⟨n_, e4, h⟩ := dI_elim h
      obtain ⟨proto_, e5, h⟩ := dI_elim h
      obtain ⟨src_, e6, h⟩ := dI_elim h
      obtain ⟨off_, e7, h⟩ := dI_elim h
      obtain ⟨more_, e8, h⟩ := dB_elim h
      obtain ⟨i_, e9, h⟩ := dI_elim h
      obtain ⟨bad_, e10, h⟩ := dB_elim h
      exact (ipm_IP_Input.B4_sound  p_ pkt_b_ pkt_l_ pkt_c_ t4_ none0_ n_ proto_ src_ off_ more_ i_ bad_ w h).weaken (Sub.cons (Sub.cons (Sub.cons (Sub.cons (Sub.cons (Sub.cons (Sub.cons (Sub.cons (Sub.cons (Sub.cons (Sub.cons (Sub.nil _) e10) e9) e8) e7) e6) e5) e4) e3) e2) e1) e0)) stops_nil))) (Eq.mp (ipm_IP_Input.B2_eq p pkt_b pkt_l pkt_c t4 none0 n proto src id0 off more t104 w   R (fun p_ pkt_b_ pkt_l_ pkt_c_ t4_ none0_ n_ proto_ src_ id0_ off_ more_ i_ w => ipm_IP_Input.L1 p_ pkt_b_ pkt_l_ pkt_c_ t4_ none0_ n_ proto_ src_ id0_ off_ more_ i_ w  R) (fun p_ pkt_b_ pkt_l_ pkt_c_ t4_ none0_ n_ proto_ src_ off_ more_ i_ bad_ w => ipm_IP_Input.B3 p_ pkt_b_ pkt_l_ pkt_c_ t4_ none0_ n_ proto_ src_ off_ more_ i_ bad_ w  R) (fun p_ pkt_b_ pkt_l_ pkt_c_ t4_ none0_ n_ proto_ src_ off_ more_ i_ bad_ w => ipm_IP_Input.B4 p_ pkt_b_ pkt_l_ pkt_c_ t4_ none0_ n_ proto_ src_ off_ more_ i_ bad_ w  R)) h)
def ipm_IP_Input.B1 (p pkt_b : Option Addr) (pkt_l pkt_c t4 none0 : Nat) (n proto src id0 off : Int) (more t97 : Bool) (w : World)   (R : Int → Int → Int → Option Addr → Nat → Nat → Int → World → Prop) : Prop :=
  Bm t97 (
    LdI .i64 ⟨none0, 0, none⟩ w fun x98_0 =>
    LdI .i64 ⟨none0, 1, none⟩ w fun x98_1 =>
    LdI .i64 ⟨none0, 2, none⟩ w fun x98_2 =>
    LdL ⟨none0, 3, none⟩ w fun x98_3_b x98_3_l x98_3_c =>
    Sts [.int .i64 x98_0, .int .i64 x98_1, .int .i64 x98_2, .slice x98_3_b x98_3_l x98_3_c] ⟨t4, 0, none⟩ 0 w fun w1 =>
    LdI .i64 ⟨t4, 0, none⟩ w1 fun r_0 =>
    LdI .i64 ⟨t4, 1, none⟩ w1 fun r_1 =>
    LdI .i64 ⟨t4, 2, none⟩ w1 fun r_2 =>
    LdL ⟨t4, 3, none⟩ w1 fun r_3_b r_3_l r_3_c =>
    R r_0 r_1 r_2 r_3_b r_3_l r_3_c (9 : Int) w1) (
    Bm (off == (0 : Int)) (
      ipm_IP_Input.B2 p pkt_b pkt_l pkt_c t4 none0 n proto src id0 off more (!more) w  R) (
      ipm_IP_Input.B2 p pkt_b pkt_l pkt_c t4 none0 n proto src id0 off more false w  R))
theorem ipm_IP_Input.B1_eq (p pkt_b : Option Addr) (pkt_l pkt_c t4 none0 : Nat) (n proto src id0 off : Int) (more t97 : Bool) (w : World)   (R : Int → Int → Int → Option Addr → Nat → Nat → Int → World → Prop) (sB2 : Option Addr → Option Addr → Nat → Nat → Nat → Nat → Int → Int → Int → Int → Int → Bool → Bool → World → Prop) :
    (
  Bm t97 (
    LdI .i64 ⟨none0, 0, none⟩ w fun x98_0 =>
    LdI .i64 ⟨none0, 1, none⟩ w fun x98_1 =>
    LdI .i64 ⟨none0, 2, none⟩ w fun x98_2 =>
    LdL ⟨none0, 3, none⟩ w fun x98_3_b x98_3_l x98_3_c =>
    Sts [.int .i64 x98_0, .int .i64 x98_1, .int .i64 x98_2, .slice x98_3_b x98_3_l x98_3_c] ⟨t4, 0, none⟩ 0 w fun w1 =>
    LdI .i64 ⟨t4, 0, none⟩ w1 fun r_0 =>
    LdI .i64 ⟨t4, 1, none⟩ w1 fun r_1 =>
    LdI .i64 ⟨t4, 2, none⟩ w1 fun r_2 =>
    LdL ⟨t4, 3, none⟩ w1 fun r_3_b r_3_l r_3_c =>
    R r_0 r_1 r_2 r_3_b r_3_l r_3_c (9 : Int) w1) (
    Bm (off == (0 : Int)) (
      sB2 p pkt_b pkt_l pkt_c t4 none0 n proto src id0 off more (!more) w) (
      sB2 p pkt_b pkt_l pkt_c t4 none0 n proto src id0 off more false w))) = kstep Try.prog 347 Try.f44.results.toList (Try.f44.body.getD .skip) (ipm_IP_Input.RV R) (kvc Try.prog 347 Try.f44.results.toList (Try.f44.body.getD .skip) (ipm_IP_Input.RV R) [([(0, [1, 1, 1, 1, 1, 1, 1, 1, 1, 1, 1, 1, 0, 1]), (0, [1, 1, 1, 1, 1, 1, 1, 1, 1, 1, 1, 1, 1])], fun σ w => dP (slotOf σ 0) fun p_ => dL (slotOf σ 1) fun pkt_b_ pkt_l_ pkt_c_ => dK (slotOf σ 4) fun t4_ => dK (slotOf σ 6) fun none0_ => dI .i64 (slotOf σ 7) fun n_ => dI .i64 (slotOf σ 8) fun proto_ => dI .i64 (slotOf σ 9) fun src_ => dI .i64 (slotOf σ 10) fun id0_ => dI .i64 (slotOf σ 11) fun off_ => dB (slotOf σ 12) fun more_ => dB (slotOf σ 104) fun t104_ => sB2 p_ pkt_b_ pkt_l_ pkt_c_ t4_ none0_ n_ proto_ src_ id0_ off_ more_ t104_ w)] 2000) [(0, [1, 1, 1, 1, 1, 1, 1, 1, 1, 1, 1, 0, 1]), (0, [1, 1, 1, 1, 1, 1, 1, 1, 1, 1, 1, 1])] [(0, .pointer p), (1, .slice pkt_b pkt_l pkt_c), (4, .pointer (some ⟨t4, 0, none⟩)), (6, .pointer (some ⟨none0, 0, none⟩)), (7, .int .i64 n), (8, .int .i64 proto), (9, .int .i64 src), (10, .int .i64 id0), (11, .int .i64 off), (12, .bool more), (97, .bool t97)] w := by kernel_rfl
theorem ipm_IP_Input.B1_sound {R : Int → Int → Int → Option Addr → Nat → Nat → Int → World → Prop}  (p pkt_b : Option Addr) (pkt_l pkt_c t4 none0 : Nat) (n proto src id0 off : Int) (more t97 : Bool) (w : World) (h : ipm_IP_Input.B1 p pkt_b pkt_l pkt_c t4 none0 n proto src id0 off more t97 w   R) :
    KW Try.prog 44 347 (ipm_IP_Input.RV R) ([(0, [1, 1, 1, 1, 1, 1, 1, 1, 1, 1, 1, 0, 1]), (0, [1, 1, 1, 1, 1, 1, 1, 1, 1, 1, 1, 1])].map (toItem (Try.f44.body.getD .skip))) [(0, .pointer p), (1, .slice pkt_b pkt_l pkt_c), (4, .pointer (some ⟨t4, 0, none⟩)), (6, .pointer (some ⟨none0, 0, none⟩)), (7, .int .i64 n), (8, .int .i64 proto), (9, .int .i64 src), (10, .int .i64 id0), (11, .int .i64 off), (12, .bool more), (97, .bool t97)] w := by
  exact block_spec Try.func44 Try.mixed (stops_cons (fun σ w h => by
      obtain ⟨p_, e0, h⟩ := dP_elim h
      obtain ⟨pkt_b_, pkt_l_, pkt_c_, e1, h⟩ := dL_elim h
      obtain ⟨t4_, e2, h⟩ := dK_elim h
      obtain ⟨none0_, e3, h⟩ := dK_elim h
      obtain ⟨n_, e4, h⟩ := dI_elim h
      obtain ⟨proto_, e5, h⟩ := dI_elim h
      obtain ⟨src_, e6, h⟩ := dI_elim h
      obtain ⟨id0_, e7, h⟩ := dI_elim h
      obtain ⟨off_, e8, h⟩ := dI_elim h
      obtain ⟨more_, e9, h⟩ := dB_elim h
      obtain ⟨t104_, e10, h⟩ := dB_elim h
      exact (ipm_IP_Input.B2_sound  p_ pkt_b_ pkt_l_ pkt_c_ t4_ none0_ n_ proto_ src_ id0_ off_ more_ t104_ w h).weaken (Sub.cons (Sub.cons (Sub.cons (Sub.cons (Sub.cons (Sub.cons (Sub.cons (Sub.cons (Sub.cons (Sub.cons (Sub.cons (Sub.nil _) e10) e9) e8) e7) e6) e5) e4) e3) e2) e1) e0)) stops_nil) (Eq.mp (ipm_IP_Input.B1_eq p pkt_b pkt_l pkt_c t4 none0 n proto src id0 off more t97 w   R (fun p_ pkt_b_ pkt_l_ pkt_c_ t4_ none0_ n_ proto_ src_ id0_ off_ more_ t104_ w => ipm_IP_Input.B2 p_ pkt_b_ pkt_l_ pkt_c_ t4_ none0_ n_ proto_ src_ id0_ off_ more_ t104_ w  R)) h)
def ipm_IP_Input.B0 (p pkt_b : Option Addr) (pkt_l pkt_c : Nat) (w : World)   (R : Int → Int → Int → Option Addr → Nat → Nat → Int → World → Prop) : Prop :=
  New (.cells #[.int .i64 (0 : Int), .int .i64 (0 : Int), .int .i64 (0 : Int), .slice none 0 0] 81) w fun b4 w1 =>
  New (.cells #[.int .i64 (0 : Int), .int .i64 (0 : Int), .int .i64 (0 : Int), .slice none 0 0] 81) w1 fun none0_ w2 =>
  Sts [.int .i64 (0 : Int), .int .i64 (0 : Int), .int .i64 (0 : Int), .slice none 0 0] ⟨none0_, 0, none⟩ 0 w2 fun w3 =>
  Bm (decide (((pkt_l : Nat) : Int) < (8 : Int))) (
    LdI .i64 ⟨none0_, 0, none⟩ w3 fun x27_0 =>
    LdI .i64 ⟨none0_, 1, none⟩ w3 fun x27_1 =>
    LdI .i64 ⟨none0_, 2, none⟩ w3 fun x27_2 =>
    LdL ⟨none0_, 3, none⟩ w3 fun x27_3_b x27_3_l x27_3_c =>
    Sts [.int .i64 x27_0, .int .i64 x27_1, .int .i64 x27_2, .slice x27_3_b x27_3_l x27_3_c] ⟨b4, 0, none⟩ 0 w3 fun w4 =>
    LdI .i64 ⟨b4, 0, none⟩ w4 fun r_0 =>
    LdI .i64 ⟨b4, 1, none⟩ w4 fun r_1 =>
    LdI .i64 ⟨b4, 2, none⟩ w4 fun r_2 =>
    LdL ⟨b4, 3, none⟩ w4 fun r_3_b r_3_l r_3_c =>
    R r_0 r_1 r_2 r_3_b r_3_l r_3_c (1 : Int) w4) (
    Pn pkt_b fun a =>
    (0 ≤ (6 : Int) ∧ (6 : Int) < ((pkt_l : Nat) : Int)) ∧
    LdI .u8 (a.add 6) w3 fun x30 =>
    Bm ((IntKind.i64.wrap x30) != (IntKind.i64.wrap (((pkt_l : Nat) : Int) - (8 : Int)))) (
      LdI .i64 ⟨none0_, 0, none⟩ w3 fun x37_0 =>
      LdI .i64 ⟨none0_, 1, none⟩ w3 fun x37_1 =>
      LdI .i64 ⟨none0_, 2, none⟩ w3 fun x37_2 =>
      LdL ⟨none0_, 3, none⟩ w3 fun x37_3_b x37_3_l x37_3_c =>
      Sts [.int .i64 x37_0, .int .i64 x37_1, .int .i64 x37_2, .slice x37_3_b x37_3_l x37_3_c] ⟨b4, 0, none⟩ 0 w3 fun w5 =>
      LdI .i64 ⟨b4, 0, none⟩ w5 fun r_0_1 =>
      LdI .i64 ⟨b4, 1, none⟩ w5 fun r_1_1 =>
      LdI .i64 ⟨b4, 2, none⟩ w5 fun r_2_1 =>
      LdL ⟨b4, 3, none⟩ w5 fun r_3_b_1 r_3_l_1 r_3_c_1 =>
      R r_0_1 r_1_1 r_2_1 r_3_b_1 r_3_l_1 r_3_c_1 (3 : Int) w5) (
      Pn pkt_b fun a_1 =>
      (0 ≤ (7 : Int) ∧ (7 : Int) < ((pkt_l : Nat) : Int)) ∧
      LdI .u8 (a_1.add 7) w3.drew fun x42 =>
      ipm_headSum.Call pkt_b pkt_l pkt_c w3.drew fun r39 w6 =>
      w6.cell? (a_1.add 7) = some (.int .u8 x42) ∧
      Bm (r39 != (IntKind.i64.wrap x42)) (
        LdI .i64 ⟨none0_, 0, none⟩ w6 fun x45_0 =>
        LdI .i64 ⟨none0_, 1, none⟩ w6 fun x45_1 =>
        LdI .i64 ⟨none0_, 2, none⟩ w6 fun x45_2 =>
        LdL ⟨none0_, 3, none⟩ w6 fun x45_3_b x45_3_l x45_3_c =>
        Sts [.int .i64 x45_0, .int .i64 x45_1, .int .i64 x45_2, .slice x45_3_b x45_3_l x45_3_c] ⟨b4, 0, none⟩ 0 w6 fun w7 =>
        LdI .i64 ⟨b4, 0, none⟩ w7 fun r_0_2 =>
        LdI .i64 ⟨b4, 1, none⟩ w7 fun r_1_2 =>
        LdI .i64 ⟨b4, 2, none⟩ w7 fun r_2_2 =>
        LdL ⟨b4, 3, none⟩ w7 fun r_3_b_2 r_3_l_2 r_3_c_2 =>
        R r_0_2 r_1_2 r_2_2 r_3_b_2 r_3_l_2 r_3_c_2 (4 : Int) w7) (
        Pn pkt_b fun a_2 =>
        (0 ≤ (1 : Int) ∧ (1 : Int) < ((pkt_l : Nat) : Int)) ∧
        LdI .u8 (a_2.add 1) w6 fun x48 =>
        Bm (x48 == (0 : Int)) (
          LdI .i64 ⟨none0_, 0, none⟩ w6 fun x50_0 =>
          LdI .i64 ⟨none0_, 1, none⟩ w6 fun x50_1 =>
          LdI .i64 ⟨none0_, 2, none⟩ w6 fun x50_2 =>
          LdL ⟨none0_, 3, none⟩ w6 fun x50_3_b x50_3_l x50_3_c =>
          Sts [.int .i64 x50_0, .int .i64 x50_1, .int .i64 x50_2, .slice x50_3_b x50_3_l x50_3_c] ⟨b4, 0, none⟩ 0 w6 fun w8 =>
          LdI .i64 ⟨b4, 0, none⟩ w8 fun r_0_3 =>
          LdI .i64 ⟨b4, 1, none⟩ w8 fun r_1_3 =>
          LdI .i64 ⟨b4, 2, none⟩ w8 fun r_2_3 =>
          LdL ⟨b4, 3, none⟩ w8 fun r_3_b_3 r_3_l_3 r_3_c_3 =>
          R r_0_3 r_1_3 r_2_3 r_3_b_3 r_3_l_3 r_3_c_3 (8 : Int) w8) (
          Pn pkt_b fun a_3 =>
          (0 ≤ (3 : Int) ∧ (3 : Int) < ((pkt_l : Nat) : Int)) ∧
          LdI .u8 (a_3.add 3) w6.drew fun x53 =>
          Pn p fun a_4 =>
          LdI .i64 a_4 w6.drew fun x58 =>
          Bm ((IntKind.i64.wrap x53) != x58) (
            LdI .i64 ⟨none0_, 0, none⟩ w6.drew fun x60_0 =>
            LdI .i64 ⟨none0_, 1, none⟩ w6.drew fun x60_1 =>
            LdI .i64 ⟨none0_, 2, none⟩ w6.drew fun x60_2 =>
            LdL ⟨none0_, 3, none⟩ w6.drew fun x60_3_b x60_3_l x60_3_c =>
            Sts [.int .i64 x60_0, .int .i64 x60_1, .int .i64 x60_2, .slice x60_3_b x60_3_l x60_3_c] ⟨b4, 0, none⟩ 0 w6.drew fun w9 =>
            LdI .i64 ⟨b4, 0, none⟩ w9 fun r_0_4 =>
            LdI .i64 ⟨b4, 1, none⟩ w9 fun r_1_4 =>
            LdI .i64 ⟨b4, 2, none⟩ w9 fun r_2_4 =>
            LdL ⟨b4, 3, none⟩ w9 fun r_3_b_4 r_3_l_4 r_3_c_4 =>
            R r_0_4 r_1_4 r_2_4 r_3_b_4 r_3_l_4 r_3_c_4 (7 : Int) w9) (
            Pn pkt_b fun a_5 =>
            (0 ≤ (0 : Int) ∧ (0 : Int) < ((pkt_l : Nat) : Int)) ∧
            LdI .u8 a_5 w6.drew.drew fun x63 =>
            Pn pkt_b fun a_6 =>
            (0 ≤ (2 : Int) ∧ (2 : Int) < ((pkt_l : Nat) : Int)) ∧
            LdI .u8 (a_6.add 2) w6.drew.drew fun x67 =>
            Pn pkt_b fun a_7 =>
            (0 ≤ (4 : Int) ∧ (4 : Int) < ((pkt_l : Nat) : Int)) ∧
            LdI .u8 (a_7.add 4) w6.drew.drew fun x71 =>
            Pn pkt_b fun a_8 =>
            (0 ≤ (5 : Int) ∧ (5 : Int) < ((pkt_l : Nat) : Int)) ∧
            LdI .u8 (a_8.add 5) w6.drew.drew.drew fun x75 =>
            Pn pkt_b fun a_9 =>
            (0 ≤ (5 : Int) ∧ (5 : Int) < ((pkt_l : Nat) : Int)) ∧
            LdI .u8 (a_9.add 5) w6.drew.drew.drew fun x80 =>
            Bm (decide ((IntKind.i64.wrap ((IntKind.i64.wrap (BitVec.ofInt IntKind.i64.bits (IntKind.i64.wrap x75) &&& BitVec.ofInt IntKind.i64.bits (127 : Int)).toNat) + (IntKind.i64.wrap x30))) > (40 : Int))) (
              LdI .i64 ⟨none0_, 0, none⟩ w6.drew.drew.drew fun x88_0 =>
              LdI .i64 ⟨none0_, 1, none⟩ w6.drew.drew.drew fun x88_1 =>
              LdI .i64 ⟨none0_, 2, none⟩ w6.drew.drew.drew fun x88_2 =>
              LdL ⟨none0_, 3, none⟩ w6.drew.drew.drew fun x88_3_b x88_3_l x88_3_c =>
              Sts [.int .i64 x88_0, .int .i64 x88_1, .int .i64 x88_2, .slice x88_3_b x88_3_l x88_3_c] ⟨b4, 0, none⟩ 0 w6.drew.drew.drew fun w10 =>
              LdI .i64 ⟨b4, 0, none⟩ w10 fun r_0_5 =>
              LdI .i64 ⟨b4, 1, none⟩ w10 fun r_1_5 =>
              LdI .i64 ⟨b4, 2, none⟩ w10 fun r_2_5 =>
              LdL ⟨b4, 3, none⟩ w10 fun r_3_b_5 r_3_l_5 r_3_c_5 =>
              R r_0_5 r_1_5 r_2_5 r_3_b_5 r_3_l_5 r_3_c_5 (2 : Int) w10) (
              Bm ((IntKind.i64.wrap x30) == (0 : Int)) (
                Bm ((IntKind.i64.wrap (BitVec.ofInt IntKind.i64.bits (IntKind.i64.wrap x80) &&& BitVec.ofInt IntKind.i64.bits (128 : Int)).toNat) != (0 : Int)) (
                  ipm_IP_Input.B1 p pkt_b pkt_l pkt_c b4 none0_ (IntKind.i64.wrap x30) (IntKind.i64.wrap x63) (IntKind.i64.wrap x67) (IntKind.i64.wrap x71) (IntKind.i64.wrap (BitVec.ofInt IntKind.i64.bits (IntKind.i64.wrap x75) &&& BitVec.ofInt IntKind.i64.bits (127 : Int)).toNat) ((IntKind.i64.wrap (BitVec.ofInt IntKind.i64.bits (IntKind.i64.wrap x80) &&& BitVec.ofInt IntKind.i64.bits (128 : Int)).toNat) != (0 : Int)) true w6.drew.drew.drew  R) (
                  ipm_IP_Input.B1 p pkt_b pkt_l pkt_c b4 none0_ (IntKind.i64.wrap x30) (IntKind.i64.wrap x63) (IntKind.i64.wrap x67) (IntKind.i64.wrap x71) (IntKind.i64.wrap (BitVec.ofInt IntKind.i64.bits (IntKind.i64.wrap x75) &&& BitVec.ofInt IntKind.i64.bits (127 : Int)).toNat) ((IntKind.i64.wrap (BitVec.ofInt IntKind.i64.bits (IntKind.i64.wrap x80) &&& BitVec.ofInt IntKind.i64.bits (128 : Int)).toNat) != (0 : Int)) (decide ((IntKind.i64.wrap (BitVec.ofInt IntKind.i64.bits (IntKind.i64.wrap x75) &&& BitVec.ofInt IntKind.i64.bits (127 : Int)).toNat) > (0 : Int))) w6.drew.drew.drew  R)) (
                ipm_IP_Input.B1 p pkt_b pkt_l pkt_c b4 none0_ (IntKind.i64.wrap x30) (IntKind.i64.wrap x63) (IntKind.i64.wrap x67) (IntKind.i64.wrap x71) (IntKind.i64.wrap (BitVec.ofInt IntKind.i64.bits (IntKind.i64.wrap x75) &&& BitVec.ofInt IntKind.i64.bits (127 : Int)).toNat) ((IntKind.i64.wrap (BitVec.ofInt IntKind.i64.bits (IntKind.i64.wrap x80) &&& BitVec.ofInt IntKind.i64.bits (128 : Int)).toNat) != (0 : Int)) false w6.drew.drew.drew  R)))))))
theorem ipm_IP_Input.B0_eq (p pkt_b : Option Addr) (pkt_l pkt_c : Nat) (w : World)   (R : Int → Int → Int → Option Addr → Nat → Nat → Int → World → Prop) (sB1 : Option Addr → Option Addr → Nat → Nat → Nat → Nat → Int → Int → Int → Int → Int → Bool → Bool → World → Prop) :
    (
  New (.cells #[.int .i64 (0 : Int), .int .i64 (0 : Int), .int .i64 (0 : Int), .slice none 0 0] 81) w fun b4 w1 =>
  New (.cells #[.int .i64 (0 : Int), .int .i64 (0 : Int), .int .i64 (0 : Int), .slice none 0 0] 81) w1 fun none0_ w2 =>
  Sts [.int .i64 (0 : Int), .int .i64 (0 : Int), .int .i64 (0 : Int), .slice none 0 0] ⟨none0_, 0, none⟩ 0 w2 fun w3 =>
  Bm (decide (((pkt_l : Nat) : Int) < (8 : Int))) (
    LdI .i64 ⟨none0_, 0, none⟩ w3 fun x27_0 =>
    LdI .i64 ⟨none0_, 1, none⟩ w3 fun x27_1 =>
    LdI .i64 ⟨none0_, 2, none⟩ w3 fun x27_2 =>
    LdL ⟨none0_, 3, none⟩ w3 fun x27_3_b x27_3_l x27_3_c =>
    Sts [.int .i64 x27_0, .int .i64 x27_1, .int .i64 x27_2, .slice x27_3_b x27_3_l x27_3_c] ⟨b4, 0, none⟩ 0 w3 fun w4 =>
    LdI .i64 ⟨b4, 0, none⟩ w4 fun r_0 =>
    LdI .i64 ⟨b4, 1, none⟩ w4 fun r_1 =>
    LdI .i64 ⟨b4, 2, none⟩ w4 fun r_2 =>
    LdL ⟨b4, 3, none⟩ w4 fun r_3_b r_3_l r_3_c =>
    R r_0 r_1 r_2 r_3_b r_3_l r_3_c (1 : Int) w4) (
    Pn pkt_b fun a =>
    (0 ≤ (6 : Int) ∧ (6 : Int) < ((pkt_l : Nat) : Int)) ∧
    LdI .u8 (a.add 6) w3 fun x30 =>
    Bm ((IntKind.i64.wrap x30) != (IntKind.i64.wrap (((pkt_l : Nat) : Int) - (8 : Int)))) (
      LdI .i64 ⟨none0_, 0, none⟩ w3 fun x37_0 =>
      LdI .i64 ⟨none0_, 1, none⟩ w3 fun x37_1 =>
      LdI .i64 ⟨none0_, 2, none⟩ w3 fun x37_2 =>
      LdL ⟨none0_, 3, none⟩ w3 fun x37_3_b x37_3_l x37_3_c =>
      Sts [.int .i64 x37_0, .int .i64 x37_1, .int .i64 x37_2, .slice x37_3_b x37_3_l x37_3_c] ⟨b4, 0, none⟩ 0 w3 fun w5 =>
      LdI .i64 ⟨b4, 0, none⟩ w5 fun r_0_1 =>
      LdI .i64 ⟨b4, 1, none⟩ w5 fun r_1_1 =>
      LdI .i64 ⟨b4, 2, none⟩ w5 fun r_2_1 =>
      LdL ⟨b4, 3, none⟩ w5 fun r_3_b_1 r_3_l_1 r_3_c_1 =>
      R r_0_1 r_1_1 r_2_1 r_3_b_1 r_3_l_1 r_3_c_1 (3 : Int) w5) (
      Pn pkt_b fun a_1 =>
      (0 ≤ (7 : Int) ∧ (7 : Int) < ((pkt_l : Nat) : Int)) ∧
      LdI .u8 (a_1.add 7) w3.drew fun x42 =>
      ipm_headSum.Call pkt_b pkt_l pkt_c w3.drew fun r39 w6 =>
      w6.cell? (a_1.add 7) = some (.int .u8 x42) ∧
      Bm (r39 != (IntKind.i64.wrap x42)) (
        LdI .i64 ⟨none0_, 0, none⟩ w6 fun x45_0 =>
        LdI .i64 ⟨none0_, 1, none⟩ w6 fun x45_1 =>
        LdI .i64 ⟨none0_, 2, none⟩ w6 fun x45_2 =>
        LdL ⟨none0_, 3, none⟩ w6 fun x45_3_b x45_3_l x45_3_c =>
        Sts [.int .i64 x45_0, .int .i64 x45_1, .int .i64 x45_2, .slice x45_3_b x45_3_l x45_3_c] ⟨b4, 0, none⟩ 0 w6 fun w7 =>
        LdI .i64 ⟨b4, 0, none⟩ w7 fun r_0_2 =>
        LdI .i64 ⟨b4, 1, none⟩ w7 fun r_1_2 =>
        LdI .i64 ⟨b4, 2, none⟩ w7 fun r_2_2 =>
        LdL ⟨b4, 3, none⟩ w7 fun r_3_b_2 r_3_l_2 r_3_c_2 =>
        R r_0_2 r_1_2 r_2_2 r_3_b_2 r_3_l_2 r_3_c_2 (4 : Int) w7) (
        Pn pkt_b fun a_2 =>
        (0 ≤ (1 : Int) ∧ (1 : Int) < ((pkt_l : Nat) : Int)) ∧
        LdI .u8 (a_2.add 1) w6 fun x48 =>
        Bm (x48 == (0 : Int)) (
          LdI .i64 ⟨none0_, 0, none⟩ w6 fun x50_0 =>
          LdI .i64 ⟨none0_, 1, none⟩ w6 fun x50_1 =>
          LdI .i64 ⟨none0_, 2, none⟩ w6 fun x50_2 =>
          LdL ⟨none0_, 3, none⟩ w6 fun x50_3_b x50_3_l x50_3_c =>
          Sts [.int .i64 x50_0, .int .i64 x50_1, .int .i64 x50_2, .slice x50_3_b x50_3_l x50_3_c] ⟨b4, 0, none⟩ 0 w6 fun w8 =>
          LdI .i64 ⟨b4, 0, none⟩ w8 fun r_0_3 =>
          LdI .i64 ⟨b4, 1, none⟩ w8 fun r_1_3 =>
          LdI .i64 ⟨b4, 2, none⟩ w8 fun r_2_3 =>
          LdL ⟨b4, 3, none⟩ w8 fun r_3_b_3 r_3_l_3 r_3_c_3 =>
          R r_0_3 r_1_3 r_2_3 r_3_b_3 r_3_l_3 r_3_c_3 (8 : Int) w8) (
          Pn pkt_b fun a_3 =>
          (0 ≤ (3 : Int) ∧ (3 : Int) < ((pkt_l : Nat) : Int)) ∧
          LdI .u8 (a_3.add 3) w6.drew fun x53 =>
          Pn p fun a_4 =>
          LdI .i64 a_4 w6.drew fun x58 =>
          Bm ((IntKind.i64.wrap x53) != x58) (
            LdI .i64 ⟨none0_, 0, none⟩ w6.drew fun x60_0 =>
            LdI .i64 ⟨none0_, 1, none⟩ w6.drew fun x60_1 =>
            LdI .i64 ⟨none0_, 2, none⟩ w6.drew fun x60_2 =>
            LdL ⟨none0_, 3, none⟩ w6.drew fun x60_3_b x60_3_l x60_3_c =>
            Sts [.int .i64 x60_0, .int .i64 x60_1, .int .i64 x60_2, .slice x60_3_b x60_3_l x60_3_c] ⟨b4, 0, none⟩ 0 w6.drew fun w9 =>
            LdI .i64 ⟨b4, 0, none⟩ w9 fun r_0_4 =>
            LdI .i64 ⟨b4, 1, none⟩ w9 fun r_1_4 =>
            LdI .i64 ⟨b4, 2, none⟩ w9 fun r_2_4 =>
            LdL ⟨b4, 3, none⟩ w9 fun r_3_b_4 r_3_l_4 r_3_c_4 =>
            R r_0_4 r_1_4 r_2_4 r_3_b_4 r_3_l_4 r_3_c_4 (7 : Int) w9) (
            Pn pkt_b fun a_5 =>
            (0 ≤ (0 : Int) ∧ (0 : Int) < ((pkt_l : Nat) : Int)) ∧
            LdI .u8 a_5 w6.drew.drew fun x63 =>
            Pn pkt_b fun a_6 =>
            (0 ≤ (2 : Int) ∧ (2 : Int) < ((pkt_l : Nat) : Int)) ∧
            LdI .u8 (a_6.add 2) w6.drew.drew fun x67 =>
            Pn pkt_b fun a_7 =>
            (0 ≤ (4 : Int) ∧ (4 : Int) < ((pkt_l : Nat) : Int)) ∧
            LdI .u8 (a_7.add 4) w6.drew.drew fun x71 =>
            Pn pkt_b fun a_8 =>
            (0 ≤ (5 : Int) ∧ (5 : Int) < ((pkt_l : Nat) : Int)) ∧
            LdI .u8 (a_8.add 5) w6.drew.drew.drew fun x75 =>
            Pn pkt_b fun a_9 =>
            (0 ≤ (5 : Int) ∧ (5 : Int) < ((pkt_l : Nat) : Int)) ∧
            LdI .u8 (a_9.add 5) w6.drew.drew.drew fun x80 =>
            Bm (decide ((IntKind.i64.wrap ((IntKind.i64.wrap (BitVec.ofInt IntKind.i64.bits (IntKind.i64.wrap x75) &&& BitVec.ofInt IntKind.i64.bits (127 : Int)).toNat) + (IntKind.i64.wrap x30))) > (40 : Int))) (
              LdI .i64 ⟨none0_, 0, none⟩ w6.drew.drew.drew fun x88_0 =>
              LdI .i64 ⟨none0_, 1, none⟩ w6.drew.drew.drew fun x88_1 =>
              LdI .i64 ⟨none0_, 2, none⟩ w6.drew.drew.drew fun x88_2 =>
              LdL ⟨none0_, 3, none⟩ w6.drew.drew.drew fun x88_3_b x88_3_l x88_3_c =>
              Sts [.int .i64 x88_0, .int .i64 x88_1, .int .i64 x88_2, .slice x88_3_b x88_3_l x88_3_c] ⟨b4, 0, none⟩ 0 w6.drew.drew.drew fun w10 =>
              LdI .i64 ⟨b4, 0, none⟩ w10 fun r_0_5 =>
              LdI .i64 ⟨b4, 1, none⟩ w10 fun r_1_5 =>
              LdI .i64 ⟨b4, 2, none⟩ w10 fun r_2_5 =>
              LdL ⟨b4, 3, none⟩ w10 fun r_3_b_5 r_3_l_5 r_3_c_5 =>
              R r_0_5 r_1_5 r_2_5 r_3_b_5 r_3_l_5 r_3_c_5 (2 : Int) w10) (
              Bm ((IntKind.i64.wrap x30) == (0 : Int)) (
                Bm ((IntKind.i64.wrap (BitVec.ofInt IntKind.i64.bits (IntKind.i64.wrap x80) &&& BitVec.ofInt IntKind.i64.bits (128 : Int)).toNat) != (0 : Int)) (
                  sB1 p pkt_b pkt_l pkt_c b4 none0_ (IntKind.i64.wrap x30) (IntKind.i64.wrap x63) (IntKind.i64.wrap x67) (IntKind.i64.wrap x71) (IntKind.i64.wrap (BitVec.ofInt IntKind.i64.bits (IntKind.i64.wrap x75) &&& BitVec.ofInt IntKind.i64.bits (127 : Int)).toNat) ((IntKind.i64.wrap (BitVec.ofInt IntKind.i64.bits (IntKind.i64.wrap x80) &&& BitVec.ofInt IntKind.i64.bits (128 : Int)).toNat) != (0 : Int)) true w6.drew.drew.drew) (
                  sB1 p pkt_b pkt_l pkt_c b4 none0_ (IntKind.i64.wrap x30) (IntKind.i64.wrap x63) (IntKind.i64.wrap x67) (IntKind.i64.wrap x71) (IntKind.i64.wrap (BitVec.ofInt IntKind.i64.bits (IntKind.i64.wrap x75) &&& BitVec.ofInt IntKind.i64.bits (127 : Int)).toNat) ((IntKind.i64.wrap (BitVec.ofInt IntKind.i64.bits (IntKind.i64.wrap x80) &&& BitVec.ofInt IntKind.i64.bits (128 : Int)).toNat) != (0 : Int)) (decide ((IntKind.i64.wrap (BitVec.ofInt IntKind.i64.bits (IntKind.i64.wrap x75) &&& BitVec.ofInt IntKind.i64.bits (127 : Int)).toNat) > (0 : Int))) w6.drew.drew.drew)) (
                sB1 p pkt_b pkt_l pkt_c b4 none0_ (IntKind.i64.wrap x30) (IntKind.i64.wrap x63) (IntKind.i64.wrap x67) (IntKind.i64.wrap x71) (IntKind.i64.wrap (BitVec.ofInt IntKind.i64.bits (IntKind.i64.wrap x75) &&& BitVec.ofInt IntKind.i64.bits (127 : Int)).toNat) ((IntKind.i64.wrap (BitVec.ofInt IntKind.i64.bits (IntKind.i64.wrap x80) &&& BitVec.ofInt IntKind.i64.bits (128 : Int)).toNat) != (0 : Int)) false w6.drew.drew.drew)))))))) = kstep Try.prog 347 Try.f44.results.toList (Try.f44.body.getD .skip) (ipm_IP_Input.RV R) (kvc Try.prog 347 Try.f44.results.toList (Try.f44.body.getD .skip) (ipm_IP_Input.RV R) [([(0, [1, 1, 1, 1, 1, 1, 1, 1, 1, 1, 1, 0, 1]), (0, [1, 1, 1, 1, 1, 1, 1, 1, 1, 1, 1, 1])], fun σ w => dP (slotOf σ 0) fun p_ => dL (slotOf σ 1) fun pkt_b_ pkt_l_ pkt_c_ => dK (slotOf σ 4) fun t4_ => dK (slotOf σ 6) fun none0_ => dI .i64 (slotOf σ 7) fun n_ => dI .i64 (slotOf σ 8) fun proto_ => dI .i64 (slotOf σ 9) fun src_ => dI .i64 (slotOf σ 10) fun id0_ => dI .i64 (slotOf σ 11) fun off_ => dB (slotOf σ 12) fun more_ => dB (slotOf σ 97) fun t97_ => sB1 p_ pkt_b_ pkt_l_ pkt_c_ t4_ none0_ n_ proto_ src_ id0_ off_ more_ t97_ w)] 2000) [(0, [])] [(0, .pointer p), (1, .slice pkt_b pkt_l pkt_c)] w := by kernel_rfl
theorem ipm_IP_Input.B0_sound {R : Int → Int → Int → Option Addr → Nat → Nat → Int → World → Prop}  (p pkt_b : Option Addr) (pkt_l pkt_c : Nat) (w : World) (h : ipm_IP_Input.B0 p pkt_b pkt_l pkt_c w   R) :
    KW Try.prog 44 347 (ipm_IP_Input.RV R) ([(0, [])].map (toItem (Try.f44.body.getD .skip))) [(0, .pointer p), (1, .slice pkt_b pkt_l pkt_c)] w := by
  exact block_spec Try.func44 Try.mixed (stops_cons (fun σ w h => by
      obtain ⟨p_, e0, h⟩ := dP_elim h
      obtain ⟨pkt_b_, pkt_l_, pkt_c_, e1, h⟩ := dL_elim h
      obtain ⟨t4_, e2, h⟩ := dK_elim h
      obtain ⟨none0_, e3, h⟩ := dK_elim h
      obtain ⟨n_, e4, h⟩ := dI_elim h
      obtain ⟨proto_, e5, h⟩ := dI_elim h
      obtain ⟨src_, e6, h⟩ := dI_elim h
      obtain ⟨id0_, e7, h⟩ := dI_elim h
      obtain ⟨off_, e8, h⟩ := dI_elim h
      obtain ⟨more_, e9, h⟩ := dB_elim h
      obtain ⟨t97_, e10, h⟩ := dB_elim h
      exact (ipm_IP_Input.B1_sound  p_ pkt_b_ pkt_l_ pkt_c_ t4_ none0_ n_ proto_ src_ id0_ off_ more_ t97_ w h).weaken (Sub.cons (Sub.cons (Sub.cons (Sub.cons (Sub.cons (Sub.cons (Sub.cons (Sub.cons (Sub.cons (Sub.cons (Sub.cons (Sub.nil _) e10) e9) e8) e7) e6) e5) e4) e3) e2) e1) e0)) stops_nil) (Eq.mp (ipm_IP_Input.B0_eq p pkt_b pkt_l pkt_c w   R (fun p_ pkt_b_ pkt_l_ pkt_c_ t4_ none0_ n_ proto_ src_ id0_ off_ more_ t97_ w => ipm_IP_Input.B1 p_ pkt_b_ pkt_l_ pkt_c_ t4_ none0_ n_ proto_ src_ id0_ off_ more_ t97_ w  R)) h)
theorem ipm_IP_Input.sound (p pkt_b : Option Addr) (pkt_l pkt_c : Nat) (w : World) (R : Int → Int → Int → Option Addr → Nat → Nat → Int → World → Prop) (h : ipm_IP_Input.B0 p pkt_b pkt_l pkt_c w R) : ipm_IP_Input.Call p pkt_b pkt_l pkt_c w R := by
  have hc := calls_of_block (args := #[.pointer p, .slice pkt_b pkt_l pkt_c]) Try.func44 (body := (Try.f44.body.getD .skip)) (by kernel_rfl) (by kernel_rfl) (args_slot _) (ipm_IP_Input.B0_sound p pkt_b pkt_l pkt_c w h)
  exact hc.mono fun e w' he => by
    obtain ⟨v, rfl, hv⟩ := he
    exact ipm_IP_Input.RV_elim hv
end Go.Proofs.Qxb6500425a
