import Derived.Test.Qxb6500422aGreatSig
set_option maxRecDepth 100000
set_option linter.unusedVariables false
open Go.Vc
namespace Go.Proofs.Qxb6500422aGreat
def connlaw_SameInts.L1b (a_b : Option Addr) (a_l a_c : Nat) (b_b : Option Addr) (b_l b_c : Nat) (i : Int) (w : World)  (N1 : Option Addr → Nat → Nat → Option Addr → Nat → Nat → Int → World → Prop) (R : Bool → World → Prop) : Prop :=
  Bm (decide (i < ((a_l : Nat) : Int))) (
    Pn a_b fun a =>
    (0 ≤ i ∧ i < ((a_l : Nat) : Int)) ∧
    LdI .i64 (Addr.add a (i.toNat * 1)) w.drew fun x20 =>
    Pn b_b fun a_1 =>
    (0 ≤ i ∧ i < ((b_l : Nat) : Int)) ∧
    LdI .i64 (Addr.add a_1 (i.toNat * 1)) w.drew fun x24 =>
    Bm (x20 != x24) (
      R false w.drew) (
      N1 a_b a_l a_c b_b b_l b_c (IntKind.i64.wrap (i + (1 : Int))) w.drew)) (
    R true w)
theorem connlaw_SameInts.L1b_eq (a_b : Option Addr) (a_l a_c : Nat) (b_b : Option Addr) (b_l b_c : Nat) (i : Int) (w : World)  (N1 : Option Addr → Nat → Nat → Option Addr → Nat → Nat → Int → World → Prop) (R : Bool → World → Prop)  :
    (
  Bm (decide (i < ((a_l : Nat) : Int))) (
    Pn a_b fun a =>
    (0 ≤ i ∧ i < ((a_l : Nat) : Int)) ∧
    LdI .i64 (Addr.add a (i.toNat * 1)) w.drew fun x20 =>
    Pn b_b fun a_1 =>
    (0 ≤ i ∧ i < ((b_l : Nat) : Int)) ∧
    LdI .i64 (Addr.add a_1 (i.toNat * 1)) w.drew fun x24 =>
    Bm (x20 != x24) (
      R false w.drew) (
      N1 a_b a_l a_c b_b b_l b_c (IntKind.i64.wrap (i + (1 : Int))) w.drew)) (
    R true w)) = kstep Tryz.prog 26 Tryz.f29.results.toList (Tryz.f29.body.getD .skip) (connlaw_SameInts.RV R) (kvc Tryz.prog 26 Tryz.f29.results.toList (Tryz.f29.body.getD .skip) (connlaw_SameInts.RV R) [([(0, [1, 1, 0, 1, 0, 0]), (2, [1, 1, 0, 1, 0, 0]), (1, [0]), (0, [1, 1, 1])], fun σ w => dL (slotOf σ 0) fun a_b_ a_l_ a_c_ => dL (slotOf σ 1) fun b_b_ b_l_ b_c_ => dI .i64 (slotOf σ 5) fun i_ => N1 a_b_ a_l_ a_c_ b_b_ b_l_ b_c_ i_ w)] 2000) [(0, [1, 1, 0, 1, 0, 0]), (2, [1, 1, 0, 1, 0, 0]), (1, [0]), (0, [1, 1, 1])] [(0, .slice a_b a_l a_c), (1, .slice b_b b_l b_c), (5, .int .i64 i)] w := by kernel_rfl
theorem connlaw_SameInts.L1b_sound {R : Bool → World → Prop} {N1 : Option Addr → Nat → Nat → Option Addr → Nat → Nat → Int → World → Prop} (hN1 : ∀ a_b a_l a_c b_b b_l b_c i w, N1 a_b a_l a_c b_b b_l b_c i w → KW Tryz.prog 29 26 (connlaw_SameInts.RV R) ([(0, [1, 1, 0, 1, 0, 0]), (2, [1, 1, 0, 1, 0, 0]), (1, [0]), (0, [1, 1, 1])].map (toItem (Tryz.f29.body.getD .skip))) [(0, .slice a_b a_l a_c), (1, .slice b_b b_l b_c), (5, .int .i64 i)] w) (a_b : Option Addr) (a_l a_c : Nat) (b_b : Option Addr) (b_l b_c : Nat) (i : Int) (w : World) (h : connlaw_SameInts.L1b a_b a_l a_c b_b b_l b_c i w  N1 R) :
    KW Tryz.prog 29 26 (connlaw_SameInts.RV R) ([(0, [1, 1, 0, 1, 0, 0]), (2, [1, 1, 0, 1, 0, 0]), (1, [0]), (0, [1, 1, 1])].map (toItem (Tryz.f29.body.getD .skip))) [(0, .slice a_b a_l a_c), (1, .slice b_b b_l b_c), (5, .int .i64 i)] w := by
  exact block_spec Tryz.func29 Tryz.mixed (stops_cons (fun σ w h => by
      obtain ⟨a_b_, a_l_, a_c_, e0, h⟩ := dL_elim h
      obtain ⟨b_b_, b_l_, b_c_, e1, h⟩ := dL_elim h
      obtain ⟨i_, e2, h⟩ := dI_elim h
      exact (hN1 a_b_ a_l_ a_c_ b_b_ b_l_ b_c_ i_ w h).weaken (Sub.cons (Sub.cons (Sub.cons (Sub.nil _) e2) e1) e0)) stops_nil) (Eq.mp (connlaw_SameInts.L1b_eq a_b a_l a_c b_b b_l b_c i w  N1 R ) h)
def connlaw_SameInts.L1 (a_b : Option Addr) (a_l a_c : Nat) (b_b : Option Addr) (b_l b_c : Nat) (i : Int) (w : World)  (R : Bool → World → Prop) : Prop :=
  ∃ (I : Nat → Option Addr → Nat → Nat → Option Addr → Nat → Nat → Int → World → Prop) (m : Nat), I m a_b a_l a_c b_b b_l b_c i w ∧ ∀ m a_b a_l a_c b_b b_l b_c i w, I m a_b a_l a_c b_b b_l b_c i w → connlaw_SameInts.L1b a_b a_l a_c b_b b_l b_c i w  (fun a_b' a_l' a_c' b_b' b_l' b_c' i' w' => ∃ m', m' < m ∧ I m' a_b' a_l' a_c' b_b' b_l' b_c' i' w') R
theorem connlaw_SameInts.L1_sound {R : Bool → World → Prop}  (a_b : Option Addr) (a_l a_c : Nat) (b_b : Option Addr) (b_l b_c : Nat) (i : Int) (w : World) (h : connlaw_SameInts.L1 a_b a_l a_c b_b b_l b_c i w  R) :
    KW Tryz.prog 29 26 (connlaw_SameInts.RV R) ([(0, [1, 1, 0, 1, 0, 0]), (2, [1, 1, 0, 1, 0, 0]), (1, [0]), (0, [1, 1, 1])].map (toItem (Tryz.f29.body.getD .skip))) [(0, .slice a_b a_l a_c), (1, .slice b_b b_l b_c), (5, .int .i64 i)] w := by
  obtain ⟨I, m, hBase, hr⟩ := h
  refine KW.loop (fun m σ w => ∃ (a_b : Option Addr) (a_l a_c : Nat) (b_b : Option Addr) (b_l b_c : Nat) (i : Int), σ = [(0, .slice a_b a_l a_c), (1, .slice b_b b_l b_c), (5, .int .i64 i)] ∧ I m a_b a_l a_c b_b b_l b_c i w) ?_ m _ w ⟨a_b, a_l, a_c, b_b, b_l, b_c, i, rfl, hBase⟩
  rintro m ih σ w ⟨a_b, a_l, a_c, b_b, b_l, b_c, i, rfl, hI⟩
  exact connlaw_SameInts.L1b_sound  (N1 := fun a_b' a_l' a_c' b_b' b_l' b_c' i' w' => ∃ m', m' < m ∧ I m' a_b' a_l' a_c' b_b' b_l' b_c' i' w') (fun a_b' a_l' a_c' b_b' b_l' b_c' i' w' hx => by obtain ⟨m', hlt, hI'⟩ := hx; exact ih m' hlt _ w' ⟨a_b', a_l', a_c', b_b', b_l', b_c', i', rfl, hI'⟩) a_b a_l a_c b_b b_l b_c i w (hr m a_b a_l a_c b_b b_l b_c i w hI)
def connlaw_SameInts.B0 (a_b : Option Addr) (a_l a_c : Nat) (b_b : Option Addr) (b_l b_c : Nat) (w : World)   (R : Bool → World → Prop) : Prop :=
  Bm (((a_l : Nat) : Int) != ((b_l : Nat) : Int)) (
    R false w) (
    connlaw_SameInts.L1 a_b a_l a_c b_b b_l b_c (0 : Int) w  R)
theorem connlaw_SameInts.B0_eq (a_b : Option Addr) (a_l a_c : Nat) (b_b : Option Addr) (b_l b_c : Nat) (w : World)   (R : Bool → World → Prop) (sL1 : Option Addr → Nat → Nat → Option Addr → Nat → Nat → Int → World → Prop) :
    (
  Bm (((a_l : Nat) : Int) != ((b_l : Nat) : Int)) (
    R false w) (
    sL1 a_b a_l a_c b_b b_l b_c (0 : Int) w)) = kstep Tryz.prog 26 Tryz.f29.results.toList (Tryz.f29.body.getD .skip) (connlaw_SameInts.RV R) (kvc Tryz.prog 26 Tryz.f29.results.toList (Tryz.f29.body.getD .skip) (connlaw_SameInts.RV R) [([(0, [1, 1, 0, 1, 0, 0]), (2, [1, 1, 0, 1, 0, 0]), (1, [0]), (0, [1, 1, 1])], fun σ w => dL (slotOf σ 0) fun a_b_ a_l_ a_c_ => dL (slotOf σ 1) fun b_b_ b_l_ b_c_ => dI .i64 (slotOf σ 5) fun i_ => sL1 a_b_ a_l_ a_c_ b_b_ b_l_ b_c_ i_ w)] 2000) [(0, [])] [(0, .slice a_b a_l a_c), (1, .slice b_b b_l b_c)] w := by kernel_rfl
theorem connlaw_SameInts.B0_sound {R : Bool → World → Prop}  (a_b : Option Addr) (a_l a_c : Nat) (b_b : Option Addr) (b_l b_c : Nat) (w : World) (h : connlaw_SameInts.B0 a_b a_l a_c b_b b_l b_c w   R) :
    KW Tryz.prog 29 26 (connlaw_SameInts.RV R) ([(0, [])].map (toItem (Tryz.f29.body.getD .skip))) [(0, .slice a_b a_l a_c), (1, .slice b_b b_l b_c)] w := by
  exact block_spec Tryz.func29 Tryz.mixed (stops_cons (fun σ w h => by
      obtain ⟨a_b_, a_l_, a_c_, e0, h⟩ := dL_elim h
      obtain ⟨b_b_, b_l_, b_c_, e1, h⟩ := dL_elim h
      obtain ⟨i_, e2, h⟩ := dI_elim h
      exact (connlaw_SameInts.L1_sound  a_b_ a_l_ a_c_ b_b_ b_l_ b_c_ i_ w h).weaken (Sub.cons (Sub.cons (Sub.cons (Sub.nil _) e2) e1) e0)) stops_nil) (Eq.mp (connlaw_SameInts.B0_eq a_b a_l a_c b_b b_l b_c w   R (fun a_b_ a_l_ a_c_ b_b_ b_l_ b_c_ i_ w => connlaw_SameInts.L1 a_b_ a_l_ a_c_ b_b_ b_l_ b_c_ i_ w  R)) h)
theorem connlaw_SameInts.sound (a_b : Option Addr) (a_l a_c : Nat) (b_b : Option Addr) (b_l b_c : Nat) (w : World) (R : Bool → World → Prop) (h : connlaw_SameInts.B0 a_b a_l a_c b_b b_l b_c w R) : connlaw_SameInts.Call a_b a_l a_c b_b b_l b_c w R := by
  have hc := calls_of_block (args := #[.slice a_b a_l a_c, .slice b_b b_l b_c]) Tryz.func29 (body := (Tryz.f29.body.getD .skip)) (by kernel_rfl) (by kernel_rfl) (args_slot _) (connlaw_SameInts.B0_sound a_b a_l a_c b_b b_l b_c w h)
  exact hc.mono fun e w' he => by
    obtain ⟨v, rfl, hv⟩ := he
    exact connlaw_SameInts.RV_elim hv
def connlaw_World_Own.L1b (w0 b_b : Option Addr) (b_l b_c : Nat) (j i : Int) (w : World)  (N1 : Option Addr → Option Addr → Nat → Nat → Int → Int → World → Prop) (R : World → Prop) : Prop :=
  Bm (decide (i < ((b_l : Nat) : Int))) (
    connlaw_Stamp.Call j i w fun r28 w1 =>
    Pn b_b fun a =>
    (0 ≤ i ∧ i < ((b_l : Nat) : Int)) ∧
    Sts [.int .u8 r28] (Addr.add a (i.toNat * 1)) 0 w1 fun w2 =>
    N1 w0 b_b b_l b_c j (IntKind.i64.wrap (i + (1 : Int))) w2) (
    Pn w0 fun a_1 =>
    LdL (a_1.add 17) w fun x34_b x34_l x34_c =>
    New (.cells #[.slice b_b b_l b_c] 43) w fun b36 w3 =>
    Append 43 (.slice none 0 0) 1 24 x34_b x34_l x34_c (some ⟨b36, 0, none⟩) 1 w3 fun b37 c37 w4 =>
    Pn w0 fun a_2 =>
    Sts [.slice b37 (x34_l + 1) c37] (a_2.add 17) 0 w4 fun w5 =>
    R  w5)
theorem connlaw_World_Own.L1b_eq (w0 b_b : Option Addr) (b_l b_c : Nat) (j i : Int) (w : World)  (N1 : Option Addr → Option Addr → Nat → Nat → Int → Int → World → Prop) (R : World → Prop)  :
    (
  Bm (decide (i < ((b_l : Nat) : Int))) (
    connlaw_Stamp.Call j i w fun r28 w1 =>
    Pn b_b fun a =>
    (0 ≤ i ∧ i < ((b_l : Nat) : Int)) ∧
    Sts [.int .u8 r28] (Addr.add a (i.toNat * 1)) 0 w1 fun w2 =>
    N1 w0 b_b b_l b_c j (IntKind.i64.wrap (i + (1 : Int))) w2) (
    Pn w0 fun a_1 =>
    LdL (a_1.add 17) w fun x34_b x34_l x34_c =>
    New (.cells #[.slice b_b b_l b_c] 43) w fun b36 w3 =>
    Append 43 (.slice none 0 0) 1 24 x34_b x34_l x34_c (some ⟨b36, 0, none⟩) 1 w3 fun b37 c37 w4 =>
    Pn w0 fun a_2 =>
    Sts [.slice b37 (x34_l + 1) c37] (a_2.add 17) 0 w4 fun w5 =>
    R  w5)) = kstep Tryz.prog 40 Tryz.f30.results.toList (Tryz.f30.body.getD .skip) (connlaw_World_Own.RV R) (kvc Tryz.prog 40 Tryz.f30.results.toList (Tryz.f30.body.getD .skip) (connlaw_World_Own.RV R) [([(0, [1, 1, 1, 0, 1, 0, 0]), (2, [1, 1, 1, 0, 1, 0, 0]), (1, [0]), (0, [1, 1, 1, 1])], fun σ w => dP (slotOf σ 0) fun w0_ => dL (slotOf σ 1) fun b_b_ b_l_ b_c_ => dI .i64 (slotOf σ 4) fun j_ => dI .i64 (slotOf σ 5) fun i_ => N1 w0_ b_b_ b_l_ b_c_ j_ i_ w)] 2000) [(0, [1, 1, 1, 0, 1, 0, 0]), (2, [1, 1, 1, 0, 1, 0, 0]), (1, [0]), (0, [1, 1, 1, 1])] [(0, .pointer w0), (1, .slice b_b b_l b_c), (4, .int .i64 j), (5, .int .i64 i)] w := by kernel_rfl
theorem connlaw_World_Own.L1b_sound {R : World → Prop} {N1 : Option Addr → Option Addr → Nat → Nat → Int → Int → World → Prop} (hN1 : ∀ w0 b_b b_l b_c j i w, N1 w0 b_b b_l b_c j i w → KW Tryz.prog 30 40 (connlaw_World_Own.RV R) ([(0, [1, 1, 1, 0, 1, 0, 0]), (2, [1, 1, 1, 0, 1, 0, 0]), (1, [0]), (0, [1, 1, 1, 1])].map (toItem (Tryz.f30.body.getD .skip))) [(0, .pointer w0), (1, .slice b_b b_l b_c), (4, .int .i64 j), (5, .int .i64 i)] w) (w0 b_b : Option Addr) (b_l b_c : Nat) (j i : Int) (w : World) (h : connlaw_World_Own.L1b w0 b_b b_l b_c j i w  N1 R) :
    KW Tryz.prog 30 40 (connlaw_World_Own.RV R) ([(0, [1, 1, 1, 0, 1, 0, 0]), (2, [1, 1, 1, 0, 1, 0, 0]), (1, [0]), (0, [1, 1, 1, 1])].map (toItem (Tryz.f30.body.getD .skip))) [(0, .pointer w0), (1, .slice b_b b_l b_c), (4, .int .i64 j), (5, .int .i64 i)] w := by
  exact block_spec Tryz.func30 Tryz.mixed (stops_cons (fun σ w h => by
      obtain ⟨w0_, e0, h⟩ := dP_elim h
      obtain ⟨b_b_, b_l_, b_c_, e1, h⟩ := dL_elim h
      obtain ⟨j_, e2, h⟩ := dI_elim h
      obtain ⟨i_, e3, h⟩ := dI_elim h
      exact (hN1 w0_ b_b_ b_l_ b_c_ j_ i_ w h).weaken (Sub.cons (Sub.cons (Sub.cons (Sub.cons (Sub.nil _) e3) e2) e1) e0)) stops_nil) (Eq.mp (connlaw_World_Own.L1b_eq w0 b_b b_l b_c j i w  N1 R ) h)
def connlaw_World_Own.L1 (w0 b_b : Option Addr) (b_l b_c : Nat) (j i : Int) (w : World)  (R : World → Prop) : Prop :=
  ∃ (I : Nat → Option Addr → Option Addr → Nat → Nat → Int → Int → World → Prop) (m : Nat), I m w0 b_b b_l b_c j i w ∧ ∀ m w0 b_b b_l b_c j i w, I m w0 b_b b_l b_c j i w → connlaw_World_Own.L1b w0 b_b b_l b_c j i w  (fun w0' b_b' b_l' b_c' j' i' w' => ∃ m', m' < m ∧ I m' w0' b_b' b_l' b_c' j' i' w') R
theorem connlaw_World_Own.L1_sound {R : World → Prop}  (w0 b_b : Option Addr) (b_l b_c : Nat) (j i : Int) (w : World) (h : connlaw_World_Own.L1 w0 b_b b_l b_c j i w  R) :
    KW Tryz.prog 30 40 (connlaw_World_Own.RV R) ([(0, [1, 1, 1, 0, 1, 0, 0]), (2, [1, 1, 1, 0, 1, 0, 0]), (1, [0]), (0, [1, 1, 1, 1])].map (toItem (Tryz.f30.body.getD .skip))) [(0, .pointer w0), (1, .slice b_b b_l b_c), (4, .int .i64 j), (5, .int .i64 i)] w := by
  obtain ⟨I, m, hBase, hr⟩ := h
  refine KW.loop (fun m σ w => ∃ (w0 b_b : Option Addr) (b_l b_c : Nat) (j i : Int), σ = [(0, .pointer w0), (1, .slice b_b b_l b_c), (4, .int .i64 j), (5, .int .i64 i)] ∧ I m w0 b_b b_l b_c j i w) ?_ m _ w ⟨w0, b_b, b_l, b_c, j, i, rfl, hBase⟩
  rintro m ih σ w ⟨w0, b_b, b_l, b_c, j, i, rfl, hI⟩
  exact connlaw_World_Own.L1b_sound  (N1 := fun w0' b_b' b_l' b_c' j' i' w' => ∃ m', m' < m ∧ I m' w0' b_b' b_l' b_c' j' i' w') (fun w0' b_b' b_l' b_c' j' i' w' hx => by obtain ⟨m', hlt, hI'⟩ := hx; exact ih m' hlt _ w' ⟨w0', b_b', b_l', b_c', j', i', rfl, hI'⟩) w0 b_b b_l b_c j i w (hr m w0 b_b b_l b_c j i w hI)
def connlaw_World_Own.B0 (w0 b_b : Option Addr) (b_l b_c : Nat) (w : World)   (R : World → Prop) : Prop :=
  (0 ≤ ((b_c : Nat) : Int) ∧ ((b_c : Nat) : Int) ≤ ((b_c : Nat) : Int)) ∧
  Bm (((((b_c : Nat) : Int).toNat - ((0 : Nat) : Int).toNat : Nat) : Int) == (0 : Int)) (
    R  w) (
    Pn w0 fun a =>
    LdL (a.add 17) w fun x16_b x16_l x16_c =>
    connlaw_World_Own.L1 w0 (slBase b_b ((0 : Nat) : Int) ((b_c : Nat) : Int) 1) (((b_c : Nat) : Int).toNat - ((0 : Nat) : Int).toNat) (((b_c : Nat) : Int).toNat - ((0 : Nat) : Int).toNat) ((x16_l : Nat) : Int) (0 : Int) w  R)
theorem connlaw_World_Own.B0_eq (w0 b_b : Option Addr) (b_l b_c : Nat) (w : World)   (R : World → Prop) (sL1 : Option Addr → Option Addr → Nat → Nat → Int → Int → World → Prop) :
    (
  (0 ≤ ((b_c : Nat) : Int) ∧ ((b_c : Nat) : Int) ≤ ((b_c : Nat) : Int)) ∧
  Bm (((((b_c : Nat) : Int).toNat - ((0 : Nat) : Int).toNat : Nat) : Int) == (0 : Int)) (
    R  w) (
    Pn w0 fun a =>
    LdL (a.add 17) w fun x16_b x16_l x16_c =>
    sL1 w0 (slBase b_b ((0 : Nat) : Int) ((b_c : Nat) : Int) 1) (((b_c : Nat) : Int).toNat - ((0 : Nat) : Int).toNat) (((b_c : Nat) : Int).toNat - ((0 : Nat) : Int).toNat) ((x16_l : Nat) : Int) (0 : Int) w)) = kstep Tryz.prog 40 Tryz.f30.results.toList (Tryz.f30.body.getD .skip) (connlaw_World_Own.RV R) (kvc Tryz.prog 40 Tryz.f30.results.toList (Tryz.f30.body.getD .skip) (connlaw_World_Own.RV R) [([(0, [1, 1, 1, 0, 1, 0, 0]), (2, [1, 1, 1, 0, 1, 0, 0]), (1, [0]), (0, [1, 1, 1, 1])], fun σ w => dP (slotOf σ 0) fun w0_ => dL (slotOf σ 1) fun b_b_ b_l_ b_c_ => dI .i64 (slotOf σ 4) fun j_ => dI .i64 (slotOf σ 5) fun i_ => sL1 w0_ b_b_ b_l_ b_c_ j_ i_ w)] 2000) [(0, [])] [(0, .pointer w0), (1, .slice b_b b_l b_c)] w := by kernel_rfl
theorem connlaw_World_Own.B0_sound {R : World → Prop}  (w0 b_b : Option Addr) (b_l b_c : Nat) (w : World) (h : connlaw_World_Own.B0 w0 b_b b_l b_c w   R) :
    KW Tryz.prog 30 40 (connlaw_World_Own.RV R) ([(0, [])].map (toItem (Tryz.f30.body.getD .skip))) [(0, .pointer w0), (1, .slice b_b b_l b_c)] w := by
  exact block_spec Tryz.func30 Tryz.mixed (stops_cons (fun σ w h => by
      obtain ⟨w0_, e0, h⟩ := dP_elim h
      obtain ⟨b_b_, b_l_, b_c_, e1, h⟩ := dL_elim h
      obtain ⟨j_, e2, h⟩ := dI_elim h
      obtain ⟨i_, e3, h⟩ := dI_elim h
      exact (connlaw_World_Own.L1_sound  w0_ b_b_ b_l_ b_c_ j_ i_ w h).weaken (Sub.cons (Sub.cons (Sub.cons (Sub.cons (Sub.nil _) e3) e2) e1) e0)) stops_nil) (Eq.mp (connlaw_World_Own.B0_eq w0 b_b b_l b_c w   R (fun w0_ b_b_ b_l_ b_c_ j_ i_ w => connlaw_World_Own.L1 w0_ b_b_ b_l_ b_c_ j_ i_ w  R)) h)
theorem connlaw_World_Own.sound (w0 b_b : Option Addr) (b_l b_c : Nat) (w : World) (R : World → Prop) (h : connlaw_World_Own.B0 w0 b_b b_l b_c w R) : connlaw_World_Own.Call w0 b_b b_l b_c w R := by
  have hc := calls_of_block (args := #[.pointer w0, .slice b_b b_l b_c]) Tryz.func30 (body := (Tryz.f30.body.getD .skip)) (by kernel_rfl) (by kernel_rfl) (args_slot _) (connlaw_World_Own.B0_sound w0 b_b b_l b_c w h)
  exact hc.mono fun e w' he => by
    obtain ⟨v, rfl, hv⟩ := he
    exact connlaw_World_Own.RV_elim hv
def connlaw_World_OwnInts.L1b (w0 l_b : Option Addr) (l_l l_c : Nat) (j i : Int) (w : World)  (N1 : Option Addr → Option Addr → Nat → Nat → Int → Int → World → Prop) (R : World → Prop) : Prop :=
  Bm (decide (i < ((l_l : Nat) : Int))) (
    Pn l_b fun a =>
    (0 ≤ i ∧ i < ((l_l : Nat) : Int)) ∧
    Sts [.int .i64 (IntKind.i64.wrap ((-1 : Int) - j))] (Addr.add a (i.toNat * 1)) 0 w fun w1 =>
    N1 w0 l_b l_l l_c j (IntKind.i64.wrap (i + (1 : Int))) w1) (
    Pn w0 fun a_1 =>
    LdL (a_1.add 18) w fun x33_b x33_l x33_c =>
    New (.cells #[.slice l_b l_l l_c] 55) w fun b35 w2 =>
    Append 55 (.slice none 0 0) 1 24 x33_b x33_l x33_c (some ⟨b35, 0, none⟩) 1 w2 fun b36 c36 w3 =>
    Pn w0 fun a_2 =>
    Sts [.slice b36 (x33_l + 1) c36] (a_2.add 18) 0 w3 fun w4 =>
    R  w4)
theorem connlaw_World_OwnInts.L1b_eq (w0 l_b : Option Addr) (l_l l_c : Nat) (j i : Int) (w : World)  (N1 : Option Addr → Option Addr → Nat → Nat → Int → Int → World → Prop) (R : World → Prop)  :
    (
  Bm (decide (i < ((l_l : Nat) : Int))) (
    Pn l_b fun a =>
    (0 ≤ i ∧ i < ((l_l : Nat) : Int)) ∧
    Sts [.int .i64 (IntKind.i64.wrap ((-1 : Int) - j))] (Addr.add a (i.toNat * 1)) 0 w fun w1 =>
    N1 w0 l_b l_l l_c j (IntKind.i64.wrap (i + (1 : Int))) w1) (
    Pn w0 fun a_1 =>
    LdL (a_1.add 18) w fun x33_b x33_l x33_c =>
    New (.cells #[.slice l_b l_l l_c] 55) w fun b35 w2 =>
    Append 55 (.slice none 0 0) 1 24 x33_b x33_l x33_c (some ⟨b35, 0, none⟩) 1 w2 fun b36 c36 w3 =>
    Pn w0 fun a_2 =>
    Sts [.slice b36 (x33_l + 1) c36] (a_2.add 18) 0 w3 fun w4 =>
    R  w4)) = kstep Tryz.prog 39 Tryz.f31.results.toList (Tryz.f31.body.getD .skip) (connlaw_World_OwnInts.RV R) (kvc Tryz.prog 39 Tryz.f31.results.toList (Tryz.f31.body.getD .skip) (connlaw_World_OwnInts.RV R) [([(0, [1, 1, 1, 0, 1, 0, 0]), (2, [1, 1, 1, 0, 1, 0, 0]), (1, [0]), (0, [1, 1, 1, 1])], fun σ w => dP (slotOf σ 0) fun w0_ => dL (slotOf σ 1) fun l_b_ l_l_ l_c_ => dI .i64 (slotOf σ 4) fun j_ => dI .i64 (slotOf σ 5) fun i_ => N1 w0_ l_b_ l_l_ l_c_ j_ i_ w)] 2000) [(0, [1, 1, 1, 0, 1, 0, 0]), (2, [1, 1, 1, 0, 1, 0, 0]), (1, [0]), (0, [1, 1, 1, 1])] [(0, .pointer w0), (1, .slice l_b l_l l_c), (4, .int .i64 j), (5, .int .i64 i)] w := by kernel_rfl
theorem connlaw_World_OwnInts.L1b_sound {R : World → Prop} {N1 : Option Addr → Option Addr → Nat → Nat → Int → Int → World → Prop} (hN1 : ∀ w0 l_b l_l l_c j i w, N1 w0 l_b l_l l_c j i w → KW Tryz.prog 31 39 (connlaw_World_OwnInts.RV R) ([(0, [1, 1, 1, 0, 1, 0, 0]), (2, [1, 1, 1, 0, 1, 0, 0]), (1, [0]), (0, [1, 1, 1, 1])].map (toItem (Tryz.f31.body.getD .skip))) [(0, .pointer w0), (1, .slice l_b l_l l_c), (4, .int .i64 j), (5, .int .i64 i)] w) (w0 l_b : Option Addr) (l_l l_c : Nat) (j i : Int) (w : World) (h : connlaw_World_OwnInts.L1b w0 l_b l_l l_c j i w  N1 R) :
    KW Tryz.prog 31 39 (connlaw_World_OwnInts.RV R) ([(0, [1, 1, 1, 0, 1, 0, 0]), (2, [1, 1, 1, 0, 1, 0, 0]), (1, [0]), (0, [1, 1, 1, 1])].map (toItem (Tryz.f31.body.getD .skip))) [(0, .pointer w0), (1, .slice l_b l_l l_c), (4, .int .i64 j), (5, .int .i64 i)] w := by
  exact block_spec Tryz.func31 Tryz.mixed (stops_cons (fun σ w h => by
      obtain ⟨w0_, e0, h⟩ := dP_elim h
      obtain ⟨l_b_, l_l_, l_c_, e1, h⟩ := dL_elim h
      obtain ⟨j_, e2, h⟩ := dI_elim h
      obtain ⟨i_, e3, h⟩ := dI_elim h
      exact (hN1 w0_ l_b_ l_l_ l_c_ j_ i_ w h).weaken (Sub.cons (Sub.cons (Sub.cons (Sub.cons (Sub.nil _) e3) e2) e1) e0)) stops_nil) (Eq.mp (connlaw_World_OwnInts.L1b_eq w0 l_b l_l l_c j i w  N1 R ) h)
def connlaw_World_OwnInts.L1 (w0 l_b : Option Addr) (l_l l_c : Nat) (j i : Int) (w : World)  (R : World → Prop) : Prop :=
  ∃ (I : Nat → Option Addr → Option Addr → Nat → Nat → Int → Int → World → Prop) (m : Nat), I m w0 l_b l_l l_c j i w ∧ ∀ m w0 l_b l_l l_c j i w, I m w0 l_b l_l l_c j i w → connlaw_World_OwnInts.L1b w0 l_b l_l l_c j i w  (fun w0' l_b' l_l' l_c' j' i' w' => ∃ m', m' < m ∧ I m' w0' l_b' l_l' l_c' j' i' w') R
theorem connlaw_World_OwnInts.L1_sound {R : World → Prop}  (w0 l_b : Option Addr) (l_l l_c : Nat) (j i : Int) (w : World) (h : connlaw_World_OwnInts.L1 w0 l_b l_l l_c j i w  R) :
    KW Tryz.prog 31 39 (connlaw_World_OwnInts.RV R) ([(0, [1, 1, 1, 0, 1, 0, 0]), (2, [1, 1, 1, 0, 1, 0, 0]), (1, [0]), (0, [1, 1, 1, 1])].map (toItem (Tryz.f31.body.getD .skip))) [(0, .pointer w0), (1, .slice l_b l_l l_c), (4, .int .i64 j), (5, .int .i64 i)] w := by
  obtain ⟨I, m, hBase, hr⟩ := h
  refine KW.loop (fun m σ w => ∃ (w0 l_b : Option Addr) (l_l l_c : Nat) (j i : Int), σ = [(0, .pointer w0), (1, .slice l_b l_l l_c), (4, .int .i64 j), (5, .int .i64 i)] ∧ I m w0 l_b l_l l_c j i w) ?_ m _ w ⟨w0, l_b, l_l, l_c, j, i, rfl, hBase⟩
  rintro m ih σ w ⟨w0, l_b, l_l, l_c, j, i, rfl, hI⟩
  exact connlaw_World_OwnInts.L1b_sound  (N1 := fun w0' l_b' l_l' l_c' j' i' w' => ∃ m', m' < m ∧ I m' w0' l_b' l_l' l_c' j' i' w') (fun w0' l_b' l_l' l_c' j' i' w' hx => by obtain ⟨m', hlt, hI'⟩ := hx; exact ih m' hlt _ w' ⟨w0', l_b', l_l', l_c', j', i', rfl, hI'⟩) w0 l_b l_l l_c j i w (hr m w0 l_b l_l l_c j i w hI)
def connlaw_World_OwnInts.B0 (w0 l_b : Option Addr) (l_l l_c : Nat) (w : World)   (R : World → Prop) : Prop :=
  (0 ≤ ((l_c : Nat) : Int) ∧ ((l_c : Nat) : Int) ≤ ((l_c : Nat) : Int)) ∧
  Bm (((((l_c : Nat) : Int).toNat - ((0 : Nat) : Int).toNat : Nat) : Int) == (0 : Int)) (
    R  w) (
    Pn w0 fun a =>
    LdL (a.add 18) w fun x16_b x16_l x16_c =>
    connlaw_World_OwnInts.L1 w0 (slBase l_b ((0 : Nat) : Int) ((l_c : Nat) : Int) 1) (((l_c : Nat) : Int).toNat - ((0 : Nat) : Int).toNat) (((l_c : Nat) : Int).toNat - ((0 : Nat) : Int).toNat) ((x16_l : Nat) : Int) (0 : Int) w  R)
theorem connlaw_World_OwnInts.B0_eq (w0 l_b : Option Addr) (l_l l_c : Nat) (w : World)   (R : World → Prop) (sL1 : Option Addr → Option Addr → Nat → Nat → Int → Int → World → Prop) :
    (
  (0 ≤ ((l_c : Nat) : Int) ∧ ((l_c : Nat) : Int) ≤ ((l_c : Nat) : Int)) ∧
  Bm (((((l_c : Nat) : Int).toNat - ((0 : Nat) : Int).toNat : Nat) : Int) == (0 : Int)) (
    R  w) (
    Pn w0 fun a =>
    LdL (a.add 18) w fun x16_b x16_l x16_c =>
    sL1 w0 (slBase l_b ((0 : Nat) : Int) ((l_c : Nat) : Int) 1) (((l_c : Nat) : Int).toNat - ((0 : Nat) : Int).toNat) (((l_c : Nat) : Int).toNat - ((0 : Nat) : Int).toNat) ((x16_l : Nat) : Int) (0 : Int) w)) = kstep Tryz.prog 39 Tryz.f31.results.toList (Tryz.f31.body.getD .skip) (connlaw_World_OwnInts.RV R) (kvc Tryz.prog 39 Tryz.f31.results.toList (Tryz.f31.body.getD .skip) (connlaw_World_OwnInts.RV R) [([(0, [1, 1, 1, 0, 1, 0, 0]), (2, [1, 1, 1, 0, 1, 0, 0]), (1, [0]), (0, [1, 1, 1, 1])], fun σ w => dP (slotOf σ 0) fun w0_ => dL (slotOf σ 1) fun l_b_ l_l_ l_c_ => dI .i64 (slotOf σ 4) fun j_ => dI .i64 (slotOf σ 5) fun i_ => sL1 w0_ l_b_ l_l_ l_c_ j_ i_ w)] 2000) [(0, [])] [(0, .pointer w0), (1, .slice l_b l_l l_c)] w := by kernel_rfl
theorem connlaw_World_OwnInts.B0_sound {R : World → Prop}  (w0 l_b : Option Addr) (l_l l_c : Nat) (w : World) (h : connlaw_World_OwnInts.B0 w0 l_b l_l l_c w   R) :
    KW Tryz.prog 31 39 (connlaw_World_OwnInts.RV R) ([(0, [])].map (toItem (Tryz.f31.body.getD .skip))) [(0, .pointer w0), (1, .slice l_b l_l l_c)] w := by
  exact block_spec Tryz.func31 Tryz.mixed (stops_cons (fun σ w h => by
      obtain ⟨w0_, e0, h⟩ := dP_elim h
      obtain ⟨l_b_, l_l_, l_c_, e1, h⟩ := dL_elim h
      obtain ⟨j_, e2, h⟩ := dI_elim h
      obtain ⟨i_, e3, h⟩ := dI_elim h
      exact (connlaw_World_OwnInts.L1_sound  w0_ l_b_ l_l_ l_c_ j_ i_ w h).weaken (Sub.cons (Sub.cons (Sub.cons (Sub.cons (Sub.nil _) e3) e2) e1) e0)) stops_nil) (Eq.mp (connlaw_World_OwnInts.B0_eq w0 l_b l_l l_c w   R (fun w0_ l_b_ l_l_ l_c_ j_ i_ w => connlaw_World_OwnInts.L1 w0_ l_b_ l_l_ l_c_ j_ i_ w  R)) h)
theorem connlaw_World_OwnInts.sound (w0 l_b : Option Addr) (l_l l_c : Nat) (w : World) (R : World → Prop) (h : connlaw_World_OwnInts.B0 w0 l_b l_l l_c w R) : connlaw_World_OwnInts.Call w0 l_b l_l l_c w R := by
  have hc := calls_of_block (args := #[.pointer w0, .slice l_b l_l l_c]) Tryz.func31 (body := (Tryz.f31.body.getD .skip)) (by kernel_rfl) (by kernel_rfl) (args_slot _) (connlaw_World_OwnInts.B0_sound w0 l_b l_l l_c w h)
  exact hc.mono fun e w' he => by
    obtain ⟨v, rfl, hv⟩ := he
    exact connlaw_World_OwnInts.RV_elim hv
def conn_Conn_flying.B2 (n : Int) (t28 : Bool) (w : World)   (R : Int → World → Prop) : Prop :=
  Bm t28 (
    R (IntKind.i64.wrap (n + (1 : Int))) w) (
    R n w)
theorem conn_Conn_flying.B2_eq (n : Int) (t28 : Bool) (w : World)   (R : Int → World → Prop)  :
    (
  Bm t28 (
    R (IntKind.i64.wrap (n + (1 : Int))) w) (
    R n w)) = kstep Tryz.prog 32 Tryz.f32.results.toList (Tryz.f32.body.getD .skip) (conn_Conn_flying.RV R) (kvc Tryz.prog 32 Tryz.f32.results.toList (Tryz.f32.body.getD .skip) (conn_Conn_flying.RV R) [] 2000) [(0, [1, 1, 1, 0, 1]), (0, [1, 1, 1, 1])] [(3, .int .i64 n), (28, .bool t28)] w := by kernel_rfl
theorem conn_Conn_flying.B2_sound {R : Int → World → Prop}  (n : Int) (t28 : Bool) (w : World) (h : conn_Conn_flying.B2 n t28 w   R) :
    KW Tryz.prog 32 32 (conn_Conn_flying.RV R) ([(0, [1, 1, 1, 0, 1]), (0, [1, 1, 1, 1])].map (toItem (Tryz.f32.body.getD .skip))) [(3, .int .i64 n), (28, .bool t28)] w := by
  exact block_spec Tryz.func32 Tryz.mixed stops_nil (Eq.mp (conn_Conn_flying.B2_eq n t28 w   R ) h)
def conn_Conn_flying.B1 (c : Option Addr) (t15 : Bool) (w : World)   (R : Int → World → Prop) : Prop :=
  Bm t15 (
    R (1 : Int) w) (
    conn_Conn_sent.Call c w fun r17 w1 =>
    Pn c fun a =>
    LdB (a.add 5) w1 fun x21 =>
    Bm x21 (
      Pn c fun a_1 =>
      LdB (a_1.add 6) w1 fun x26 =>
      conn_Conn_flying.B2 r17 (!x26) w1  R) (
      conn_Conn_flying.B2 r17 false w1  R))
theorem conn_Conn_flying.B1_eq (c : Option Addr) (t15 : Bool) (w : World)   (R : Int → World → Prop) (sB2 : Int → Bool → World → Prop) :
    (
  Bm t15 (
    R (1 : Int) w) (
    conn_Conn_sent.Call c w fun r17 w1 =>
    Pn c fun a =>
    LdB (a.add 5) w1 fun x21 =>
    Bm x21 (
      Pn c fun a_1 =>
      LdB (a_1.add 6) w1 fun x26 =>
      sB2 r17 (!x26) w1) (
      sB2 r17 false w1))) = kstep Tryz.prog 32 Tryz.f32.results.toList (Tryz.f32.body.getD .skip) (conn_Conn_flying.RV R) (kvc Tryz.prog 32 Tryz.f32.results.toList (Tryz.f32.body.getD .skip) (conn_Conn_flying.RV R) [([(0, [1, 1, 1, 0, 1]), (0, [1, 1, 1, 1])], fun σ w => dI .i64 (slotOf σ 3) fun n_ => dB (slotOf σ 28) fun t28_ => sB2 n_ t28_ w)] 2000) [(0, [1, 0, 1]), (0, [1, 1])] [(0, .pointer c), (15, .bool t15)] w := by kernel_rfl
theorem conn_Conn_flying.B1_sound {R : Int → World → Prop}  (c : Option Addr) (t15 : Bool) (w : World) (h : conn_Conn_flying.B1 c t15 w   R) :
    KW Tryz.prog 32 32 (conn_Conn_flying.RV R) ([(0, [1, 0, 1]), (0, [1, 1])].map (toItem (Tryz.f32.body.getD .skip))) [(0, .pointer c), (15, .bool t15)] w := by
  exact block_spec Tryz.func32 Tryz.mixed (stops_cons (fun σ w h => by
      obtain ⟨n_, e0, h⟩ := dI_elim h
      obtain ⟨t28_, e1, h⟩ := dB_elim h
      exact (conn_Conn_flying.B2_sound  n_ t28_ w h).weaken (Sub.cons (Sub.cons (Sub.nil _) e1) e0)) stops_nil) (Eq.mp (conn_Conn_flying.B1_eq c t15 w   R (fun n_ t28_ w => conn_Conn_flying.B2 n_ t28_ w  R)) h)
def conn_Conn_flying.B0 (c : Option Addr) (w : World)   (R : Int → World → Prop) : Prop :=
  Pn c fun a =>
  LdI .i64 (a.add 2) w fun x7 =>
  Bm (x7 == (1 : Int)) (
    conn_Conn_flying.B1 c true w  R) (
    Pn c fun a_1 =>
    LdI .i64 (a_1.add 2) w fun x13 =>
    conn_Conn_flying.B1 c (x13 == (2 : Int)) w  R)
theorem conn_Conn_flying.B0_eq (c : Option Addr) (w : World)   (R : Int → World → Prop) (sB1 : Option Addr → Bool → World → Prop) :
    (
  Pn c fun a =>
  LdI .i64 (a.add 2) w fun x7 =>
  Bm (x7 == (1 : Int)) (
    sB1 c true w) (
    Pn c fun a_1 =>
    LdI .i64 (a_1.add 2) w fun x13 =>
    sB1 c (x13 == (2 : Int)) w)) = kstep Tryz.prog 32 Tryz.f32.results.toList (Tryz.f32.body.getD .skip) (conn_Conn_flying.RV R) (kvc Tryz.prog 32 Tryz.f32.results.toList (Tryz.f32.body.getD .skip) (conn_Conn_flying.RV R) [([(0, [1, 0, 1]), (0, [1, 1])], fun σ w => dP (slotOf σ 0) fun c_ => dB (slotOf σ 15) fun t15_ => sB1 c_ t15_ w)] 2000) [(0, [])] [(0, .pointer c)] w := by kernel_rfl
theorem conn_Conn_flying.B0_sound {R : Int → World → Prop}  (c : Option Addr) (w : World) (h : conn_Conn_flying.B0 c w   R) :
    KW Tryz.prog 32 32 (conn_Conn_flying.RV R) ([(0, [])].map (toItem (Tryz.f32.body.getD .skip))) [(0, .pointer c)] w := by
  exact block_spec Tryz.func32 Tryz.mixed (stops_cons (fun σ w h => by
      obtain ⟨c_, e0, h⟩ := dP_elim h
      obtain ⟨t15_, e1, h⟩ := dB_elim h
      exact (conn_Conn_flying.B1_sound  c_ t15_ w h).weaken (Sub.cons (Sub.cons (Sub.nil _) e1) e0)) stops_nil) (Eq.mp (conn_Conn_flying.B0_eq c w   R (fun c_ t15_ w => conn_Conn_flying.B1 c_ t15_ w  R)) h)
theorem conn_Conn_flying.sound (c : Option Addr) (w : World) (R : Int → World → Prop) (h : conn_Conn_flying.B0 c w R) : conn_Conn_flying.Call c w R := by
  have hc := calls_of_block (args := #[.pointer c]) Tryz.func32 (body := (Tryz.f32.body.getD .skip)) (by kernel_rfl) (by kernel_rfl) (args_slot _) (conn_Conn_flying.B0_sound c w h)
  exact hc.mono fun e w' he => by
    obtain ⟨v, rfl, hv⟩ := he
    exact conn_Conn_flying.RV_elim hv
def connlaw_World_Feed.B0 (w0 : Option Addr) (c s_0 s_1 s_2 s_3 s_4 s_5 : Int) (s_6_b : Option Addr) (s_6_l s_6_c : Nat) (w : World)   (R : Bool → World → Prop) : Prop :=
  New (.cells #[.int .i64 s_0, .int .i64 s_1, .int .i64 s_2, .int .i64 s_3, .int .i64 s_4, .int .i64 s_5, .slice s_6_b s_6_l s_6_c] 45) w fun s_ w1 =>
  LdI .i64 ⟨s_, 0, none⟩ w1 fun x11_0 =>
  LdI .i64 ⟨s_, 1, none⟩ w1 fun x11_1 =>
  LdI .i64 ⟨s_, 2, none⟩ w1 fun x11_2 =>
  LdI .i64 ⟨s_, 3, none⟩ w1 fun x11_3 =>
  LdI .i64 ⟨s_, 4, none⟩ w1 fun x11_4 =>
  LdI .i64 ⟨s_, 5, none⟩ w1 fun x11_5 =>
  LdL ⟨s_, 6, none⟩ w1 fun x11_6_b x11_6_l x11_6_c =>
  connlaw_CopySeg.Call x11_0 x11_1 x11_2 x11_3 x11_4 x11_5 x11_6_b x11_6_l x11_6_c w1 fun r12_0 r12_1 r12_2 r12_3 r12_4 r12_5 r12_6_b r12_6_l r12_6_c w2 =>
  New (.cells #[.int .i64 (0 : Int), .int .i64 (0 : Int), .int .i64 (0 : Int), .int .i64 (0 : Int), .int .i64 (0 : Int), .int .i64 (0 : Int), .slice none 0 0] 45) w2 fun s1_ w3 =>
  Sts [.int .i64 r12_0, .int .i64 r12_1, .int .i64 r12_2, .int .i64 r12_3, .int .i64 r12_4, .int .i64 r12_5, .slice r12_6_b r12_6_l r12_6_c] ⟨s1_, 0, none⟩ 0 w3 fun w4 =>
  LdI .i64 ⟨s_, 0, none⟩ w4 fun x13_0 =>
  LdI .i64 ⟨s_, 1, none⟩ w4 fun x13_1 =>
  LdI .i64 ⟨s_, 2, none⟩ w4 fun x13_2 =>
  LdI .i64 ⟨s_, 3, none⟩ w4 fun x13_3 =>
  LdI .i64 ⟨s_, 4, none⟩ w4 fun x13_4 =>
  LdI .i64 ⟨s_, 5, none⟩ w4 fun x13_5 =>
  LdL ⟨s_, 6, none⟩ w4 fun x13_6_b x13_6_l x13_6_c =>
  connlaw_CopySeg.Call x13_0 x13_1 x13_2 x13_3 x13_4 x13_5 x13_6_b x13_6_l x13_6_c w4 fun r14_0 r14_1 r14_2 r14_3 r14_4 r14_5 r14_6_b r14_6_l r14_6_c w5 =>
  New (.cells #[.int .i64 (0 : Int), .int .i64 (0 : Int), .int .i64 (0 : Int), .int .i64 (0 : Int), .int .i64 (0 : Int), .int .i64 (0 : Int), .slice none 0 0] 45) w5 fun s2_ w6 =>
  Sts [.int .i64 r14_0, .int .i64 r14_1, .int .i64 r14_2, .int .i64 r14_3, .int .i64 r14_4, .int .i64 r14_5, .slice r14_6_b r14_6_l r14_6_c] ⟨s2_, 0, none⟩ 0 w6 fun w7 =>
  Pn w0 fun a =>
  (0 ≤ c ∧ c < ((2 : Nat) : Int)) ∧
  LdP (Addr.add a (c.toNat * 1)) w7.drew fun x20 =>
  LdI .i64 ⟨s1_, 0, none⟩ w7.drew fun x21_0 =>
  LdI .i64 ⟨s1_, 1, none⟩ w7.drew fun x21_1 =>
  LdI .i64 ⟨s1_, 2, none⟩ w7.drew fun x21_2 =>
  LdI .i64 ⟨s1_, 3, none⟩ w7.drew fun x21_3 =>
  LdI .i64 ⟨s1_, 4, none⟩ w7.drew fun x21_4 =>
  LdI .i64 ⟨s1_, 5, none⟩ w7.drew fun x21_5 =>
  LdL ⟨s1_, 6, none⟩ w7.drew fun x21_6_b x21_6_l x21_6_c =>
  conn_Conn_Input.Call x20 x21_0 x21_1 x21_2 x21_3 x21_4 x21_5 x21_6_b x21_6_l x21_6_c w7.drew fun r22_b r22_l r22_c w8 =>
  Pn w0 fun a_1 =>
  (0 ≤ c ∧ c < ((2 : Nat) : Int)) ∧
  LdP (Addr.add (a_1.add 2) (c.toNat * 1)) w8.drew fun x28 =>
  LdI .i64 ⟨s2_, 0, none⟩ w8.drew fun x29_0 =>
  LdI .i64 ⟨s2_, 1, none⟩ w8.drew fun x29_1 =>
  LdI .i64 ⟨s2_, 2, none⟩ w8.drew fun x29_2 =>
  LdI .i64 ⟨s2_, 3, none⟩ w8.drew fun x29_3 =>
  LdI .i64 ⟨s2_, 4, none⟩ w8.drew fun x29_4 =>
  LdI .i64 ⟨s2_, 5, none⟩ w8.drew fun x29_5 =>
  LdL ⟨s2_, 6, none⟩ w8.drew fun x29_6_b x29_6_l x29_6_c =>
  connm_Conn_Input.Call x28 x29_0 x29_1 x29_2 x29_3 x29_4 x29_5 x29_6_b x29_6_l x29_6_c w8.drew fun r30_b r30_l r30_c w9 =>
  LdL ⟨s1_, 6, none⟩ w9 fun x32_b x32_l x32_c =>
  connlaw_Scribble.Call x32_b x32_l x32_c w9 fun w10 =>
  connlaw_World_Out.Call w0 r22_b r22_l r22_c r30_b r30_l r30_c w10 fun r37 w11 =>
  R r37 w11
theorem connlaw_World_Feed.B0_eq (w0 : Option Addr) (c s_0 s_1 s_2 s_3 s_4 s_5 : Int) (s_6_b : Option Addr) (s_6_l s_6_c : Nat) (w : World)   (R : Bool → World → Prop)  :
    (
  New (.cells #[.int .i64 s_0, .int .i64 s_1, .int .i64 s_2, .int .i64 s_3, .int .i64 s_4, .int .i64 s_5, .slice s_6_b s_6_l s_6_c] 45) w fun s_ w1 =>
  LdI .i64 ⟨s_, 0, none⟩ w1 fun x11_0 =>
  LdI .i64 ⟨s_, 1, none⟩ w1 fun x11_1 =>
  LdI .i64 ⟨s_, 2, none⟩ w1 fun x11_2 =>
  LdI .i64 ⟨s_, 3, none⟩ w1 fun x11_3 =>
  LdI .i64 ⟨s_, 4, none⟩ w1 fun x11_4 =>
  LdI .i64 ⟨s_, 5, none⟩ w1 fun x11_5 =>
  LdL ⟨s_, 6, none⟩ w1 fun x11_6_b x11_6_l x11_6_c =>
  connlaw_CopySeg.Call x11_0 x11_1 x11_2 x11_3 x11_4 x11_5 x11_6_b x11_6_l x11_6_c w1 fun r12_0 r12_1 r12_2 r12_3 r12_4 r12_5 r12_6_b r12_6_l r12_6_c w2 =>
  New (.cells #[.int .i64 (0 : Int), .int .i64 (0 : Int), .int .i64 (0 : Int), .int .i64 (0 : Int), .int .i64 (0 : Int), .int .i64 (0 : Int), .slice none 0 0] 45) w2 fun s1_ w3 =>
  Sts [.int .i64 r12_0, .int .i64 r12_1, .int .i64 r12_2, .int .i64 r12_3, .int .i64 r12_4, .int .i64 r12_5, .slice r12_6_b r12_6_l r12_6_c] ⟨s1_, 0, none⟩ 0 w3 fun w4 =>
  LdI .i64 ⟨s_, 0, none⟩ w4 fun x13_0 =>
  LdI .i64 ⟨s_, 1, none⟩ w4 fun x13_1 =>
  LdI .i64 ⟨s_, 2, none⟩ w4 fun x13_2 =>
  LdI .i64 ⟨s_, 3, none⟩ w4 fun x13_3 =>
  LdI .i64 ⟨s_, 4, none⟩ w4 fun x13_4 =>
  LdI .i64 ⟨s_, 5, none⟩ w4 fun x13_5 =>
  LdL ⟨s_, 6, none⟩ w4 fun x13_6_b x13_6_l x13_6_c =>
  connlaw_CopySeg.Call x13_0 x13_1 x13_2 x13_3 x13_4 x13_5 x13_6_b x13_6_l x13_6_c w4 fun r14_0 r14_1 r14_2 r14_3 r14_4 r14_5 r14_6_b r14_6_l r14_6_c w5 =>
  New (.cells #[.int .i64 (0 : Int), .int .i64 (0 : Int), .int .i64 (0 : Int), .int .i64 (0 : Int), .int .i64 (0 : Int), .int .i64 (0 : Int), .slice none 0 0] 45) w5 fun s2_ w6 =>
  Sts [.int .i64 r14_0, .int .i64 r14_1, .int .i64 r14_2, .int .i64 r14_3, .int .i64 r14_4, .int .i64 r14_5, .slice r14_6_b r14_6_l r14_6_c] ⟨s2_, 0, none⟩ 0 w6 fun w7 =>
  Pn w0 fun a =>
  (0 ≤ c ∧ c < ((2 : Nat) : Int)) ∧
  LdP (Addr.add a (c.toNat * 1)) w7.drew fun x20 =>
  LdI .i64 ⟨s1_, 0, none⟩ w7.drew fun x21_0 =>
  LdI .i64 ⟨s1_, 1, none⟩ w7.drew fun x21_1 =>
  LdI .i64 ⟨s1_, 2, none⟩ w7.drew fun x21_2 =>
  LdI .i64 ⟨s1_, 3, none⟩ w7.drew fun x21_3 =>
  LdI .i64 ⟨s1_, 4, none⟩ w7.drew fun x21_4 =>
  LdI .i64 ⟨s1_, 5, none⟩ w7.drew fun x21_5 =>
  LdL ⟨s1_, 6, none⟩ w7.drew fun x21_6_b x21_6_l x21_6_c =>
  conn_Conn_Input.Call x20 x21_0 x21_1 x21_2 x21_3 x21_4 x21_5 x21_6_b x21_6_l x21_6_c w7.drew fun r22_b r22_l r22_c w8 =>
  Pn w0 fun a_1 =>
  (0 ≤ c ∧ c < ((2 : Nat) : Int)) ∧
  LdP (Addr.add (a_1.add 2) (c.toNat * 1)) w8.drew fun x28 =>
  LdI .i64 ⟨s2_, 0, none⟩ w8.drew fun x29_0 =>
  LdI .i64 ⟨s2_, 1, none⟩ w8.drew fun x29_1 =>
  LdI .i64 ⟨s2_, 2, none⟩ w8.drew fun x29_2 =>
  LdI .i64 ⟨s2_, 3, none⟩ w8.drew fun x29_3 =>
  LdI .i64 ⟨s2_, 4, none⟩ w8.drew fun x29_4 =>
  LdI .i64 ⟨s2_, 5, none⟩ w8.drew fun x29_5 =>
  LdL ⟨s2_, 6, none⟩ w8.drew fun x29_6_b x29_6_l x29_6_c =>
  connm_Conn_Input.Call x28 x29_0 x29_1 x29_2 x29_3 x29_4 x29_5 x29_6_b x29_6_l x29_6_c w8.drew fun r30_b r30_l r30_c w9 =>
  LdL ⟨s1_, 6, none⟩ w9 fun x32_b x32_l x32_c =>
  connlaw_Scribble.Call x32_b x32_l x32_c w9 fun w10 =>
  connlaw_World_Out.Call w0 r22_b r22_l r22_c r30_b r30_l r30_c w10 fun r37 w11 =>
  R r37 w11) = kstep Tryz.prog 38 Tryz.f33.results.toList (Tryz.f33.body.getD .skip) (connlaw_World_Feed.RV R) (kvc Tryz.prog 38 Tryz.f33.results.toList (Tryz.f33.body.getD .skip) (connlaw_World_Feed.RV R) [] 2000) [(0, [])] [(0, .pointer w0), (1, .int .i64 c), (2, .agg #[.int .i64 s_0, .int .i64 s_1, .int .i64 s_2, .int .i64 s_3, .int .i64 s_4, .int .i64 s_5, .slice s_6_b s_6_l s_6_c])] w := by kernel_rfl
theorem connlaw_World_Feed.B0_sound {R : Bool → World → Prop}  (w0 : Option Addr) (c s_0 s_1 s_2 s_3 s_4 s_5 : Int) (s_6_b : Option Addr) (s_6_l s_6_c : Nat) (w : World) (h : connlaw_World_Feed.B0 w0 c s_0 s_1 s_2 s_3 s_4 s_5 s_6_b s_6_l s_6_c w   R) :
    KW Tryz.prog 33 38 (connlaw_World_Feed.RV R) ([(0, [])].map (toItem (Tryz.f33.body.getD .skip))) [(0, .pointer w0), (1, .int .i64 c), (2, .agg #[.int .i64 s_0, .int .i64 s_1, .int .i64 s_2, .int .i64 s_3, .int .i64 s_4, .int .i64 s_5, .slice s_6_b s_6_l s_6_c])] w := by
  exact block_spec Tryz.func33 Tryz.mixed stops_nil (Eq.mp (connlaw_World_Feed.B0_eq w0 c s_0 s_1 s_2 s_3 s_4 s_5 s_6_b s_6_l s_6_c w   R ) h)
theorem connlaw_World_Feed.sound (w0 : Option Addr) (c s_0 s_1 s_2 s_3 s_4 s_5 : Int) (s_6_b : Option Addr) (s_6_l s_6_c : Nat) (w : World) (R : Bool → World → Prop) (h : connlaw_World_Feed.B0 w0 c s_0 s_1 s_2 s_3 s_4 s_5 s_6_b s_6_l s_6_c w R) : connlaw_World_Feed.Call w0 c s_0 s_1 s_2 s_3 s_4 s_5 s_6_b s_6_l s_6_c w R := by
  have hc := calls_of_block (args := #[.pointer w0, .int .i64 c, .agg #[.int .i64 s_0, .int .i64 s_1, .int .i64 s_2, .int .i64 s_3, .int .i64 s_4, .int .i64 s_5, .slice s_6_b s_6_l s_6_c]]) Tryz.func33 (body := (Tryz.f33.body.getD .skip)) (by kernel_rfl) (by kernel_rfl) (args_slot _) (connlaw_World_Feed.B0_sound w0 c s_0 s_1 s_2 s_3 s_4 s_5 s_6_b s_6_l s_6_c w h)
  exact hc.mono fun e w' he => by
    obtain ⟨v, rfl, hv⟩ := he
    exact connlaw_World_Feed.RV_elim hv
def conn_Conn_OpenActive.B0 (c : Option Addr) (iss : Int) (w : World)   (R : Option Addr → Nat → Nat → Int → World → Prop) : Prop :=
  Pn c fun a =>
  LdI .i64 (a.add 2) w fun x10 =>
  Bm (x10 != (0 : Int)) (
    R none 0 0 (13 : Int) w) (
    conn_Conn_begin.Call c (1 : Int) iss w fun w1 =>
    conn_Conn_again.Call c w1 fun r16_0 r16_1 r16_2 r16_3 r16_4 r16_5 r16_6_b r16_6_l r16_6_c w2 =>
    New (.cells #[.int .i64 (0 : Int), .int .i64 (0 : Int), .int .i64 (0 : Int), .int .i64 (0 : Int), .int .i64 (0 : Int), .int .i64 (0 : Int), .slice none 0 0] 45) w2 fun s_ w3 =>
    Sts [.int .i64 r16_0, .int .i64 r16_1, .int .i64 r16_2, .int .i64 r16_3, .int .i64 r16_4, .int .i64 r16_5, .slice r16_6_b r16_6_l r16_6_c] ⟨s_, 0, none⟩ 0 w3 fun w4 =>
    LdI .i64 ⟨s_, 0, none⟩ w4 fun x17_0 =>
    LdI .i64 ⟨s_, 1, none⟩ w4 fun x17_1 =>
    LdI .i64 ⟨s_, 2, none⟩ w4 fun x17_2 =>
    LdI .i64 ⟨s_, 3, none⟩ w4 fun x17_3 =>
    LdI .i64 ⟨s_, 4, none⟩ w4 fun x17_4 =>
    LdI .i64 ⟨s_, 5, none⟩ w4 fun x17_5 =>
    LdL ⟨s_, 6, none⟩ w4 fun x17_6_b x17_6_l x17_6_c =>
    conn_one.Call x17_0 x17_1 x17_2 x17_3 x17_4 x17_5 x17_6_b x17_6_l x17_6_c w4 fun r18_b r18_l r18_c w5 =>
    R r18_b r18_l r18_c (0 : Int) w5)
theorem conn_Conn_OpenActive.B0_eq (c : Option Addr) (iss : Int) (w : World)   (R : Option Addr → Nat → Nat → Int → World → Prop)  :
    (
  Pn c fun a =>
  LdI .i64 (a.add 2) w fun x10 =>
  Bm (x10 != (0 : Int)) (
    R none 0 0 (13 : Int) w) (
    conn_Conn_begin.Call c (1 : Int) iss w fun w1 =>
    conn_Conn_again.Call c w1 fun r16_0 r16_1 r16_2 r16_3 r16_4 r16_5 r16_6_b r16_6_l r16_6_c w2 =>
    New (.cells #[.int .i64 (0 : Int), .int .i64 (0 : Int), .int .i64 (0 : Int), .int .i64 (0 : Int), .int .i64 (0 : Int), .int .i64 (0 : Int), .slice none 0 0] 45) w2 fun s_ w3 =>
    Sts [.int .i64 r16_0, .int .i64 r16_1, .int .i64 r16_2, .int .i64 r16_3, .int .i64 r16_4, .int .i64 r16_5, .slice r16_6_b r16_6_l r16_6_c] ⟨s_, 0, none⟩ 0 w3 fun w4 =>
    LdI .i64 ⟨s_, 0, none⟩ w4 fun x17_0 =>
    LdI .i64 ⟨s_, 1, none⟩ w4 fun x17_1 =>
    LdI .i64 ⟨s_, 2, none⟩ w4 fun x17_2 =>
    LdI .i64 ⟨s_, 3, none⟩ w4 fun x17_3 =>
    LdI .i64 ⟨s_, 4, none⟩ w4 fun x17_4 =>
    LdI .i64 ⟨s_, 5, none⟩ w4 fun x17_5 =>
    LdL ⟨s_, 6, none⟩ w4 fun x17_6_b x17_6_l x17_6_c =>
    conn_one.Call x17_0 x17_1 x17_2 x17_3 x17_4 x17_5 x17_6_b x17_6_l x17_6_c w4 fun r18_b r18_l r18_c w5 =>
    R r18_b r18_l r18_c (0 : Int) w5)) = kstep Tryz.prog 19 Tryz.f34.results.toList (Tryz.f34.body.getD .skip) (conn_Conn_OpenActive.RV R) (kvc Tryz.prog 19 Tryz.f34.results.toList (Tryz.f34.body.getD .skip) (conn_Conn_OpenActive.RV R) [] 2000) [(0, [])] [(0, .pointer c), (1, .int .i64 iss)] w := by kernel_rfl
theorem conn_Conn_OpenActive.B0_sound {R : Option Addr → Nat → Nat → Int → World → Prop}  (c : Option Addr) (iss : Int) (w : World) (h : conn_Conn_OpenActive.B0 c iss w   R) :
    KW Tryz.prog 34 19 (conn_Conn_OpenActive.RV R) ([(0, [])].map (toItem (Tryz.f34.body.getD .skip))) [(0, .pointer c), (1, .int .i64 iss)] w := by
  exact block_spec Tryz.func34 Tryz.mixed stops_nil (Eq.mp (conn_Conn_OpenActive.B0_eq c iss w   R ) h)
theorem conn_Conn_OpenActive.sound (c : Option Addr) (iss : Int) (w : World) (R : Option Addr → Nat → Nat → Int → World → Prop) (h : conn_Conn_OpenActive.B0 c iss w R) : conn_Conn_OpenActive.Call c iss w R := by
  have hc := calls_of_block (args := #[.pointer c, .int .i64 iss]) Tryz.func34 (body := (Tryz.f34.body.getD .skip)) (by kernel_rfl) (by kernel_rfl) (args_slot _) (conn_Conn_OpenActive.B0_sound c iss w h)
  exact hc.mono fun e w' he => by
    obtain ⟨v, rfl, hv⟩ := he
    exact conn_Conn_OpenActive.RV_elim hv
def connm_Conn_OpenActive.B0 (c : Option Addr) (iss : Int) (w : World)   (R : Option Addr → Nat → Nat → Int → World → Prop) : Prop :=
  Pn c fun a =>
  LdI .i64 a w fun x10 =>
  Bm (x10 != (0 : Int)) (
    R none 0 0 (13 : Int) w) (
    api_SeqAdd.Call iss (0 : Int) w fun r13 w1 =>
    connm_Conn_wipe.Call c w1 fun w2 =>
    Pn c fun a_1 =>
    Sts [.int .i64 (1 : Int)] a_1 0 w2 fun w3 =>
    Pn c fun a_2 =>
    Sts [.int .i64 r13] (a_2.add 6) 0 w3 fun w4 =>
    Pn c fun a_3 =>
    Sts [.int .i64 r13] (a_3.add 7) 0 w4 fun w5 =>
    Pn c fun a_4 =>
    Sts [.int .i64 (11 : Int)] (a_4.add 47) 0 w5 fun w6 =>
    Pn c fun a_5 =>
    Sts [.int .i64 (2 : Int)] (a_5.add 45) 0 w6 fun w7 =>
    connm_Conn_again.Call c w7 fun r34_0 r34_1 r34_2 r34_3 r34_4 r34_5 r34_6_b r34_6_l r34_6_c w8 =>
    New (.cells #[.int .i64 r34_0, .int .i64 r34_1, .int .i64 r34_2, .int .i64 r34_3, .int .i64 r34_4, .int .i64 r34_5, .slice r34_6_b r34_6_l r34_6_c] 45) w8 fun b35 w9 =>
    R (some ⟨b35, 0, none⟩) 1 1 (0 : Int) w9)
theorem connm_Conn_OpenActive.B0_eq (c : Option Addr) (iss : Int) (w : World)   (R : Option Addr → Nat → Nat → Int → World → Prop)  :
    (
  Pn c fun a =>
  LdI .i64 a w fun x10 =>
  Bm (x10 != (0 : Int)) (
    R none 0 0 (13 : Int) w) (
    api_SeqAdd.Call iss (0 : Int) w fun r13 w1 =>
    connm_Conn_wipe.Call c w1 fun w2 =>
    Pn c fun a_1 =>
    Sts [.int .i64 (1 : Int)] a_1 0 w2 fun w3 =>
    Pn c fun a_2 =>
    Sts [.int .i64 r13] (a_2.add 6) 0 w3 fun w4 =>
    Pn c fun a_3 =>
    Sts [.int .i64 r13] (a_3.add 7) 0 w4 fun w5 =>
    Pn c fun a_4 =>
    Sts [.int .i64 (11 : Int)] (a_4.add 47) 0 w5 fun w6 =>
    Pn c fun a_5 =>
    Sts [.int .i64 (2 : Int)] (a_5.add 45) 0 w6 fun w7 =>
    connm_Conn_again.Call c w7 fun r34_0 r34_1 r34_2 r34_3 r34_4 r34_5 r34_6_b r34_6_l r34_6_c w8 =>
    New (.cells #[.int .i64 r34_0, .int .i64 r34_1, .int .i64 r34_2, .int .i64 r34_3, .int .i64 r34_4, .int .i64 r34_5, .slice r34_6_b r34_6_l r34_6_c] 45) w8 fun b35 w9 =>
    R (some ⟨b35, 0, none⟩) 1 1 (0 : Int) w9)) = kstep Tryz.prog 36 Tryz.f35.results.toList (Tryz.f35.body.getD .skip) (connm_Conn_OpenActive.RV R) (kvc Tryz.prog 36 Tryz.f35.results.toList (Tryz.f35.body.getD .skip) (connm_Conn_OpenActive.RV R) [] 2000) [(0, [])] [(0, .pointer c), (1, .int .i64 iss)] w := by kernel_rfl
theorem connm_Conn_OpenActive.B0_sound {R : Option Addr → Nat → Nat → Int → World → Prop}  (c : Option Addr) (iss : Int) (w : World) (h : connm_Conn_OpenActive.B0 c iss w   R) :
    KW Tryz.prog 35 36 (connm_Conn_OpenActive.RV R) ([(0, [])].map (toItem (Tryz.f35.body.getD .skip))) [(0, .pointer c), (1, .int .i64 iss)] w := by
  exact block_spec Tryz.func35 Tryz.mixed stops_nil (Eq.mp (connm_Conn_OpenActive.B0_eq c iss w   R ) h)
theorem connm_Conn_OpenActive.sound (c : Option Addr) (iss : Int) (w : World) (R : Option Addr → Nat → Nat → Int → World → Prop) (h : connm_Conn_OpenActive.B0 c iss w R) : connm_Conn_OpenActive.Call c iss w R := by
  have hc := calls_of_block (args := #[.pointer c, .int .i64 iss]) Tryz.func35 (body := (Tryz.f35.body.getD .skip)) (by kernel_rfl) (by kernel_rfl) (args_slot _) (connm_Conn_OpenActive.B0_sound c iss w h)
  exact hc.mono fun e w' he => by
    obtain ⟨v, rfl, hv⟩ := he
    exact connm_Conn_OpenActive.RV_elim hv
def connlaw_World_Out.L2b (w0 a_b : Option Addr) (a_l a_c : Nat) (j i : Int) (w : World)  (N2 : Option Addr → Option Addr → Nat → Nat → Int → Int → World → Prop) (R : Bool → World → Prop) : Prop :=
  Bm (decide (i < ((a_l : Nat) : Int))) (
    Pn a_b fun a =>
    (0 ≤ i ∧ i < ((a_l : Nat) : Int)) ∧
    Sts [.int .i64 (0 : Int), .int .i64 (0 : Int), .int .i64 (IntKind.i64.wrap ((-1 : Int) - j)), .int .i64 (0 : Int), .int .i64 (0 : Int), .int .i64 (0 : Int), .slice none 0 0] (Addr.add a (i.toNat * 7)) 0 w fun w1 =>
    N2 w0 a_b a_l a_c j (IntKind.i64.wrap (i + (1 : Int))) w1) (
    Pn w0 fun a_1 =>
    LdL (a_1.add 19) w fun x71_b x71_l x71_c =>
    New (.cells #[.slice a_b a_l a_c] 42) w fun b73 w2 =>
    Append 42 (.slice none 0 0) 1 24 x71_b x71_l x71_c (some ⟨b73, 0, none⟩) 1 w2 fun b74 c74 w3 =>
    Pn w0 fun a_2 =>
    Sts [.slice b74 (x71_l + 1) c74] (a_2.add 19) 0 w3 fun w4 =>
    R true w4)
theorem connlaw_World_Out.L2b_eq (w0 a_b : Option Addr) (a_l a_c : Nat) (j i : Int) (w : World)  (N2 : Option Addr → Option Addr → Nat → Nat → Int → Int → World → Prop) (R : Bool → World → Prop)  :
    (
  Bm (decide (i < ((a_l : Nat) : Int))) (
    Pn a_b fun a =>
    (0 ≤ i ∧ i < ((a_l : Nat) : Int)) ∧
    Sts [.int .i64 (0 : Int), .int .i64 (0 : Int), .int .i64 (IntKind.i64.wrap ((-1 : Int) - j)), .int .i64 (0 : Int), .int .i64 (0 : Int), .int .i64 (0 : Int), .slice none 0 0] (Addr.add a (i.toNat * 7)) 0 w fun w1 =>
    N2 w0 a_b a_l a_c j (IntKind.i64.wrap (i + (1 : Int))) w1) (
    Pn w0 fun a_1 =>
    LdL (a_1.add 19) w fun x71_b x71_l x71_c =>
    New (.cells #[.slice a_b a_l a_c] 42) w fun b73 w2 =>
    Append 42 (.slice none 0 0) 1 24 x71_b x71_l x71_c (some ⟨b73, 0, none⟩) 1 w2 fun b74 c74 w3 =>
    Pn w0 fun a_2 =>
    Sts [.slice b74 (x71_l + 1) c74] (a_2.add 19) 0 w3 fun w4 =>
    R true w4)) = kstep Tryz.prog 77 Tryz.f36.results.toList (Tryz.f36.body.getD .skip) (connlaw_World_Out.RV R) (kvc Tryz.prog 77 Tryz.f36.results.toList (Tryz.f36.body.getD .skip) (connlaw_World_Out.RV R) [([(0, [1, 1, 1, 1, 0, 1, 0, 1, 0, 1, 0, 0]), (2, [1, 1, 1, 1, 0, 1, 0, 1, 0, 1, 0, 0]), (1, [2]), (0, [1, 1, 1, 1, 0, 1, 0, 1, 1]), (0, [1, 1, 1, 1, 1])], fun σ w => dP (slotOf σ 0) fun w0_ => dL (slotOf σ 1) fun a_b_ a_l_ a_c_ => dI .i64 (slotOf σ 9) fun j_ => dI .i64 (slotOf σ 10) fun i_ => N2 w0_ a_b_ a_l_ a_c_ j_ i_ w)] 2000) [(0, [1, 1, 1, 1, 0, 1, 0, 1, 0, 1, 0, 0]), (2, [1, 1, 1, 1, 0, 1, 0, 1, 0, 1, 0, 0]), (1, [2]), (0, [1, 1, 1, 1, 0, 1, 0, 1, 1]), (0, [1, 1, 1, 1, 1])] [(0, .pointer w0), (1, .slice a_b a_l a_c), (9, .int .i64 j), (10, .int .i64 i)] w := by kernel_rfl
theorem connlaw_World_Out.L2b_sound {R : Bool → World → Prop} {N2 : Option Addr → Option Addr → Nat → Nat → Int → Int → World → Prop} (hN2 : ∀ w0 a_b a_l a_c j i w, N2 w0 a_b a_l a_c j i w → KW Tryz.prog 36 77 (connlaw_World_Out.RV R) ([(0, [1, 1, 1, 1, 0, 1, 0, 1, 0, 1, 0, 0]), (2, [1, 1, 1, 1, 0, 1, 0, 1, 0, 1, 0, 0]), (1, [2]), (0, [1, 1, 1, 1, 0, 1, 0, 1, 1]), (0, [1, 1, 1, 1, 1])].map (toItem (Tryz.f36.body.getD .skip))) [(0, .pointer w0), (1, .slice a_b a_l a_c), (9, .int .i64 j), (10, .int .i64 i)] w) (w0 a_b : Option Addr) (a_l a_c : Nat) (j i : Int) (w : World) (h : connlaw_World_Out.L2b w0 a_b a_l a_c j i w  N2 R) :
    KW Tryz.prog 36 77 (connlaw_World_Out.RV R) ([(0, [1, 1, 1, 1, 0, 1, 0, 1, 0, 1, 0, 0]), (2, [1, 1, 1, 1, 0, 1, 0, 1, 0, 1, 0, 0]), (1, [2]), (0, [1, 1, 1, 1, 0, 1, 0, 1, 1]), (0, [1, 1, 1, 1, 1])].map (toItem (Tryz.f36.body.getD .skip))) [(0, .pointer w0), (1, .slice a_b a_l a_c), (9, .int .i64 j), (10, .int .i64 i)] w := by
  exact block_spec Tryz.func36 Tryz.mixed (stops_cons (fun σ w h => by
      obtain ⟨w0_, e0, h⟩ := dP_elim h
      obtain ⟨a_b_, a_l_, a_c_, e1, h⟩ := dL_elim h
      obtain ⟨j_, e2, h⟩ := dI_elim h
      obtain ⟨i_, e3, h⟩ := dI_elim h
      exact (hN2 w0_ a_b_ a_l_ a_c_ j_ i_ w h).weaken (Sub.cons (Sub.cons (Sub.cons (Sub.cons (Sub.nil _) e3) e2) e1) e0)) stops_nil) (Eq.mp (connlaw_World_Out.L2b_eq w0 a_b a_l a_c j i w  N2 R ) h)
def connlaw_World_Out.L2 (w0 a_b : Option Addr) (a_l a_c : Nat) (j i : Int) (w : World)  (R : Bool → World → Prop) : Prop :=
  ∃ (I : Nat → Option Addr → Option Addr → Nat → Nat → Int → Int → World → Prop) (m : Nat), I m w0 a_b a_l a_c j i w ∧ ∀ m w0 a_b a_l a_c j i w, I m w0 a_b a_l a_c j i w → connlaw_World_Out.L2b w0 a_b a_l a_c j i w  (fun w0' a_b' a_l' a_c' j' i' w' => ∃ m', m' < m ∧ I m' w0' a_b' a_l' a_c' j' i' w') R
theorem connlaw_World_Out.L2_sound {R : Bool → World → Prop}  (w0 a_b : Option Addr) (a_l a_c : Nat) (j i : Int) (w : World) (h : connlaw_World_Out.L2 w0 a_b a_l a_c j i w  R) :
    KW Tryz.prog 36 77 (connlaw_World_Out.RV R) ([(0, [1, 1, 1, 1, 0, 1, 0, 1, 0, 1, 0, 0]), (2, [1, 1, 1, 1, 0, 1, 0, 1, 0, 1, 0, 0]), (1, [2]), (0, [1, 1, 1, 1, 0, 1, 0, 1, 1]), (0, [1, 1, 1, 1, 1])].map (toItem (Tryz.f36.body.getD .skip))) [(0, .pointer w0), (1, .slice a_b a_l a_c), (9, .int .i64 j), (10, .int .i64 i)] w := by
  obtain ⟨I, m, hBase, hr⟩ := h
  refine KW.loop (fun m σ w => ∃ (w0 a_b : Option Addr) (a_l a_c : Nat) (j i : Int), σ = [(0, .pointer w0), (1, .slice a_b a_l a_c), (9, .int .i64 j), (10, .int .i64 i)] ∧ I m w0 a_b a_l a_c j i w) ?_ m _ w ⟨w0, a_b, a_l, a_c, j, i, rfl, hBase⟩
  rintro m ih σ w ⟨w0, a_b, a_l, a_c, j, i, rfl, hI⟩
  exact connlaw_World_Out.L2b_sound  (N2 := fun w0' a_b' a_l' a_c' j' i' w' => ∃ m', m' < m ∧ I m' w0' a_b' a_l' a_c' j' i' w') (fun w0' a_b' a_l' a_c' j' i' w' hx => by obtain ⟨m', hlt, hI'⟩ := hx; exact ih m' hlt _ w' ⟨w0', a_b', a_l', a_c', j', i', rfl, hI'⟩) w0 a_b a_l a_c j i w (hr m w0 a_b a_l a_c j i w hI)
def connlaw_World_Out.L1b (w0 a_b : Option Addr) (a_l a_c : Nat) (b_b : Option Addr) (b_l b_c : Nat) (i : Int) (w : World)  (N1 : Option Addr → Option Addr → Nat → Nat → Option Addr → Nat → Nat → Int → World → Prop) (R : Bool → World → Prop) : Prop :=
  Bm (decide (i < ((b_l : Nat) : Int))) (
    Pn b_b fun a =>
    (0 ≤ i ∧ i < ((b_l : Nat) : Int)) ∧
    LdI .i64 (Addr.add a (i.toNat * 7)) w fun x24_0 =>
    LdI .i64 ((Addr.add a (i.toNat * 7)).add 1) w fun x24_1 =>
    LdI .i64 ((Addr.add a (i.toNat * 7)).add 2) w fun x24_2 =>
    LdI .i64 ((Addr.add a (i.toNat * 7)).add 3) w fun x24_3 =>
    LdI .i64 ((Addr.add a (i.toNat * 7)).add 4) w fun x24_4 =>
    LdI .i64 ((Addr.add a (i.toNat * 7)).add 5) w fun x24_5 =>
    LdL ((Addr.add a (i.toNat * 7)).add 6) w fun x24_6_b x24_6_l x24_6_c =>
    connlaw_CopySeg.Call x24_0 x24_1 x24_2 x24_3 x24_4 x24_5 x24_6_b x24_6_l x24_6_c w fun r25_0 r25_1 r25_2 r25_3 r25_4 r25_5 r25_6_b r25_6_l r25_6_c w1 =>
    New (.cells #[.int .i64 (0 : Int), .int .i64 (0 : Int), .int .i64 (0 : Int), .int .i64 (0 : Int), .int .i64 (0 : Int), .int .i64 (0 : Int), .slice none 0 0] 45) w1 fun s_ w2 =>
    Sts [.int .i64 r25_0, .int .i64 r25_1, .int .i64 r25_2, .int .i64 r25_3, .int .i64 r25_4, .int .i64 r25_5, .slice r25_6_b r25_6_l r25_6_c] ⟨s_, 0, none⟩ 0 w2 fun w3 =>
    Pn w0 fun a_1 =>
    LdL (a_1.add 8) w3.drew fun x30_b x30_l x30_c =>
    LdI .i64 ⟨s_, 0, none⟩ w3.drew fun x31_0 =>
    LdI .i64 ⟨s_, 1, none⟩ w3.drew fun x31_1 =>
    LdI .i64 ⟨s_, 2, none⟩ w3.drew fun x31_2 =>
    LdI .i64 ⟨s_, 3, none⟩ w3.drew fun x31_3 =>
    LdI .i64 ⟨s_, 4, none⟩ w3.drew fun x31_4 =>
    LdI .i64 ⟨s_, 5, none⟩ w3.drew fun x31_5 =>
    LdL ⟨s_, 6, none⟩ w3.drew fun x31_6_b x31_6_l x31_6_c =>
    New (.cells #[.int .i64 x31_0, .int .i64 x31_1, .int .i64 x31_2, .int .i64 x31_3, .int .i64 x31_4, .int .i64 x31_5, .slice x31_6_b x31_6_l x31_6_c] 45) w3.drew fun b32 w4 =>
    w4.cell? (a_1.add 8) = some (.slice x30_b x30_l x30_c) ∧
    Append 45 (.agg #[.int .i64 (0 : Int), .int .i64 (0 : Int), .int .i64 (0 : Int), .int .i64 (0 : Int), .int .i64 (0 : Int), .int .i64 (0 : Int), .slice none 0 0]) 7 72 x30_b x30_l x30_c (some ⟨b32, 0, none⟩) 1 w4 fun b33 c33 w5 =>
    Pn w0 fun a_2 =>
    Sts [.slice b33 (x30_l + 1) c33] (a_2.add 8) 0 w5 fun w6 =>
    Pn a_b fun a_3 =>
    (0 ≤ i ∧ i < ((a_l : Nat) : Int)) ∧
    LdL ((Addr.add a_3 (i.toNat * 7)).add 6) w6 fun x41_b x41_l x41_c =>
    connlaw_World_Own.Call w0 x41_b x41_l x41_c w6 fun w7 =>
    N1 w0 a_b a_l a_c b_b b_l b_c (IntKind.i64.wrap (i + (1 : Int))) w7) (
    (0 ≤ ((a_c : Nat) : Int) ∧ ((a_c : Nat) : Int) ≤ ((a_c : Nat) : Int)) ∧
    Bm (decide (((((a_c : Nat) : Int).toNat - ((0 : Nat) : Int).toNat : Nat) : Int) > (0 : Int))) (
      Pn w0 fun a_4 =>
      LdL (a_4.add 19) w fun x53_b x53_l x53_c =>
      connlaw_World_Out.L2 w0 (slBase a_b ((0 : Nat) : Int) ((a_c : Nat) : Int) 7) (((a_c : Nat) : Int).toNat - ((0 : Nat) : Int).toNat) (((a_c : Nat) : Int).toNat - ((0 : Nat) : Int).toNat) ((x53_l : Nat) : Int) (0 : Int) w  R) (
      R true w))
theorem connlaw_World_Out.L1b_eq (w0 a_b : Option Addr) (a_l a_c : Nat) (b_b : Option Addr) (b_l b_c : Nat) (i : Int) (w : World)  (N1 : Option Addr → Option Addr → Nat → Nat → Option Addr → Nat → Nat → Int → World → Prop) (R : Bool → World → Prop) (sL2 : Option Addr → Option Addr → Nat → Nat → Int → Int → World → Prop) :
    (
  Bm (decide (i < ((b_l : Nat) : Int))) (
    Pn b_b fun a =>
    (0 ≤ i ∧ i < ((b_l : Nat) : Int)) ∧
    LdI .i64 (Addr.add a (i.toNat * 7)) w fun x24_0 =>
    LdI .i64 ((Addr.add a (i.toNat * 7)).add 1) w fun x24_1 =>
    LdI .i64 ((Addr.add a (i.toNat * 7)).add 2) w fun x24_2 =>
    LdI .i64 ((Addr.add a (i.toNat * 7)).add 3) w fun x24_3 =>
    LdI .i64 ((Addr.add a (i.toNat * 7)).add 4) w fun x24_4 =>
    LdI .i64 ((Addr.add a (i.toNat * 7)).add 5) w fun x24_5 =>
    LdL ((Addr.add a (i.toNat * 7)).add 6) w fun x24_6_b x24_6_l x24_6_c =>
    connlaw_CopySeg.Call x24_0 x24_1 x24_2 x24_3 x24_4 x24_5 x24_6_b x24_6_l x24_6_c w fun r25_0 r25_1 r25_2 r25_3 r25_4 r25_5 r25_6_b r25_6_l r25_6_c w1 =>
    New (.cells #[.int .i64 (0 : Int), .int .i64 (0 : Int), .int .i64 (0 : Int), .int .i64 (0 : Int), .int .i64 (0 : Int), .int .i64 (0 : Int), .slice none 0 0] 45) w1 fun s_ w2 =>
    Sts [.int .i64 r25_0, .int .i64 r25_1, .int .i64 r25_2, .int .i64 r25_3, .int .i64 r25_4, .int .i64 r25_5, .slice r25_6_b r25_6_l r25_6_c] ⟨s_, 0, none⟩ 0 w2 fun w3 =>
    Pn w0 fun a_1 =>
    LdL (a_1.add 8) w3.drew fun x30_b x30_l x30_c =>
    LdI .i64 ⟨s_, 0, none⟩ w3.drew fun x31_0 =>
    LdI .i64 ⟨s_, 1, none⟩ w3.drew fun x31_1 =>
    LdI .i64 ⟨s_, 2, none⟩ w3.drew fun x31_2 =>
    LdI .i64 ⟨s_, 3, none⟩ w3.drew fun x31_3 =>
    LdI .i64 ⟨s_, 4, none⟩ w3.drew fun x31_4 =>
    LdI .i64 ⟨s_, 5, none⟩ w3.drew fun x31_5 =>
    LdL ⟨s_, 6, none⟩ w3.drew fun x31_6_b x31_6_l x31_6_c =>
    New (.cells #[.int .i64 x31_0, .int .i64 x31_1, .int .i64 x31_2, .int .i64 x31_3, .int .i64 x31_4, .int .i64 x31_5, .slice x31_6_b x31_6_l x31_6_c] 45) w3.drew fun b32 w4 =>
    w4.cell? (a_1.add 8) = some (.slice x30_b x30_l x30_c) ∧
    Append 45 (.agg #[.int .i64 (0 : Int), .int .i64 (0 : Int), .int .i64 (0 : Int), .int .i64 (0 : Int), .int .i64 (0 : Int), .int .i64 (0 : Int), .slice none 0 0]) 7 72 x30_b x30_l x30_c (some ⟨b32, 0, none⟩) 1 w4 fun b33 c33 w5 =>
    Pn w0 fun a_2 =>
    Sts [.slice b33 (x30_l + 1) c33] (a_2.add 8) 0 w5 fun w6 =>
    Pn a_b fun a_3 =>
    (0 ≤ i ∧ i < ((a_l : Nat) : Int)) ∧
    LdL ((Addr.add a_3 (i.toNat * 7)).add 6) w6 fun x41_b x41_l x41_c =>
    connlaw_World_Own.Call w0 x41_b x41_l x41_c w6 fun w7 =>
    N1 w0 a_b a_l a_c b_b b_l b_c (IntKind.i64.wrap (i + (1 : Int))) w7) (
    (0 ≤ ((a_c : Nat) : Int) ∧ ((a_c : Nat) : Int) ≤ ((a_c : Nat) : Int)) ∧
    Bm (decide (((((a_c : Nat) : Int).toNat - ((0 : Nat) : Int).toNat : Nat) : Int) > (0 : Int))) (
      Pn w0 fun a_4 =>
      LdL (a_4.add 19) w fun x53_b x53_l x53_c =>
      sL2 w0 (slBase a_b ((0 : Nat) : Int) ((a_c : Nat) : Int) 7) (((a_c : Nat) : Int).toNat - ((0 : Nat) : Int).toNat) (((a_c : Nat) : Int).toNat - ((0 : Nat) : Int).toNat) ((x53_l : Nat) : Int) (0 : Int) w) (
      R true w))) = kstep Tryz.prog 77 Tryz.f36.results.toList (Tryz.f36.body.getD .skip) (connlaw_World_Out.RV R) (kvc Tryz.prog 77 Tryz.f36.results.toList (Tryz.f36.body.getD .skip) (connlaw_World_Out.RV R) [([(0, [1, 1, 0, 1, 0, 0]), (2, [1, 1, 0, 1, 0, 0]), (1, [0]), (0, [1, 1, 1])], fun σ w => dP (slotOf σ 0) fun w0_ => dL (slotOf σ 1) fun a_b_ a_l_ a_c_ => dL (slotOf σ 2) fun b_b_ b_l_ b_c_ => dI .i64 (slotOf σ 7) fun i_ => N1 w0_ a_b_ a_l_ a_c_ b_b_ b_l_ b_c_ i_ w),
    ([(0, [1, 1, 1, 1, 0, 1, 0, 1, 0, 1, 0, 0]), (2, [1, 1, 1, 1, 0, 1, 0, 1, 0, 1, 0, 0]), (1, [2]), (0, [1, 1, 1, 1, 0, 1, 0, 1, 1]), (0, [1, 1, 1, 1, 1])], fun σ w => dP (slotOf σ 0) fun w0_ => dL (slotOf σ 1) fun a_b_ a_l_ a_c_ => dI .i64 (slotOf σ 9) fun j_ => dI .i64 (slotOf σ 10) fun i_ => sL2 w0_ a_b_ a_l_ a_c_ j_ i_ w)] 2000) [(0, [1, 1, 0, 1, 0, 0]), (2, [1, 1, 0, 1, 0, 0]), (1, [0]), (0, [1, 1, 1])] [(0, .pointer w0), (1, .slice a_b a_l a_c), (2, .slice b_b b_l b_c), (7, .int .i64 i)] w := by kernel_rfl
theorem connlaw_World_Out.L1b_sound {R : Bool → World → Prop} {N1 : Option Addr → Option Addr → Nat → Nat → Option Addr → Nat → Nat → Int → World → Prop} (hN1 : ∀ w0 a_b a_l a_c b_b b_l b_c i w, N1 w0 a_b a_l a_c b_b b_l b_c i w → KW Tryz.prog 36 77 (connlaw_World_Out.RV R) ([(0, [1, 1, 0, 1, 0, 0]), (2, [1, 1, 0, 1, 0, 0]), (1, [0]), (0, [1, 1, 1])].map (toItem (Tryz.f36.body.getD .skip))) [(0, .pointer w0), (1, .slice a_b a_l a_c), (2, .slice b_b b_l b_c), (7, .int .i64 i)] w) (w0 a_b : Option Addr) (a_l a_c : Nat) (b_b : Option Addr) (b_l b_c : Nat) (i : Int) (w : World) (h : connlaw_World_Out.L1b w0 a_b a_l a_c b_b b_l b_c i w  N1 R) :
    KW Tryz.prog 36 77 (connlaw_World_Out.RV R) ([(0, [1, 1, 0, 1, 0, 0]), (2, [1, 1, 0, 1, 0, 0]), (1, [0]), (0, [1, 1, 1])].map (toItem (Tryz.f36.body.getD .skip))) [(0, .pointer w0), (1, .slice a_b a_l a_c), (2, .slice b_b b_l b_c), (7, .int .i64 i)] w := by
  exact block_spec Tryz.func36 Tryz.mixed (stops_cons (fun σ w h => by
      obtain ⟨w0_, e0, h⟩ := dP_elim h
      obtain ⟨a_b_, a_l_, a_c_, e1, h⟩ := dL_elim h
      obtain ⟨b_b_, b_l_, b_c_, e2, h⟩ := dL_elim h
      obtain ⟨i_, e3, h⟩ := dI_elim h
      exact (hN1 w0_ a_b_ a_l_ a_c_ b_b_ b_l_ b_c_ i_ w h).weaken (Sub.cons (Sub.cons (Sub.cons (Sub.cons (Sub.nil _) e3) e2) e1) e0)) (stops_cons (fun σ w h => by
      obtain ⟨w0_, e0, h⟩ := dP_elim h
      obtain ⟨a_b_, a_l_, a_c_, e1, h⟩ := dL_elim h
      obtain ⟨j_, e2, h⟩ := dI_elim h
      obtain ⟨i_, e3, h⟩ := dI_elim h
      exact (connlaw_World_Out.L2_sound  w0_ a_b_ a_l_ a_c_ j_ i_ w h).weaken (Sub.cons (Sub.cons (Sub.cons (Sub.cons (Sub.nil _) e3) e2) e1) e0)) stops_nil)) (Eq.mp (connlaw_World_Out.L1b_eq w0 a_b a_l a_c b_b b_l b_c i w  N1 R (fun w0_ a_b_ a_l_ a_c_ j_ i_ w => connlaw_World_Out.L2 w0_ a_b_ a_l_ a_c_ j_ i_ w  R)) h)
def connlaw_World_Out.L1 (w0 a_b : Option Addr) (a_l a_c : Nat) (b_b : Option Addr) (b_l b_c : Nat) (i : Int) (w : World)  (R : Bool → World → Prop) : Prop :=
  ∃ (I : Nat → Option Addr → Option Addr → Nat → Nat → Option Addr → Nat → Nat → Int → World → Prop) (m : Nat), I m w0 a_b a_l a_c b_b b_l b_c i w ∧ ∀ m w0 a_b a_l a_c b_b b_l b_c i w, I m w0 a_b a_l a_c b_b b_l b_c i w → connlaw_World_Out.L1b w0 a_b a_l a_c b_b b_l b_c i w  (fun w0' a_b' a_l' a_c' b_b' b_l' b_c' i' w' => ∃ m', m' < m ∧ I m' w0' a_b' a_l' a_c' b_b' b_l' b_c' i' w') R
theorem connlaw_World_Out.L1_sound {R : Bool → World → Prop}  (w0 a_b : Option Addr) (a_l a_c : Nat) (b_b : Option Addr) (b_l b_c : Nat) (i : Int) (w : World) (h : connlaw_World_Out.L1 w0 a_b a_l a_c b_b b_l b_c i w  R) :
    KW Tryz.prog 36 77 (connlaw_World_Out.RV R) ([(0, [1, 1, 0, 1, 0, 0]), (2, [1, 1, 0, 1, 0, 0]), (1, [0]), (0, [1, 1, 1])].map (toItem (Tryz.f36.body.getD .skip))) [(0, .pointer w0), (1, .slice a_b a_l a_c), (2, .slice b_b b_l b_c), (7, .int .i64 i)] w := by
  obtain ⟨I, m, hBase, hr⟩ := h
  refine KW.loop (fun m σ w => ∃ (w0 a_b : Option Addr) (a_l a_c : Nat) (b_b : Option Addr) (b_l b_c : Nat) (i : Int), σ = [(0, .pointer w0), (1, .slice a_b a_l a_c), (2, .slice b_b b_l b_c), (7, .int .i64 i)] ∧ I m w0 a_b a_l a_c b_b b_l b_c i w) ?_ m _ w ⟨w0, a_b, a_l, a_c, b_b, b_l, b_c, i, rfl, hBase⟩
  rintro m ih σ w ⟨w0, a_b, a_l, a_c, b_b, b_l, b_c, i, rfl, hI⟩
  exact connlaw_World_Out.L1b_sound  (N1 := fun w0' a_b' a_l' a_c' b_b' b_l' b_c' i' w' => ∃ m', m' < m ∧ I m' w0' a_b' a_l' a_c' b_b' b_l' b_c' i' w') (fun w0' a_b' a_l' a_c' b_b' b_l' b_c' i' w' hx => by obtain ⟨m', hlt, hI'⟩ := hx; exact ih m' hlt _ w' ⟨w0', a_b', a_l', a_c', b_b', b_l', b_c', i', rfl, hI'⟩) w0 a_b a_l a_c b_b b_l b_c i w (hr m w0 a_b a_l a_c b_b b_l b_c i w hI)
def connlaw_World_Out.B0 (w0 a_b : Option Addr) (a_l a_c : Nat) (b_b : Option Addr) (b_l b_c : Nat) (w : World)   (R : Bool → World → Prop) : Prop :=
  connlaw_SameSegs.Call a_b a_l a_c b_b b_l b_c w fun r13 w1 =>
  Bm (!r13) (
    R false w1) (
    connlaw_World_Out.L1 w0 a_b a_l a_c b_b b_l b_c (0 : Int) w1  R)
theorem connlaw_World_Out.B0_eq (w0 a_b : Option Addr) (a_l a_c : Nat) (b_b : Option Addr) (b_l b_c : Nat) (w : World)   (R : Bool → World → Prop) (sL1 : Option Addr → Option Addr → Nat → Nat → Option Addr → Nat → Nat → Int → World → Prop) :
    (
  connlaw_SameSegs.Call a_b a_l a_c b_b b_l b_c w fun r13 w1 =>
  Bm (!r13) (
    R false w1) (
    sL1 w0 a_b a_l a_c b_b b_l b_c (0 : Int) w1)) = kstep Tryz.prog 77 Tryz.f36.results.toList (Tryz.f36.body.getD .skip) (connlaw_World_Out.RV R) (kvc Tryz.prog 77 Tryz.f36.results.toList (Tryz.f36.body.getD .skip) (connlaw_World_Out.RV R) [([(0, [1, 1, 0, 1, 0, 0]), (2, [1, 1, 0, 1, 0, 0]), (1, [0]), (0, [1, 1, 1])], fun σ w => dP (slotOf σ 0) fun w0_ => dL (slotOf σ 1) fun a_b_ a_l_ a_c_ => dL (slotOf σ 2) fun b_b_ b_l_ b_c_ => dI .i64 (slotOf σ 7) fun i_ => sL1 w0_ a_b_ a_l_ a_c_ b_b_ b_l_ b_c_ i_ w)] 2000) [(0, [])] [(0, .pointer w0), (1, .slice a_b a_l a_c), (2, .slice b_b b_l b_c)] w := by kernel_rfl
theorem connlaw_World_Out.B0_sound {R : Bool → World → Prop}  (w0 a_b : Option Addr) (a_l a_c : Nat) (b_b : Option Addr) (b_l b_c : Nat) (w : World) (h : connlaw_World_Out.B0 w0 a_b a_l a_c b_b b_l b_c w   R) :
    KW Tryz.prog 36 77 (connlaw_World_Out.RV R) ([(0, [])].map (toItem (Tryz.f36.body.getD .skip))) [(0, .pointer w0), (1, .slice a_b a_l a_c), (2, .slice b_b b_l b_c)] w := by
  exact block_spec Tryz.func36 Tryz.mixed (stops_cons (fun σ w h => by
      obtain ⟨w0_, e0, h⟩ := dP_elim h
      obtain ⟨a_b_, a_l_, a_c_, e1, h⟩ := dL_elim h
      obtain ⟨b_b_, b_l_, b_c_, e2, h⟩ := dL_elim h
      obtain ⟨i_, e3, h⟩ := dI_elim h
      exact (connlaw_World_Out.L1_sound  w0_ a_b_ a_l_ a_c_ b_b_ b_l_ b_c_ i_ w h).weaken (Sub.cons (Sub.cons (Sub.cons (Sub.cons (Sub.nil _) e3) e2) e1) e0)) stops_nil) (Eq.mp (connlaw_World_Out.B0_eq w0 a_b a_l a_c b_b b_l b_c w   R (fun w0_ a_b_ a_l_ a_c_ b_b_ b_l_ b_c_ i_ w => connlaw_World_Out.L1 w0_ a_b_ a_l_ a_c_ b_b_ b_l_ b_c_ i_ w  R)) h)
theorem connlaw_World_Out.sound (w0 a_b : Option Addr) (a_l a_c : Nat) (b_b : Option Addr) (b_l b_c : Nat) (w : World) (R : Bool → World → Prop) (h : connlaw_World_Out.B0 w0 a_b a_l a_c b_b b_l b_c w R) : connlaw_World_Out.Call w0 a_b a_l a_c b_b b_l b_c w R := by
  have hc := calls_of_block (args := #[.pointer w0, .slice a_b a_l a_c, .slice b_b b_l b_c]) Tryz.func36 (body := (Tryz.f36.body.getD .skip)) (by kernel_rfl) (by kernel_rfl) (args_slot _) (connlaw_World_Out.B0_sound w0 a_b a_l a_c b_b b_l b_c w h)
  exact hc.mono fun e w' he => by
    obtain ⟨v, rfl, hv⟩ := he
    exact connlaw_World_Out.RV_elim hv
end Go.Proofs.Qxb6500422aGreat
