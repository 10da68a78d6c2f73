import Derived.Test.Qxb6500432aSig
set_option maxRecDepth 100000
set_option linter.unusedVariables false
open Go.Vc
namespace Go.Proofs.Qxb6500432a
def storelaw_OpenTotal.L2b (b : Nat) (x : Option Addr) (s : Int) (w : World)  (N2 : Nat → Option Addr → Int → World → Prop) (R : Bool → World → Prop) : Prop :=
  Bm (decide (s ≤ (6 : Int))) (
    store_Store_Rec.Call x s w fun r48_0_0 r48_0_1 r48_0_2 r48_1 w1 =>
    N2 b x (IntKind.i64.wrap (s + (1 : Int))) w1) (
    store_Store_Check.Call x w fun r50 w2 =>
    LdP ⟨b, 0, none⟩ w2 fun x51_0 =>
    storelaw_Steps.Call x51_0 w2 fun r52 w3 =>
    R (r52 == (0 : Int)) w3)
theorem storelaw_OpenTotal.L2b_eq (b : Nat) (x : Option Addr) (s : Int) (w : World)  (N2 : Nat → Option Addr → Int → World → Prop) (R : Bool → World → Prop)  :
    (
  Bm (decide (s ≤ (6 : Int))) (
    store_Store_Rec.Call x s w fun r48_0_0 r48_0_1 r48_0_2 r48_1 w1 =>
    N2 b x (IntKind.i64.wrap (s + (1 : Int))) w1) (
    store_Store_Check.Call x w fun r50 w2 =>
    LdP ⟨b, 0, none⟩ w2 fun x51_0 =>
    storelaw_Steps.Call x51_0 w2 fun r52 w3 =>
    R (r52 == (0 : Int)) w3)) = kstep Try.prog 55 Try.f3.results.toList (Try.f3.body.getD .skip) (storelaw_OpenTotal.RV R) (kvc Try.prog 55 Try.f3.results.toList (Try.f3.body.getD .skip) (storelaw_OpenTotal.RV R) [([(0, [1, 1, 1, 1, 1, 1, 1, 0, 1, 0, 0]), (2, [1, 1, 1, 1, 1, 1, 1, 0, 1, 0, 0]), (1, [2]), (0, [1, 1, 1, 1, 1, 1, 1, 1])], fun σ w => dK (slotOf σ 3) fun b_ => dP (slotOf σ 5) fun x_ => dI .i64 (slotOf σ 6) fun s_ => N2 b_ x_ s_ w)] 2000) [(0, [1, 1, 1, 1, 1, 1, 1, 0, 1, 0, 0]), (2, [1, 1, 1, 1, 1, 1, 1, 0, 1, 0, 0]), (1, [2]), (0, [1, 1, 1, 1, 1, 1, 1, 1])] [(3, .pointer (some ⟨b, 0, none⟩)), (5, .pointer x), (6, .int .i64 s)] w := by kernel_rfl
theorem storelaw_OpenTotal.L2b_sound {R : Bool → World → Prop} {N2 : Nat → Option Addr → Int → World → Prop} (hN2 : ∀ b x s w, N2 b x s w → KW Try.prog 3 55 (storelaw_OpenTotal.RV R) ([(0, [1, 1, 1, 1, 1, 1, 1, 0, 1, 0, 0]), (2, [1, 1, 1, 1, 1, 1, 1, 0, 1, 0, 0]), (1, [2]), (0, [1, 1, 1, 1, 1, 1, 1, 1])].map (toItem (Try.f3.body.getD .skip))) [(3, .pointer (some ⟨b, 0, none⟩)), (5, .pointer x), (6, .int .i64 s)] w) (b : Nat) (x : Option Addr) (s : Int) (w : World) (h : storelaw_OpenTotal.L2b b x s w  N2 R) :
    KW Try.prog 3 55 (storelaw_OpenTotal.RV R) ([(0, [1, 1, 1, 1, 1, 1, 1, 0, 1, 0, 0]), (2, [1, 1, 1, 1, 1, 1, 1, 0, 1, 0, 0]), (1, [2]), (0, [1, 1, 1, 1, 1, 1, 1, 1])].map (toItem (Try.f3.body.getD .skip))) [(3, .pointer (some ⟨b, 0, none⟩)), (5, .pointer x), (6, .int .i64 s)] w := by
  exact block_spec Try.func3 Try.mixed (stops_cons (fun σ w h => by
      obtain ⟨b_, e0, h⟩ := dK_elim h
      obtain ⟨x_, e1, h⟩ := dP_elim h
      obtain ⟨s_, e2, h⟩ := dI_elim h
      exact (hN2 b_ x_ s_ w h).weaken (Sub.cons (Sub.cons (Sub.cons (Sub.nil _) e2) e1) e0)) stops_nil) (Eq.mp (storelaw_OpenTotal.L2b_eq b x s w  N2 R ) h)
def storelaw_OpenTotal.L2 (b : Nat) (x : Option Addr) (s : Int) (w : World)  (R : Bool → World → Prop) : Prop :=
  ∃ (I : Nat → Nat → Option Addr → Int → World → Prop) (m : Nat), I m b x s w ∧ ∀ m b x s w, I m b x s w → storelaw_OpenTotal.L2b b x s w  (fun b' x' s' w' => ∃ m', m' < m ∧ I m' b' x' s' w') R
theorem storelaw_OpenTotal.L2_sound {R : Bool → World → Prop}  (b : Nat) (x : Option Addr) (s : Int) (w : World) (h : storelaw_OpenTotal.L2 b x s w  R) :
    KW Try.prog 3 55 (storelaw_OpenTotal.RV R) ([(0, [1, 1, 1, 1, 1, 1, 1, 0, 1, 0, 0]), (2, [1, 1, 1, 1, 1, 1, 1, 0, 1, 0, 0]), (1, [2]), (0, [1, 1, 1, 1, 1, 1, 1, 1])].map (toItem (Try.f3.body.getD .skip))) [(3, .pointer (some ⟨b, 0, none⟩)), (5, .pointer x), (6, .int .i64 s)] w := by
  obtain ⟨I, m, h0, hr⟩ := h
  refine KW.loop (fun m σ w => ∃ (b : Nat) (x : Option Addr) (s : Int), σ = [(3, .pointer (some ⟨b, 0, none⟩)), (5, .pointer x), (6, .int .i64 s)] ∧ I m b x s w) ?_ m _ w ⟨b, x, s, rfl, h0⟩
  rintro m ih σ w ⟨b, x, s, rfl, hI⟩
  exact storelaw_OpenTotal.L2b_sound  (N2 := fun b' x' s' w' => ∃ m', m' < m ∧ I m' b' x' s' w') (fun b' x' s' w' hx => by obtain ⟨m', hlt, hI'⟩ := hx; exact ih m' hlt _ w' ⟨b', x', s', rfl, hI'⟩) b x s w (hr m b x s w hI)
def storelaw_OpenTotal.B1 (script_b : Option Addr) (script_l script_c b : Nat) (i : Int) (t16 : Bool) (w : World) (N1 : Option Addr → Nat → Nat → Nat → Int → World → Prop)  (R : Bool → World → Prop) : Prop :=
  Bm t16 (
    LdP ⟨b, 0, none⟩ w.drew fun x19_0 =>
    Pn script_b fun a =>
    (0 ≤ i ∧ i < ((script_l : Nat) : Int)) ∧
    LdI .i64 ((Addr.add a (i.toNat * 6)).add 1) w.drew fun x24 =>
    Pn script_b fun a_1 =>
    (0 ≤ i ∧ i < ((script_l : Nat) : Int)) ∧
    LdS ((Addr.add a_1 (i.toNat * 6)).add 4) w.drew fun x29 =>
    storelaw_Scribble.Call x19_0 x24 x29 w.drew fun w1 =>
    LdP ⟨b, 0, none⟩ w1 fun x31_0 =>
    storelaw_Mark.Call x31_0 w1 fun w2 =>
    N1 script_b script_l script_c b (IntKind.i64.wrap (i + (1 : Int))) w2) (
    LdP ⟨b, 0, none⟩ w fun x33_0 =>
    storelaw_Mark.Call x33_0 w fun w3 =>
    LdP ⟨b, 0, none⟩ w3 fun x36 =>
    store_Open.Call x36 w3 fun r37 w4 =>
    store_Store_Meta.Call r37 w4 fun r39_0 r39_1 w5 =>
    store_Store_Snap.Call r37 w5 fun r41_0 r41_1 r41_2 w6 =>
    storelaw_OpenTotal.L2 b r37 (-1 : Int) w6  R)
theorem storelaw_OpenTotal.B1_eq (script_b : Option Addr) (script_l script_c b : Nat) (i : Int) (t16 : Bool) (w : World) (N1 : Option Addr → Nat → Nat → Nat → Int → World → Prop)  (R : Bool → World → Prop) (sL2 : Nat → Option Addr → Int → World → Prop) :
    (
  Bm t16 (
    LdP ⟨b, 0, none⟩ w.drew fun x19_0 =>
    Pn script_b fun a =>
    (0 ≤ i ∧ i < ((script_l : Nat) : Int)) ∧
    LdI .i64 ((Addr.add a (i.toNat * 6)).add 1) w.drew fun x24 =>
    Pn script_b fun a_1 =>
    (0 ≤ i ∧ i < ((script_l : Nat) : Int)) ∧
    LdS ((Addr.add a_1 (i.toNat * 6)).add 4) w.drew fun x29 =>
    storelaw_Scribble.Call x19_0 x24 x29 w.drew fun w1 =>
    LdP ⟨b, 0, none⟩ w1 fun x31_0 =>
    storelaw_Mark.Call x31_0 w1 fun w2 =>
    N1 script_b script_l script_c b (IntKind.i64.wrap (i + (1 : Int))) w2) (
    LdP ⟨b, 0, none⟩ w fun x33_0 =>
    storelaw_Mark.Call x33_0 w fun w3 =>
    LdP ⟨b, 0, none⟩ w3 fun x36 =>
    store_Open.Call x36 w3 fun r37 w4 =>
    store_Store_Meta.Call r37 w4 fun r39_0 r39_1 w5 =>
    store_Store_Snap.Call r37 w5 fun r41_0 r41_1 r41_2 w6 =>
    sL2 b r37 (-1 : Int) w6)) = kstep Try.prog 55 Try.f3.results.toList (Try.f3.body.getD .skip) (storelaw_OpenTotal.RV R) (kvc Try.prog 55 Try.f3.results.toList (Try.f3.body.getD .skip) (storelaw_OpenTotal.RV R) [([(0, [1, 1, 0, 1, 0, 0]), (2, [1, 1, 0, 1, 0, 0]), (1, [0]), (0, [1, 1, 1])], fun σ w => dL (slotOf σ 0) fun script_b_ script_l_ script_c_ => dK (slotOf σ 3) fun b_ => dI .i64 (slotOf σ 4) fun i_ => N1 script_b_ script_l_ script_c_ b_ i_ w),
    ([(0, [1, 1, 1, 1, 1, 1, 1, 0, 1, 0, 0]), (2, [1, 1, 1, 1, 1, 1, 1, 0, 1, 0, 0]), (1, [2]), (0, [1, 1, 1, 1, 1, 1, 1, 1])], fun σ w => dK (slotOf σ 3) fun b_ => dP (slotOf σ 5) fun x_ => dI .i64 (slotOf σ 6) fun s_ => sL2 b_ x_ s_ w)] 2000) [(0, [1, 1, 0, 1, 0, 0, 0, 1]), (0, [1, 1, 0, 1, 0, 0, 1]), (2, [1, 1, 0, 1, 0, 0]), (1, [0]), (0, [1, 1, 1])] [(0, .slice script_b script_l script_c), (3, .pointer (some ⟨b, 0, none⟩)), (4, .int .i64 i), (16, .bool t16)] w := by kernel_rfl
theorem storelaw_OpenTotal.B1_sound {R : Bool → World → Prop} {N1 : Option Addr → Nat → Nat → Nat → Int → World → Prop} (hN1 : ∀ script_b script_l script_c b i w, N1 script_b script_l script_c b i w → KW Try.prog 3 55 (storelaw_OpenTotal.RV R) ([(0, [1, 1, 0, 1, 0, 0]), (2, [1, 1, 0, 1, 0, 0]), (1, [0]), (0, [1, 1, 1])].map (toItem (Try.f3.body.getD .skip))) [(0, .slice script_b script_l script_c), (3, .pointer (some ⟨b, 0, none⟩)), (4, .int .i64 i)] w) (script_b : Option Addr) (script_l script_c b : Nat) (i : Int) (t16 : Bool) (w : World) (h : storelaw_OpenTotal.B1 script_b script_l script_c b i t16 w N1  R) :
    KW Try.prog 3 55 (storelaw_OpenTotal.RV R) ([(0, [1, 1, 0, 1, 0, 0, 0, 1]), (0, [1, 1, 0, 1, 0, 0, 1]), (2, [1, 1, 0, 1, 0, 0]), (1, [0]), (0, [1, 1, 1])].map (toItem (Try.f3.body.getD .skip))) [(0, .slice script_b script_l script_c), (3, .pointer (some ⟨b, 0, none⟩)), (4, .int .i64 i), (16, .bool t16)] w := by
  exact block_spec Try.func3 Try.mixed (stops_cons (fun σ w h => by
      obtain ⟨script_b_, script_l_, script_c_, e0, h⟩ := dL_elim h
      obtain ⟨b_, e1, h⟩ := dK_elim h
      obtain ⟨i_, e2, h⟩ := dI_elim h
      exact (hN1 script_b_ script_l_ script_c_ b_ i_ w h).weaken (Sub.cons (Sub.cons (Sub.cons (Sub.nil _) e2) e1) e0)) (stops_cons (fun σ w h => by
      obtain ⟨b_, e0, h⟩ := dK_elim h
      obtain ⟨x_, e1, h⟩ := dP_elim h
      obtain ⟨s_, e2, h⟩ := dI_elim h
      exact (storelaw_OpenTotal.L2_sound  b_ x_ s_ w h).weaken (Sub.cons (Sub.cons (Sub.cons (Sub.nil _) e2) e1) e0)) stops_nil)) (Eq.mp (storelaw_OpenTotal.B1_eq script_b script_l script_c b i t16 w N1  R (fun b_ x_ s_ w => storelaw_OpenTotal.L2 b_ x_ s_ w  R)) h)
def storelaw_OpenTotal.L1b (script_b : Option Addr) (script_l script_c b : Nat) (i : Int) (w : World)  (N1 : Option Addr → Nat → Nat → Nat → Int → World → Prop) (R : Bool → World → Prop) : Prop :=
  Bm (decide (i < ((script_l : Nat) : Int))) (
    storelaw_OpenTotal.B1 script_b script_l script_c b i (decide (i < (4398046511104 : Int))) w N1 R) (
    storelaw_OpenTotal.B1 script_b script_l script_c b i false w N1 R)
theorem storelaw_OpenTotal.L1b_eq (script_b : Option Addr) (script_l script_c b : Nat) (i : Int) (w : World)  (N1 : Option Addr → Nat → Nat → Nat → Int → World → Prop) (R : Bool → World → Prop) (sB1 : Option Addr → Nat → Nat → Nat → Int → Bool → World → Prop) :
    (
  Bm (decide (i < ((script_l : Nat) : Int))) (
    sB1 script_b script_l script_c b i (decide (i < (4398046511104 : Int))) w) (
    sB1 script_b script_l script_c b i false w)) = kstep Try.prog 55 Try.f3.results.toList (Try.f3.body.getD .skip) (storelaw_OpenTotal.RV R) (kvc Try.prog 55 Try.f3.results.toList (Try.f3.body.getD .skip) (storelaw_OpenTotal.RV R) [([(0, [1, 1, 0, 1, 0, 0, 0, 1]), (0, [1, 1, 0, 1, 0, 0, 1]), (2, [1, 1, 0, 1, 0, 0]), (1, [0]), (0, [1, 1, 1])], fun σ w => dL (slotOf σ 0) fun script_b_ script_l_ script_c_ => dK (slotOf σ 3) fun b_ => dI .i64 (slotOf σ 4) fun i_ => dB (slotOf σ 16) fun t16_ => sB1 script_b_ script_l_ script_c_ b_ i_ t16_ w)] 2000) [(0, [1, 1, 0, 1, 0, 0]), (2, [1, 1, 0, 1, 0, 0]), (1, [0]), (0, [1, 1, 1])] [(0, .slice script_b script_l script_c), (3, .pointer (some ⟨b, 0, none⟩)), (4, .int .i64 i)] w := by kernel_rfl
theorem storelaw_OpenTotal.L1b_sound {R : Bool → World → Prop} {N1 : Option Addr → Nat → Nat → Nat → Int → World → Prop} (hN1 : ∀ script_b script_l script_c b i w, N1 script_b script_l script_c b i w → KW Try.prog 3 55 (storelaw_OpenTotal.RV R) ([(0, [1, 1, 0, 1, 0, 0]), (2, [1, 1, 0, 1, 0, 0]), (1, [0]), (0, [1, 1, 1])].map (toItem (Try.f3.body.getD .skip))) [(0, .slice script_b script_l script_c), (3, .pointer (some ⟨b, 0, none⟩)), (4, .int .i64 i)] w) (script_b : Option Addr) (script_l script_c b : Nat) (i : Int) (w : World) (h : storelaw_OpenTotal.L1b script_b script_l script_c b i w  N1 R) :
    KW Try.prog 3 55 (storelaw_OpenTotal.RV R) ([(0, [1, 1, 0, 1, 0, 0]), (2, [1, 1, 0, 1, 0, 0]), (1, [0]), (0, [1, 1, 1])].map (toItem (Try.f3.body.getD .skip))) [(0, .slice script_b script_l script_c), (3, .pointer (some ⟨b, 0, none⟩)), (4, .int .i64 i)] w := by
  exact block_spec Try.func3 Try.mixed (stops_cons (fun σ w h => by
      obtain ⟨script_b_, script_l_, script_c_, e0, h⟩ := dL_elim h
      obtain ⟨b_, e1, h⟩ := dK_elim h
      obtain ⟨i_, e2, h⟩ := dI_elim h
      obtain ⟨t16_, e3, h⟩ := dB_elim h
      exact (storelaw_OpenTotal.B1_sound hN1 script_b_ script_l_ script_c_ b_ i_ t16_ w h).weaken (Sub.cons (Sub.cons (Sub.cons (Sub.cons (Sub.nil _) e3) e2) e1) e0)) stops_nil) (Eq.mp (storelaw_OpenTotal.L1b_eq script_b script_l script_c b i w  N1 R (fun script_b_ script_l_ script_c_ b_ i_ t16_ w => storelaw_OpenTotal.B1 script_b_ script_l_ script_c_ b_ i_ t16_ w N1 R)) h)
def storelaw_OpenTotal.L1 (script_b : Option Addr) (script_l script_c b : Nat) (i : Int) (w : World)  (R : Bool → World → Prop) : Prop :=
  ∃ (I : Nat → Option Addr → Nat → Nat → Nat → Int → World → Prop) (m : Nat), I m script_b script_l script_c b i w ∧ ∀ m script_b script_l script_c b i w, I m script_b script_l script_c b i w → storelaw_OpenTotal.L1b script_b script_l script_c b i w  (fun script_b' script_l' script_c' b' i' w' => ∃ m', m' < m ∧ I m' script_b' script_l' script_c' b' i' w') R
theorem storelaw_OpenTotal.L1_sound {R : Bool → World → Prop}  (script_b : Option Addr) (script_l script_c b : Nat) (i : Int) (w : World) (h : storelaw_OpenTotal.L1 script_b script_l script_c b i w  R) :
    KW Try.prog 3 55 (storelaw_OpenTotal.RV R) ([(0, [1, 1, 0, 1, 0, 0]), (2, [1, 1, 0, 1, 0, 0]), (1, [0]), (0, [1, 1, 1])].map (toItem (Try.f3.body.getD .skip))) [(0, .slice script_b script_l script_c), (3, .pointer (some ⟨b, 0, none⟩)), (4, .int .i64 i)] w := by
  obtain ⟨I, m, h0, hr⟩ := h
  refine KW.loop (fun m σ w => ∃ (script_b : Option Addr) (script_l script_c b : Nat) (i : Int), σ = [(0, .slice script_b script_l script_c), (3, .pointer (some ⟨b, 0, none⟩)), (4, .int .i64 i)] ∧ I m script_b script_l script_c b i w) ?_ m _ w ⟨script_b, script_l, script_c, b, i, rfl, h0⟩
  rintro m ih σ w ⟨script_b, script_l, script_c, b, i, rfl, hI⟩
  exact storelaw_OpenTotal.L1b_sound  (N1 := fun script_b' script_l' script_c' b' i' w' => ∃ m', m' < m ∧ I m' script_b' script_l' script_c' b' i' w') (fun script_b' script_l' script_c' b' i' w' hx => by obtain ⟨m', hlt, hI'⟩ := hx; exact ih m' hlt _ w' ⟨script_b', script_l', script_c', b', i', rfl, hI'⟩) script_b script_l script_c b i w (hr m script_b script_l script_c b i w hI)
def storelaw_OpenTotal.B0 (script_b : Option Addr) (script_l script_c : Nat) (w : World)   (R : Bool → World → Prop) : Prop :=
  storelaw_Ground.Call  w fun r8_0 w1 =>
  New (.cells #[.pointer none] 25) w1 fun b_ w2 =>
  Sts [.pointer r8_0] ⟨b_, 0, none⟩ 0 w2 fun w3 =>
  storelaw_OpenTotal.L1 script_b script_l script_c b_ (0 : Int) w3  R
theorem storelaw_OpenTotal.B0_eq (script_b : Option Addr) (script_l script_c : Nat) (w : World)   (R : Bool → World → Prop) (sL1 : Option Addr → Nat → Nat → Nat → Int → World → Prop) :
    (
  storelaw_Ground.Call  w fun r8_0 w1 =>
  New (.cells #[.pointer none] 25) w1 fun b_ w2 =>
  Sts [.pointer r8_0] ⟨b_, 0, none⟩ 0 w2 fun w3 =>
  sL1 script_b script_l script_c b_ (0 : Int) w3) = kstep Try.prog 55 Try.f3.results.toList (Try.f3.body.getD .skip) (storelaw_OpenTotal.RV R) (kvc Try.prog 55 Try.f3.results.toList (Try.f3.body.getD .skip) (storelaw_OpenTotal.RV R) [([(0, [1, 1, 0, 1, 0, 0]), (2, [1, 1, 0, 1, 0, 0]), (1, [0]), (0, [1, 1, 1])], fun σ w => dL (slotOf σ 0) fun script_b_ script_l_ script_c_ => dK (slotOf σ 3) fun b_ => dI .i64 (slotOf σ 4) fun i_ => sL1 script_b_ script_l_ script_c_ b_ i_ w)] 2000) [(0, [])] [(0, .slice script_b script_l script_c)] w := by kernel_rfl
theorem storelaw_OpenTotal.B0_sound {R : Bool → World → Prop}  (script_b : Option Addr) (script_l script_c : Nat) (w : World) (h : storelaw_OpenTotal.B0 script_b script_l script_c w   R) :
    KW Try.prog 3 55 (storelaw_OpenTotal.RV R) ([(0, [])].map (toItem (Try.f3.body.getD .skip))) [(0, .slice script_b script_l script_c)] w := by
  exact block_spec Try.func3 Try.mixed (stops_cons (fun σ w h => by
      obtain ⟨script_b_, script_l_, script_c_, e0, h⟩ := dL_elim h
      obtain ⟨b_, e1, h⟩ := dK_elim h
      obtain ⟨i_, e2, h⟩ := dI_elim h
      exact (storelaw_OpenTotal.L1_sound  script_b_ script_l_ script_c_ b_ i_ w h).weaken (Sub.cons (Sub.cons (Sub.cons (Sub.nil _) e2) e1) e0)) stops_nil) (Eq.mp (storelaw_OpenTotal.B0_eq script_b script_l script_c w   R (fun script_b_ script_l_ script_c_ b_ i_ w => storelaw_OpenTotal.L1 script_b_ script_l_ script_c_ b_ i_ w  R)) h)
theorem storelaw_OpenTotal.sound (script_b : Option Addr) (script_l script_c : Nat) (w : World) (R : Bool → World → Prop) (h : storelaw_OpenTotal.B0 script_b script_l script_c w R) : storelaw_OpenTotal.Call script_b script_l script_c w R := by
  have hc := calls_of_block (args := #[.slice script_b script_l script_c]) Try.func3 (body := (Try.f3.body.getD .skip)) (by kernel_rfl) (by kernel_rfl) (args_slot _) (storelaw_OpenTotal.B0_sound script_b script_l script_c w h)
  exact hc.mono fun e w' he => by
    obtain ⟨v, rfl, hv⟩ := he
    exact storelaw_OpenTotal.RV_elim hv
def storelaw_Refines.B0 (script_b : Option Addr) (script_l script_c : Nat) (w : World)   (R : Bool → World → Prop) : Prop :=
  storelaw_RefinesUpTo.Call script_b script_l script_c w fun r4 w1 =>
  R (r4 == (-1 : Int)) w1
theorem storelaw_Refines.B0_eq (script_b : Option Addr) (script_l script_c : Nat) (w : World)   (R : Bool → World → Prop)  :
    (
  storelaw_RefinesUpTo.Call script_b script_l script_c w fun r4 w1 =>
  R (r4 == (-1 : Int)) w1) = kstep Try.prog 6 Try.f4.results.toList (Try.f4.body.getD .skip) (storelaw_Refines.RV R) (kvc Try.prog 6 Try.f4.results.toList (Try.f4.body.getD .skip) (storelaw_Refines.RV R) [] 2000) [(0, [])] [(0, .slice script_b script_l script_c)] w := by kernel_rfl
theorem storelaw_Refines.B0_sound {R : Bool → World → Prop}  (script_b : Option Addr) (script_l script_c : Nat) (w : World) (h : storelaw_Refines.B0 script_b script_l script_c w   R) :
    KW Try.prog 4 6 (storelaw_Refines.RV R) ([(0, [])].map (toItem (Try.f4.body.getD .skip))) [(0, .slice script_b script_l script_c)] w := by
  exact block_spec Try.func4 Try.mixed stops_nil (Eq.mp (storelaw_Refines.B0_eq script_b script_l script_c w   R ) h)
theorem storelaw_Refines.sound (script_b : Option Addr) (script_l script_c : Nat) (w : World) (R : Bool → World → Prop) (h : storelaw_Refines.B0 script_b script_l script_c w R) : storelaw_Refines.Call script_b script_l script_c w R := by
  have hc := calls_of_block (args := #[.slice script_b script_l script_c]) Try.func4 (body := (Try.f4.body.getD .skip)) (by kernel_rfl) (by kernel_rfl) (args_slot _) (storelaw_Refines.B0_sound script_b script_l script_c w h)
  exact hc.mono fun e w' he => by
    obtain ⟨v, rfl, hv⟩ := he
    exact storelaw_Refines.RV_elim hv
def storelaw_RefinesSteady.B0 (script_b : Option Addr) (script_l script_c : Nat) (w : World)   (R : Bool → World → Prop) : Prop :=
  storelaw_walk.Call script_b script_l script_c true false w fun r7_0 r7_1 w1 =>
  R (r7_0 == (-1 : Int)) w1
theorem storelaw_RefinesSteady.B0_eq (script_b : Option Addr) (script_l script_c : Nat) (w : World)   (R : Bool → World → Prop)  :
    (
  storelaw_walk.Call script_b script_l script_c true false w fun r7_0 r7_1 w1 =>
  R (r7_0 == (-1 : Int)) w1) = kstep Try.prog 12 Try.f5.results.toList (Try.f5.body.getD .skip) (storelaw_RefinesSteady.RV R) (kvc Try.prog 12 Try.f5.results.toList (Try.f5.body.getD .skip) (storelaw_RefinesSteady.RV R) [] 2000) [(0, [])] [(0, .slice script_b script_l script_c)] w := by kernel_rfl
theorem storelaw_RefinesSteady.B0_sound {R : Bool → World → Prop}  (script_b : Option Addr) (script_l script_c : Nat) (w : World) (h : storelaw_RefinesSteady.B0 script_b script_l script_c w   R) :
    KW Try.prog 5 12 (storelaw_RefinesSteady.RV R) ([(0, [])].map (toItem (Try.f5.body.getD .skip))) [(0, .slice script_b script_l script_c)] w := by
  exact block_spec Try.func5 Try.mixed stops_nil (Eq.mp (storelaw_RefinesSteady.B0_eq script_b script_l script_c w   R ) h)
theorem storelaw_RefinesSteady.sound (script_b : Option Addr) (script_l script_c : Nat) (w : World) (R : Bool → World → Prop) (h : storelaw_RefinesSteady.B0 script_b script_l script_c w R) : storelaw_RefinesSteady.Call script_b script_l script_c w R := by
  have hc := calls_of_block (args := #[.slice script_b script_l script_c]) Try.func5 (body := (Try.f5.body.getD .skip)) (by kernel_rfl) (by kernel_rfl) (args_slot _) (storelaw_RefinesSteady.B0_sound script_b script_l script_c w h)
  exact hc.mono fun e w' he => by
    obtain ⟨v, rfl, hv⟩ := he
    exact storelaw_RefinesSteady.RV_elim hv
def storelaw_RefinesQuiet.B0 (script_b : Option Addr) (script_l script_c : Nat) (w : World)   (R : Bool → World → Prop) : Prop :=
  storelaw_walk.Call script_b script_l script_c false true w fun r7_0 r7_1 w1 =>
  R (r7_0 == (-1 : Int)) w1
theorem storelaw_RefinesQuiet.B0_eq (script_b : Option Addr) (script_l script_c : Nat) (w : World)   (R : Bool → World → Prop)  :
    (
  storelaw_walk.Call script_b script_l script_c false true w fun r7_0 r7_1 w1 =>
  R (r7_0 == (-1 : Int)) w1) = kstep Try.prog 12 Try.f6.results.toList (Try.f6.body.getD .skip) (storelaw_RefinesQuiet.RV R) (kvc Try.prog 12 Try.f6.results.toList (Try.f6.body.getD .skip) (storelaw_RefinesQuiet.RV R) [] 2000) [(0, [])] [(0, .slice script_b script_l script_c)] w := by kernel_rfl
theorem storelaw_RefinesQuiet.B0_sound {R : Bool → World → Prop}  (script_b : Option Addr) (script_l script_c : Nat) (w : World) (h : storelaw_RefinesQuiet.B0 script_b script_l script_c w   R) :
    KW Try.prog 6 12 (storelaw_RefinesQuiet.RV R) ([(0, [])].map (toItem (Try.f6.body.getD .skip))) [(0, .slice script_b script_l script_c)] w := by
  exact block_spec Try.func6 Try.mixed stops_nil (Eq.mp (storelaw_RefinesQuiet.B0_eq script_b script_l script_c w   R ) h)
theorem storelaw_RefinesQuiet.sound (script_b : Option Addr) (script_l script_c : Nat) (w : World) (R : Bool → World → Prop) (h : storelaw_RefinesQuiet.B0 script_b script_l script_c w R) : storelaw_RefinesQuiet.Call script_b script_l script_c w R := by
  have hc := calls_of_block (args := #[.slice script_b script_l script_c]) Try.func6 (body := (Try.f6.body.getD .skip)) (by kernel_rfl) (by kernel_rfl) (args_slot _) (storelaw_RefinesQuiet.B0_sound script_b script_l script_c w h)
  exact hc.mono fun e w' he => by
    obtain ⟨v, rfl, hv⟩ := he
    exact storelaw_RefinesQuiet.RV_elim hv
def storelaw_Ground.B0  (w : World)   (R : Option Addr → World → Prop) : Prop :=
  New (.cells #[.pointer none] 25) w fun b0 w1 =>
  diskm_New.Call  w1 fun r1 w2 =>
  Sts [.pointer r1] ⟨b0, 0, none⟩ 0 w2 fun w3 =>
  LdP ⟨b0, 0, none⟩ w3 fun r_0 =>
  R r_0 w3
theorem storelaw_Ground.B0_eq  (w : World)   (R : Option Addr → World → Prop)  :
    (
  New (.cells #[.pointer none] 25) w fun b0 w1 =>
  diskm_New.Call  w1 fun r1 w2 =>
  Sts [.pointer r1] ⟨b0, 0, none⟩ 0 w2 fun w3 =>
  LdP ⟨b0, 0, none⟩ w3 fun r_0 =>
  R r_0 w3) = kstep Try.prog 3 Try.f7.results.toList (Try.f7.body.getD .skip) (storelaw_Ground.RV R) (kvc Try.prog 3 Try.f7.results.toList (Try.f7.body.getD .skip) (storelaw_Ground.RV R) [] 2000) [(0, [])] [] w := by kernel_rfl
theorem storelaw_Ground.B0_sound {R : Option Addr → World → Prop}   (w : World) (h : storelaw_Ground.B0  w   R) :
    KW Try.prog 7 3 (storelaw_Ground.RV R) ([(0, [])].map (toItem (Try.f7.body.getD .skip))) [] w := by
  exact block_spec Try.func7 Try.mixed stops_nil (Eq.mp (storelaw_Ground.B0_eq  w   R ) h)
theorem storelaw_Ground.sound  (w : World) (R : Option Addr → World → Prop) (h : storelaw_Ground.B0  w R) : storelaw_Ground.Call  w R := by
  have hc := calls_of_block (args := #[]) Try.func7 (body := (Try.f7.body.getD .skip)) (by kernel_rfl) (by kernel_rfl) (args_slot _) (storelaw_Ground.B0_sound  w h)
  exact hc.mono fun e w' he => by
    obtain ⟨v, rfl, hv⟩ := he
    exact storelaw_Ground.RV_elim hv
def storelaw_Scribble.B1 (k : Int) (s : ByteArray) (b : Nat) (x_b : Option Addr) (x_l x_c : Nat) (i : Int) (t16 : Bool) (w : World) (N1 : Int → ByteArray → Nat → Option Addr → Nat → Nat → Int → World → Prop)  (R : World → Prop) : Prop :=
  Bm t16 (
    (0 ≤ i ∧ i < ((s.size : Nat) : Int)) ∧
    Pn x_b fun a =>
    (0 ≤ i ∧ i < ((x_l : Nat) : Int)) ∧
    Sts [.int .u8 (byteAt s i)] (Addr.add a (i.toNat * 1)) 0 w fun w1 =>
    N1 k s b x_b x_l x_c (IntKind.i64.wrap (i + (1 : Int))) w1) (
    LdP ⟨b, 0, none⟩ w fun x26 =>
    ToStr x_b x_l w fun s29 =>
    diskm_Disk_Write.Call x26 k s29 w fun r30 w2 =>
    R  w2)
theorem storelaw_Scribble.B1_eq (k : Int) (s : ByteArray) (b : Nat) (x_b : Option Addr) (x_l x_c : Nat) (i : Int) (t16 : Bool) (w : World) (N1 : Int → ByteArray → Nat → Option Addr → Nat → Nat → Int → World → Prop)  (R : World → Prop)  :
    (
  Bm t16 (
    (0 ≤ i ∧ i < ((s.size : Nat) : Int)) ∧
    Pn x_b fun a =>
    (0 ≤ i ∧ i < ((x_l : Nat) : Int)) ∧
    Sts [.int .u8 (byteAt s i)] (Addr.add a (i.toNat * 1)) 0 w fun w1 =>
    N1 k s b x_b x_l x_c (IntKind.i64.wrap (i + (1 : Int))) w1) (
    LdP ⟨b, 0, none⟩ w fun x26 =>
    ToStr x_b x_l w fun s29 =>
    diskm_Disk_Write.Call x26 k s29 w fun r30 w2 =>
    R  w2)) = kstep Try.prog 31 Try.f8.results.toList (Try.f8.body.getD .skip) (storelaw_Scribble.RV R) (kvc Try.prog 31 Try.f8.results.toList (Try.f8.body.getD .skip) (storelaw_Scribble.RV R) [([(0, [1, 1, 0, 1, 0, 0]), (2, [1, 1, 0, 1, 0, 0]), (1, [0]), (0, [1, 1, 1])], fun σ w => dI .i64 (slotOf σ 1) fun k_ => dS (slotOf σ 2) fun s_ => dK (slotOf σ 3) fun b_ => dL (slotOf σ 6) fun x_b_ x_l_ x_c_ => dI .i64 (slotOf σ 7) fun i_ => N1 k_ s_ b_ x_b_ x_l_ x_c_ i_ w)] 2000) [(0, [1, 1, 0, 1, 0, 0, 0, 1]), (0, [1, 1, 0, 1, 0, 0, 1]), (2, [1, 1, 0, 1, 0, 0]), (1, [0]), (0, [1, 1, 1])] [(1, .int .i64 k), (2, .string s), (3, .pointer (some ⟨b, 0, none⟩)), (6, .slice x_b x_l x_c), (7, .int .i64 i), (16, .bool t16)] w := by kernel_rfl
theorem storelaw_Scribble.B1_sound {R : World → Prop} {N1 : Int → ByteArray → Nat → Option Addr → Nat → Nat → Int → World → Prop} (hN1 : ∀ k s b x_b x_l x_c i w, N1 k s b x_b x_l x_c i w → KW Try.prog 8 31 (storelaw_Scribble.RV R) ([(0, [1, 1, 0, 1, 0, 0]), (2, [1, 1, 0, 1, 0, 0]), (1, [0]), (0, [1, 1, 1])].map (toItem (Try.f8.body.getD .skip))) [(1, .int .i64 k), (2, .string s), (3, .pointer (some ⟨b, 0, none⟩)), (6, .slice x_b x_l x_c), (7, .int .i64 i)] w) (k : Int) (s : ByteArray) (b : Nat) (x_b : Option Addr) (x_l x_c : Nat) (i : Int) (t16 : Bool) (w : World) (h : storelaw_Scribble.B1 k s b x_b x_l x_c i t16 w N1  R) :
    KW Try.prog 8 31 (storelaw_Scribble.RV R) ([(0, [1, 1, 0, 1, 0, 0, 0, 1]), (0, [1, 1, 0, 1, 0, 0, 1]), (2, [1, 1, 0, 1, 0, 0]), (1, [0]), (0, [1, 1, 1])].map (toItem (Try.f8.body.getD .skip))) [(1, .int .i64 k), (2, .string s), (3, .pointer (some ⟨b, 0, none⟩)), (6, .slice x_b x_l x_c), (7, .int .i64 i), (16, .bool t16)] w := by
  exact block_spec Try.func8 Try.mixed (stops_cons (fun σ w h => by
      obtain ⟨k_, e0, h⟩ := dI_elim h
      obtain ⟨s_, e1, h⟩ := dS_elim h
      obtain ⟨b_, e2, h⟩ := dK_elim h
      obtain ⟨x_b_, x_l_, x_c_, e3, h⟩ := dL_elim h
      obtain ⟨i_, e4, h⟩ := dI_elim h
      exact (hN1 k_ s_ b_ x_b_ x_l_ x_c_ i_ w h).weaken (Sub.cons (Sub.cons (Sub.cons (Sub.cons (Sub.cons (Sub.nil _) e4) e3) e2) e1) e0)) stops_nil) (Eq.mp (storelaw_Scribble.B1_eq k s b x_b x_l x_c i t16 w N1  R ) h)
def storelaw_Scribble.L1b (k : Int) (s : ByteArray) (b : Nat) (x_b : Option Addr) (x_l x_c : Nat) (i : Int) (w : World)  (N1 : Int → ByteArray → Nat → Option Addr → Nat → Nat → Int → World → Prop) (R : World → Prop) : Prop :=
  Bm (decide (i < ((s.size : Nat) : Int))) (
    storelaw_Scribble.B1 k s b x_b x_l x_c i (decide (i < (64 : Int))) w N1 R) (
    storelaw_Scribble.B1 k s b x_b x_l x_c i false w N1 R)
theorem storelaw_Scribble.L1b_eq (k : Int) (s : ByteArray) (b : Nat) (x_b : Option Addr) (x_l x_c : Nat) (i : Int) (w : World)  (N1 : Int → ByteArray → Nat → Option Addr → Nat → Nat → Int → World → Prop) (R : World → Prop) (sB1 : Int → ByteArray → Nat → Option Addr → Nat → Nat → Int → Bool → World → Prop) :
    (
  Bm (decide (i < ((s.size : Nat) : Int))) (
    sB1 k s b x_b x_l x_c i (decide (i < (64 : Int))) w) (
    sB1 k s b x_b x_l x_c i false w)) = kstep Try.prog 31 Try.f8.results.toList (Try.f8.body.getD .skip) (storelaw_Scribble.RV R) (kvc Try.prog 31 Try.f8.results.toList (Try.f8.body.getD .skip) (storelaw_Scribble.RV R) [([(0, [1, 1, 0, 1, 0, 0, 0, 1]), (0, [1, 1, 0, 1, 0, 0, 1]), (2, [1, 1, 0, 1, 0, 0]), (1, [0]), (0, [1, 1, 1])], fun σ w => dI .i64 (slotOf σ 1) fun k_ => dS (slotOf σ 2) fun s_ => dK (slotOf σ 3) fun b_ => dL (slotOf σ 6) fun x_b_ x_l_ x_c_ => dI .i64 (slotOf σ 7) fun i_ => dB (slotOf σ 16) fun t16_ => sB1 k_ s_ b_ x_b_ x_l_ x_c_ i_ t16_ w)] 2000) [(0, [1, 1, 0, 1, 0, 0]), (2, [1, 1, 0, 1, 0, 0]), (1, [0]), (0, [1, 1, 1])] [(1, .int .i64 k), (2, .string s), (3, .pointer (some ⟨b, 0, none⟩)), (6, .slice x_b x_l x_c), (7, .int .i64 i)] w := by kernel_rfl
theorem storelaw_Scribble.L1b_sound {R : World → Prop} {N1 : Int → ByteArray → Nat → Option Addr → Nat → Nat → Int → World → Prop} (hN1 : ∀ k s b x_b x_l x_c i w, N1 k s b x_b x_l x_c i w → KW Try.prog 8 31 (storelaw_Scribble.RV R) ([(0, [1, 1, 0, 1, 0, 0]), (2, [1, 1, 0, 1, 0, 0]), (1, [0]), (0, [1, 1, 1])].map (toItem (Try.f8.body.getD .skip))) [(1, .int .i64 k), (2, .string s), (3, .pointer (some ⟨b, 0, none⟩)), (6, .slice x_b x_l x_c), (7, .int .i64 i)] w) (k : Int) (s : ByteArray) (b : Nat) (x_b : Option Addr) (x_l x_c : Nat) (i : Int) (w : World) (h : storelaw_Scribble.L1b k s b x_b x_l x_c i w  N1 R) :
    KW Try.prog 8 31 (storelaw_Scribble.RV R) ([(0, [1, 1, 0, 1, 0, 0]), (2, [1, 1, 0, 1, 0, 0]), (1, [0]), (0, [1, 1, 1])].map (toItem (Try.f8.body.getD .skip))) [(1, .int .i64 k), (2, .string s), (3, .pointer (some ⟨b, 0, none⟩)), (6, .slice x_b x_l x_c), (7, .int .i64 i)] w := by
  exact block_spec Try.func8 Try.mixed (stops_cons (fun σ w h => by
      obtain ⟨k_, e0, h⟩ := dI_elim h
      obtain ⟨s_, e1, h⟩ := dS_elim h
      obtain ⟨b_, e2, h⟩ := dK_elim h
      obtain ⟨x_b_, x_l_, x_c_, e3, h⟩ := dL_elim h
      obtain ⟨i_, e4, h⟩ := dI_elim h
      obtain ⟨t16_, e5, h⟩ := dB_elim h
      exact (storelaw_Scribble.B1_sound hN1 k_ s_ b_ x_b_ x_l_ x_c_ i_ t16_ w h).weaken (Sub.cons (Sub.cons (Sub.cons (Sub.cons (Sub.cons (Sub.cons (Sub.nil _) e5) e4) e3) e2) e1) e0)) stops_nil) (Eq.mp (storelaw_Scribble.L1b_eq k s b x_b x_l x_c i w  N1 R (fun k_ s_ b_ x_b_ x_l_ x_c_ i_ t16_ w => storelaw_Scribble.B1 k_ s_ b_ x_b_ x_l_ x_c_ i_ t16_ w N1 R)) h)
def storelaw_Scribble.L1 (k : Int) (s : ByteArray) (b : Nat) (x_b : Option Addr) (x_l x_c : Nat) (i : Int) (w : World)  (R : World → Prop) : Prop :=
  ∃ (I : Nat → Int → ByteArray → Nat → Option Addr → Nat → Nat → Int → World → Prop) (m : Nat), I m k s b x_b x_l x_c i w ∧ ∀ m k s b x_b x_l x_c i w, I m k s b x_b x_l x_c i w → storelaw_Scribble.L1b k s b x_b x_l x_c i w  (fun k' s' b' x_b' x_l' x_c' i' w' => ∃ m', m' < m ∧ I m' k' s' b' x_b' x_l' x_c' i' w') R
theorem storelaw_Scribble.L1_sound {R : World → Prop}  (k : Int) (s : ByteArray) (b : Nat) (x_b : Option Addr) (x_l x_c : Nat) (i : Int) (w : World) (h : storelaw_Scribble.L1 k s b x_b x_l x_c i w  R) :
    KW Try.prog 8 31 (storelaw_Scribble.RV R) ([(0, [1, 1, 0, 1, 0, 0]), (2, [1, 1, 0, 1, 0, 0]), (1, [0]), (0, [1, 1, 1])].map (toItem (Try.f8.body.getD .skip))) [(1, .int .i64 k), (2, .string s), (3, .pointer (some ⟨b, 0, none⟩)), (6, .slice x_b x_l x_c), (7, .int .i64 i)] w := by
  obtain ⟨I, m, h0, hr⟩ := h
  refine KW.loop (fun m σ w => ∃ (k : Int) (s : ByteArray) (b : Nat) (x_b : Option Addr) (x_l x_c : Nat) (i : Int), σ = [(1, .int .i64 k), (2, .string s), (3, .pointer (some ⟨b, 0, none⟩)), (6, .slice x_b x_l x_c), (7, .int .i64 i)] ∧ I m k s b x_b x_l x_c i w) ?_ m _ w ⟨k, s, b, x_b, x_l, x_c, i, rfl, h0⟩
  rintro m ih σ w ⟨k, s, b, x_b, x_l, x_c, i, rfl, hI⟩
  exact storelaw_Scribble.L1b_sound  (N1 := fun k' s' b' x_b' x_l' x_c' i' w' => ∃ m', m' < m ∧ I m' k' s' b' x_b' x_l' x_c' i' w') (fun k' s' b' x_b' x_l' x_c' i' w' hx => by obtain ⟨m', hlt, hI'⟩ := hx; exact ih m' hlt _ w' ⟨k', s', b', x_b', x_l', x_c', i', rfl, hI'⟩) k s b x_b x_l x_c i w (hr m k s b x_b x_l x_c i w hI)
def storelaw_Scribble.B0 (b_0 : Option Addr) (k : Int) (s : ByteArray) (w : World)   (R : World → Prop) : Prop :=
  New (.cells #[.pointer b_0] 25) w fun b_ w1 =>
  Make 5 (.int .u8 (0 : Int)) 1 1 (64 : Int) (64 : Int) w1 fun b8 w2 =>
  storelaw_Scribble.L1 k s b_ (some ⟨b8, 0, none⟩) 64 64 (0 : Int) w2  R
theorem storelaw_Scribble.B0_eq (b_0 : Option Addr) (k : Int) (s : ByteArray) (w : World)   (R : World → Prop) (sL1 : Int → ByteArray → Nat → Option Addr → Nat → Nat → Int → World → Prop) :
    (
  New (.cells #[.pointer b_0] 25) w fun b_ w1 =>
  Make 5 (.int .u8 (0 : Int)) 1 1 (64 : Int) (64 : Int) w1 fun b8 w2 =>
  sL1 k s b_ (some ⟨b8, 0, none⟩) 64 64 (0 : Int) w2) = kstep Try.prog 31 Try.f8.results.toList (Try.f8.body.getD .skip) (storelaw_Scribble.RV R) (kvc Try.prog 31 Try.f8.results.toList (Try.f8.body.getD .skip) (storelaw_Scribble.RV R) [([(0, [1, 1, 0, 1, 0, 0]), (2, [1, 1, 0, 1, 0, 0]), (1, [0]), (0, [1, 1, 1])], fun σ w => dI .i64 (slotOf σ 1) fun k_ => dS (slotOf σ 2) fun s_ => dK (slotOf σ 3) fun b_ => dL (slotOf σ 6) fun x_b_ x_l_ x_c_ => dI .i64 (slotOf σ 7) fun i_ => sL1 k_ s_ b_ x_b_ x_l_ x_c_ i_ w)] 2000) [(0, [])] [(0, .agg #[.pointer b_0]), (1, .int .i64 k), (2, .string s)] w := by kernel_rfl
theorem storelaw_Scribble.B0_sound {R : World → Prop}  (b_0 : Option Addr) (k : Int) (s : ByteArray) (w : World) (h : storelaw_Scribble.B0 b_0 k s w   R) :
    KW Try.prog 8 31 (storelaw_Scribble.RV R) ([(0, [])].map (toItem (Try.f8.body.getD .skip))) [(0, .agg #[.pointer b_0]), (1, .int .i64 k), (2, .string s)] w := by
  exact block_spec Try.func8 Try.mixed (stops_cons (fun σ w h => by
      obtain ⟨k_, e0, h⟩ := dI_elim h
      obtain ⟨s_, e1, h⟩ := dS_elim h
      obtain ⟨b_, e2, h⟩ := dK_elim h
      obtain ⟨x_b_, x_l_, x_c_, e3, h⟩ := dL_elim h
      obtain ⟨i_, e4, h⟩ := dI_elim h
      exact (storelaw_Scribble.L1_sound  k_ s_ b_ x_b_ x_l_ x_c_ i_ w h).weaken (Sub.cons (Sub.cons (Sub.cons (Sub.cons (Sub.cons (Sub.nil _) e4) e3) e2) e1) e0)) stops_nil) (Eq.mp (storelaw_Scribble.B0_eq b_0 k s w   R (fun k_ s_ b_ x_b_ x_l_ x_c_ i_ w => storelaw_Scribble.L1 k_ s_ b_ x_b_ x_l_ x_c_ i_ w  R)) h)
theorem storelaw_Scribble.sound (b_0 : Option Addr) (k : Int) (s : ByteArray) (w : World) (R : World → Prop) (h : storelaw_Scribble.B0 b_0 k s w R) : storelaw_Scribble.Call b_0 k s w R := by
  have hc := calls_of_block (args := #[.agg #[.pointer b_0], .int .i64 k, .string s]) Try.func8 (body := (Try.f8.body.getD .skip)) (by kernel_rfl) (by kernel_rfl) (args_slot _) (storelaw_Scribble.B0_sound b_0 k s w h)
  exact hc.mono fun e w' he => by
    obtain ⟨v, rfl, hv⟩ := he
    exact storelaw_Scribble.RV_elim hv
def storelaw_Mark.B0 (b_0 : Option Addr) (w : World)   (R : World → Prop) : Prop :=
  New (.cells #[.pointer b_0] 25) w fun b_ w1 =>
  LdP ⟨b_, 0, none⟩ w1 fun x3 =>
  diskm_Disk_Mark.Call x3 w1 fun w2 =>
  R  w2
theorem storelaw_Mark.B0_eq (b_0 : Option Addr) (w : World)   (R : World → Prop)  :
    (
  New (.cells #[.pointer b_0] 25) w fun b_ w1 =>
  LdP ⟨b_, 0, none⟩ w1 fun x3 =>
  diskm_Disk_Mark.Call x3 w1 fun w2 =>
  R  w2) = kstep Try.prog 5 Try.f9.results.toList (Try.f9.body.getD .skip) (storelaw_Mark.RV R) (kvc Try.prog 5 Try.f9.results.toList (Try.f9.body.getD .skip) (storelaw_Mark.RV R) [] 2000) [(0, [])] [(0, .agg #[.pointer b_0])] w := by kernel_rfl
theorem storelaw_Mark.B0_sound {R : World → Prop}  (b_0 : Option Addr) (w : World) (h : storelaw_Mark.B0 b_0 w   R) :
    KW Try.prog 9 5 (storelaw_Mark.RV R) ([(0, [])].map (toItem (Try.f9.body.getD .skip))) [(0, .agg #[.pointer b_0])] w := by
  exact block_spec Try.func9 Try.mixed stops_nil (Eq.mp (storelaw_Mark.B0_eq b_0 w   R ) h)
theorem storelaw_Mark.sound (b_0 : Option Addr) (w : World) (R : World → Prop) (h : storelaw_Mark.B0 b_0 w R) : storelaw_Mark.Call b_0 w R := by
  have hc := calls_of_block (args := #[.agg #[.pointer b_0]]) Try.func9 (body := (Try.f9.body.getD .skip)) (by kernel_rfl) (by kernel_rfl) (args_slot _) (storelaw_Mark.B0_sound b_0 w h)
  exact hc.mono fun e w' he => by
    obtain ⟨v, rfl, hv⟩ := he
    exact storelaw_Mark.RV_elim hv
def store_Open.B3 (t : Nat) (b : Int) (w : World) (N1 : Nat → Int → World → Prop)  (R : Option Addr → World → Prop) : Prop :=
  N1 t (IntKind.i64.wrap (b + (1 : Int))) w
theorem store_Open.B3_eq (t : Nat) (b : Int) (w : World) (N1 : Nat → Int → World → Prop)  (R : Option Addr → World → Prop)  :
    (
  N1 t (IntKind.i64.wrap (b + (1 : Int))) w) = kstep Try.prog 168 Try.f10.results.toList (Try.f10.body.getD .skip) (store_Open.RV R) (kvc Try.prog 168 Try.f10.results.toList (Try.f10.body.getD .skip) (store_Open.RV R) [([(0, [1, 1, 0, 1, 0, 0]), (2, [1, 1, 0, 1, 0, 0]), (1, [0]), (0, [1, 1, 1])], fun σ w => dK (slotOf σ 3) fun t_ => dI .i64 (slotOf σ 4) fun b_ => N1 t_ b_ w)] 2000) [(0, [1, 1, 0, 1, 0, 0, 1, 1]), (2, [1, 1, 0, 1, 0, 0]), (1, [0]), (0, [1, 1, 1])] [(3, .pointer (some ⟨t, 0, none⟩)), (4, .int .i64 b)] w := by kernel_rfl
theorem store_Open.B3_sound {R : Option Addr → World → Prop} {N1 : Nat → Int → World → Prop} (hN1 : ∀ t b w, N1 t b w → KW Try.prog 10 168 (store_Open.RV R) ([(0, [1, 1, 0, 1, 0, 0]), (2, [1, 1, 0, 1, 0, 0]), (1, [0]), (0, [1, 1, 1])].map (toItem (Try.f10.body.getD .skip))) [(3, .pointer (some ⟨t, 0, none⟩)), (4, .int .i64 b)] w) (t : Nat) (b : Int) (w : World) (h : store_Open.B3 t b w N1  R) :
    KW Try.prog 10 168 (store_Open.RV R) ([(0, [1, 1, 0, 1, 0, 0, 1, 1]), (2, [1, 1, 0, 1, 0, 0]), (1, [0]), (0, [1, 1, 1])].map (toItem (Try.f10.body.getD .skip))) [(3, .pointer (some ⟨t, 0, none⟩)), (4, .int .i64 b)] w := by
  exact block_spec Try.func10 Try.mixed (stops_cons (fun σ w h => by
      obtain ⟨t_, e0, h⟩ := dK_elim h
      obtain ⟨b_, e1, h⟩ := dI_elim h
      exact (hN1 t_ b_ w h).weaken (Sub.cons (Sub.cons (Sub.nil _) e1) e0)) stops_nil) (Eq.mp (store_Open.B3_eq t b w N1  R ) h)
def store_Open.B1 (t : Nat) (b : Int) (x : ByteArray) (t29 : Bool) (w : World) (N1 : Nat → Int → World → Prop)  (R : Option Addr → World → Prop) : Prop :=
  Bm t29 (
    (0 ≤ (63 : Int) ∧ (63 : Int) < ((x.size : Nat) : Int)) ∧
    (0 ≤ b ∧ b < ((14 : Nat) : Int)) ∧
    Sts [.int .u8 (byteAt x (63 : Int))] (Addr.add ⟨t, 1, none⟩ (b.toNat * 1)) 0 w.drew fun w1 =>
    store_Open.B3 t b w1 N1 R) (
    store_Open.B3 t b w N1 R)
theorem store_Open.B1_eq (t : Nat) (b : Int) (x : ByteArray) (t29 : Bool) (w : World) (N1 : Nat → Int → World → Prop)  (R : Option Addr → World → Prop) (sB3 : Nat → Int → World → Prop) :
    (
  Bm t29 (
    (0 ≤ (63 : Int) ∧ (63 : Int) < ((x.size : Nat) : Int)) ∧
    (0 ≤ b ∧ b < ((14 : Nat) : Int)) ∧
    Sts [.int .u8 (byteAt x (63 : Int))] (Addr.add ⟨t, 1, none⟩ (b.toNat * 1)) 0 w.drew fun w1 =>
    sB3 t b w1) (
    sB3 t b w)) = kstep Try.prog 168 Try.f10.results.toList (Try.f10.body.getD .skip) (store_Open.RV R) (kvc Try.prog 168 Try.f10.results.toList (Try.f10.body.getD .skip) (store_Open.RV R) [([(0, [1, 1, 0, 1, 0, 0, 1, 1]), (2, [1, 1, 0, 1, 0, 0]), (1, [0]), (0, [1, 1, 1])], fun σ w => dK (slotOf σ 3) fun t_ => dI .i64 (slotOf σ 4) fun b_ => sB3 t_ b_ w)] 2000) [(0, [1, 1, 0, 1, 0, 0, 1, 0, 0, 1, 1]), (1, [1]), (0, [1, 1, 0, 1, 0, 0, 1, 1]), (2, [1, 1, 0, 1, 0, 0]), (1, [0]), (0, [1, 1, 1])] [(3, .pointer (some ⟨t, 0, none⟩)), (4, .int .i64 b), (5, .string x), (29, .bool t29)] w := by kernel_rfl
theorem store_Open.B1_sound {R : Option Addr → World → Prop} {N1 : Nat → Int → World → Prop} (hN1 : ∀ t b w, N1 t b w → KW Try.prog 10 168 (store_Open.RV R) ([(0, [1, 1, 0, 1, 0, 0]), (2, [1, 1, 0, 1, 0, 0]), (1, [0]), (0, [1, 1, 1])].map (toItem (Try.f10.body.getD .skip))) [(3, .pointer (some ⟨t, 0, none⟩)), (4, .int .i64 b)] w) (t : Nat) (b : Int) (x : ByteArray) (t29 : Bool) (w : World) (h : store_Open.B1 t b x t29 w N1  R) :
    KW Try.prog 10 168 (store_Open.RV R) ([(0, [1, 1, 0, 1, 0, 0, 1, 0, 0, 1, 1]), (1, [1]), (0, [1, 1, 0, 1, 0, 0, 1, 1]), (2, [1, 1, 0, 1, 0, 0]), (1, [0]), (0, [1, 1, 1])].map (toItem (Try.f10.body.getD .skip))) [(3, .pointer (some ⟨t, 0, none⟩)), (4, .int .i64 b), (5, .string x), (29, .bool t29)] w := by
  exact block_spec Try.func10 Try.mixed (stops_cons (fun σ w h => by
      obtain ⟨t_, e0, h⟩ := dK_elim h
      obtain ⟨b_, e1, h⟩ := dI_elim h
      exact (store_Open.B3_sound hN1 t_ b_ w h).weaken (Sub.cons (Sub.cons (Sub.nil _) e1) e0)) stops_nil) (Eq.mp (store_Open.B1_eq t b x t29 w N1  R (fun t_ b_ w => store_Open.B3 t_ b_ w N1 R)) h)
def store_Open.L2b (t : Nat) (s : Int) (w : World)  (N2 : Nat → Int → World → Prop) (R : Option Addr → World → Prop) : Prop :=
  Bm (decide (s < (6 : Int))) (
    store_Store_read.Call (some ⟨t, 0, none⟩) (IntKind.i64.wrap ((8 : Int) + s)) w fun r151 w1 =>
    store_decRec.Call r151 w1.drew fun r158_0_0 r158_0_1 r158_0_2 r158_1 w2 =>
    (0 ≤ s ∧ s < ((6 : Nat) : Int)) ∧
    Sts [.int .i64 r158_0_0, .int .i64 r158_0_1, .string r158_0_2] (Addr.add ⟨t, 34, none⟩ (s.toNat * 3)) 0 w2 fun w3 =>
    (0 ≤ s ∧ s < ((6 : Nat) : Int)) ∧
    Sts [.bool r158_1] (Addr.add ⟨t, 28, none⟩ (s.toNat * 1)) 0 w3 fun w4 =>
    N2 t (IntKind.i64.wrap (s + (1 : Int))) w4) (
    R (some ⟨t, 0, none⟩) w)
theorem store_Open.L2b_eq (t : Nat) (s : Int) (w : World)  (N2 : Nat → Int → World → Prop) (R : Option Addr → World → Prop)  :
    (
  Bm (decide (s < (6 : Int))) (
    store_Store_read.Call (some ⟨t, 0, none⟩) (IntKind.i64.wrap ((8 : Int) + s)) w fun r151 w1 =>
    store_decRec.Call r151 w1.drew fun r158_0_0 r158_0_1 r158_0_2 r158_1 w2 =>
    (0 ≤ s ∧ s < ((6 : Nat) : Int)) ∧
    Sts [.int .i64 r158_0_0, .int .i64 r158_0_1, .string r158_0_2] (Addr.add ⟨t, 34, none⟩ (s.toNat * 3)) 0 w2 fun w3 =>
    (0 ≤ s ∧ s < ((6 : Nat) : Int)) ∧
    Sts [.bool r158_1] (Addr.add ⟨t, 28, none⟩ (s.toNat * 1)) 0 w3 fun w4 =>
    N2 t (IntKind.i64.wrap (s + (1 : Int))) w4) (
    R (some ⟨t, 0, none⟩) w)) = kstep Try.prog 168 Try.f10.results.toList (Try.f10.body.getD .skip) (store_Open.RV R) (kvc Try.prog 168 Try.f10.results.toList (Try.f10.body.getD .skip) (store_Open.RV R) [([(0, [1, 1, 1, 1, 1, 1, 1, 1, 1, 1, 1, 1, 1, 1, 1, 1, 1, 1, 0, 1, 0, 0]), (2, [1, 1, 1, 1, 1, 1, 1, 1, 1, 1, 1, 1, 1, 1, 1, 1, 1, 1, 0, 1, 0, 0]), (1, [2]), (0, [1, 1, 1, 1, 1, 1, 1, 1, 1, 1, 1, 1, 1, 1, 1, 1, 1, 1, 1])], fun σ w => dK (slotOf σ 3) fun t_ => dI .i64 (slotOf σ 12) fun s_ => N2 t_ s_ w)] 2000) [(0, [1, 1, 1, 1, 1, 1, 1, 1, 1, 1, 1, 1, 1, 1, 1, 1, 1, 1, 0, 1, 0, 0]), (2, [1, 1, 1, 1, 1, 1, 1, 1, 1, 1, 1, 1, 1, 1, 1, 1, 1, 1, 0, 1, 0, 0]), (1, [2]), (0, [1, 1, 1, 1, 1, 1, 1, 1, 1, 1, 1, 1, 1, 1, 1, 1, 1, 1, 1])] [(3, .pointer (some ⟨t, 0, none⟩)), (12, .int .i64 s)] w := by kernel_rfl
theorem store_Open.L2b_sound {R : Option Addr → World → Prop} {N2 : Nat → Int → World → Prop} (hN2 : ∀ t s w, N2 t s w → KW Try.prog 10 168 (store_Open.RV R) ([(0, [1, 1, 1, 1, 1, 1, 1, 1, 1, 1, 1, 1, 1, 1, 1, 1, 1, 1, 0, 1, 0, 0]), (2, [1, 1, 1, 1, 1, 1, 1, 1, 1, 1, 1, 1, 1, 1, 1, 1, 1, 1, 0, 1, 0, 0]), (1, [2]), (0, [1, 1, 1, 1, 1, 1, 1, 1, 1, 1, 1, 1, 1, 1, 1, 1, 1, 1, 1])].map (toItem (Try.f10.body.getD .skip))) [(3, .pointer (some ⟨t, 0, none⟩)), (12, .int .i64 s)] w) (t : Nat) (s : Int) (w : World) (h : store_Open.L2b t s w  N2 R) :
    KW Try.prog 10 168 (store_Open.RV R) ([(0, [1, 1, 1, 1, 1, 1, 1, 1, 1, 1, 1, 1, 1, 1, 1, 1, 1, 1, 0, 1, 0, 0]), (2, [1, 1, 1, 1, 1, 1, 1, 1, 1, 1, 1, 1, 1, 1, 1, 1, 1, 1, 0, 1, 0, 0]), (1, [2]), (0, [1, 1, 1, 1, 1, 1, 1, 1, 1, 1, 1, 1, 1, 1, 1, 1, 1, 1, 1])].map (toItem (Try.f10.body.getD .skip))) [(3, .pointer (some ⟨t, 0, none⟩)), (12, .int .i64 s)] w := by
  exact block_spec Try.func10 Try.mixed (stops_cons (fun σ w h => by
      obtain ⟨t_, e0, h⟩ := dK_elim h
      obtain ⟨s_, e1, h⟩ := dI_elim h
      exact (hN2 t_ s_ w h).weaken (Sub.cons (Sub.cons (Sub.nil _) e1) e0)) stops_nil) (Eq.mp (store_Open.L2b_eq t s w  N2 R ) h)
def store_Open.L2 (t : Nat) (s : Int) (w : World)  (R : Option Addr → World → Prop) : Prop :=
  ∃ (I : Nat → Nat → Int → World → Prop) (m : Nat), I m t s w ∧ ∀ m t s w, I m t s w → store_Open.L2b t s w  (fun t' s' w' => ∃ m', m' < m ∧ I m' t' s' w') R
theorem store_Open.L2_sound {R : Option Addr → World → Prop}  (t : Nat) (s : Int) (w : World) (h : store_Open.L2 t s w  R) :
    KW Try.prog 10 168 (store_Open.RV R) ([(0, [1, 1, 1, 1, 1, 1, 1, 1, 1, 1, 1, 1, 1, 1, 1, 1, 1, 1, 0, 1, 0, 0]), (2, [1, 1, 1, 1, 1, 1, 1, 1, 1, 1, 1, 1, 1, 1, 1, 1, 1, 1, 0, 1, 0, 0]), (1, [2]), (0, [1, 1, 1, 1, 1, 1, 1, 1, 1, 1, 1, 1, 1, 1, 1, 1, 1, 1, 1])].map (toItem (Try.f10.body.getD .skip))) [(3, .pointer (some ⟨t, 0, none⟩)), (12, .int .i64 s)] w := by
  obtain ⟨I, m, h0, hr⟩ := h
  refine KW.loop (fun m σ w => ∃ (t : Nat) (s : Int), σ = [(3, .pointer (some ⟨t, 0, none⟩)), (12, .int .i64 s)] ∧ I m t s w) ?_ m _ w ⟨t, s, rfl, h0⟩
  rintro m ih σ w ⟨t, s, rfl, hI⟩
  exact store_Open.L2b_sound  (N2 := fun t' s' w' => ∃ m', m' < m ∧ I m' t' s' w') (fun t' s' w' hx => by obtain ⟨m', hlt, hI'⟩ := hx; exact ih m' hlt _ w' ⟨t', s', rfl, hI'⟩) t s w (hr m t s w hI)
def store_Open.B8 (t : Nat) (w : World)   (R : Option Addr → World → Prop) : Prop :=
  LdI .i64 ⟨t, 24, none⟩ w.drew fun x135 =>
  LdI .i64 ⟨t, 25, none⟩ w.drew fun x140 =>
  store_Store_area.Call (some ⟨t, 0, none⟩) x135 x140 w.drew fun r141 w1 =>
  Sts [.string r141] ⟨t, 27, none⟩ 0 w1 fun w2 =>
  store_Open.L2 t (0 : Int) w2  R
theorem store_Open.B8_eq (t : Nat) (w : World)   (R : Option Addr → World → Prop) (sL2 : Nat → Int → World → Prop) :
    (
  LdI .i64 ⟨t, 24, none⟩ w.drew fun x135 =>
  LdI .i64 ⟨t, 25, none⟩ w.drew fun x140 =>
  store_Store_area.Call (some ⟨t, 0, none⟩) x135 x140 w.drew fun r141 w1 =>
  Sts [.string r141] ⟨t, 27, none⟩ 0 w1 fun w2 =>
  sL2 t (0 : Int) w2) = kstep Try.prog 168 Try.f10.results.toList (Try.f10.body.getD .skip) (store_Open.RV R) (kvc Try.prog 168 Try.f10.results.toList (Try.f10.body.getD .skip) (store_Open.RV R) [([(0, [1, 1, 1, 1, 1, 1, 1, 1, 1, 1, 1, 1, 1, 1, 1, 1, 1, 1, 0, 1, 0, 0]), (2, [1, 1, 1, 1, 1, 1, 1, 1, 1, 1, 1, 1, 1, 1, 1, 1, 1, 1, 0, 1, 0, 0]), (1, [2]), (0, [1, 1, 1, 1, 1, 1, 1, 1, 1, 1, 1, 1, 1, 1, 1, 1, 1, 1, 1])], fun σ w => dK (slotOf σ 3) fun t_ => dI .i64 (slotOf σ 12) fun s_ => sL2 t_ s_ w)] 2000) [(0, [1, 1, 1, 1, 1, 1, 1, 1, 1, 1, 1, 1, 1, 1, 1, 1, 1])] [(3, .pointer (some ⟨t, 0, none⟩))] w := by kernel_rfl
theorem store_Open.B8_sound {R : Option Addr → World → Prop}  (t : Nat) (w : World) (h : store_Open.B8 t w   R) :
    KW Try.prog 10 168 (store_Open.RV R) ([(0, [1, 1, 1, 1, 1, 1, 1, 1, 1, 1, 1, 1, 1, 1, 1, 1, 1])].map (toItem (Try.f10.body.getD .skip))) [(3, .pointer (some ⟨t, 0, none⟩))] w := by
  exact block_spec Try.func10 Try.mixed (stops_cons (fun σ w h => by
      obtain ⟨t_, e0, h⟩ := dK_elim h
      obtain ⟨s_, e1, h⟩ := dI_elim h
      exact (store_Open.L2_sound  t_ s_ w h).weaken (Sub.cons (Sub.cons (Sub.nil _) e1) e0)) stops_nil) (Eq.mp (store_Open.B8_eq t w   R (fun t_ s_ w => store_Open.L2 t_ s_ w  R)) h)
def store_Open.B7 (t : Nat) (w : World)   (R : Option Addr → World → Prop) : Prop :=
  LdB ⟨t, 20, none⟩ w fun x123 =>
  Bm (!x123) (
    Sts [.int .i64 (1 : Int)] ⟨t, 24, none⟩ 0 w fun w1 =>
    store_Open.B8 t w1  R) (
    store_Open.B8 t w  R)
theorem store_Open.B7_eq (t : Nat) (w : World)   (R : Option Addr → World → Prop) (sB8 : Nat → World → Prop) :
    (
  LdB ⟨t, 20, none⟩ w fun x123 =>
  Bm (!x123) (
    Sts [.int .i64 (1 : Int)] ⟨t, 24, none⟩ 0 w fun w1 =>
    sB8 t w1) (
    sB8 t w)) = kstep Try.prog 168 Try.f10.results.toList (Try.f10.body.getD .skip) (store_Open.RV R) (kvc Try.prog 168 Try.f10.results.toList (Try.f10.body.getD .skip) (store_Open.RV R) [([(0, [1, 1, 1, 1, 1, 1, 1, 1, 1, 1, 1, 1, 1, 1, 1, 1, 1])], fun σ w => dK (slotOf σ 3) fun t_ => sB8 t_ w)] 2000) [(0, [1, 1, 1, 1, 1, 1, 1, 1, 1, 1, 1, 1, 1, 1, 1, 1])] [(3, .pointer (some ⟨t, 0, none⟩))] w := by kernel_rfl
theorem store_Open.B7_sound {R : Option Addr → World → Prop}  (t : Nat) (w : World) (h : store_Open.B7 t w   R) :
    KW Try.prog 10 168 (store_Open.RV R) ([(0, [1, 1, 1, 1, 1, 1, 1, 1, 1, 1, 1, 1, 1, 1, 1, 1])].map (toItem (Try.f10.body.getD .skip))) [(3, .pointer (some ⟨t, 0, none⟩))] w := by
  exact block_spec Try.func10 Try.mixed (stops_cons (fun σ w h => by
      obtain ⟨t_, e0, h⟩ := dK_elim h
      exact (store_Open.B8_sound  t_ w h).weaken (Sub.cons (Sub.nil _) e0)) stops_nil) (Eq.mp (store_Open.B7_eq t w   R (fun t_ w => store_Open.B8 t_ w  R)) h)
def store_Open.B6 (t h0 : Nat) (t111 : Bool) (w : World)   (R : Option Addr → World → Prop) : Prop :=
  Bm t111 (
    LdB ⟨h0, 0, none⟩ w fun x114_0 =>
    LdI .i64 ⟨h0, 1, none⟩ w fun x114_1 =>
    LdI .i64 ⟨h0, 2, none⟩ w fun x114_2 =>
    LdI .i64 ⟨h0, 3, none⟩ w fun x114_3 =>
    LdI .i64 ⟨h0, 4, none⟩ w fun x114_4 =>
    LdI .i64 ⟨h0, 5, none⟩ w fun x114_5 =>
    Sts [.bool x114_0, .int .i64 x114_1, .int .i64 x114_2, .int .i64 x114_3, .int .i64 x114_4, .int .i64 x114_5] ⟨t, 20, none⟩ 0 w fun w1 =>
    Sts [.int .i64 (0 : Int)] ⟨t, 26, none⟩ 0 w1 fun w2 =>
    store_Open.B7 t w2  R) (
    store_Open.B7 t w  R)
theorem store_Open.B6_eq (t h0 : Nat) (t111 : Bool) (w : World)   (R : Option Addr → World → Prop) (sB7 : Nat → World → Prop) :
    (
  Bm t111 (
    LdB ⟨h0, 0, none⟩ w fun x114_0 =>
    LdI .i64 ⟨h0, 1, none⟩ w fun x114_1 =>
    LdI .i64 ⟨h0, 2, none⟩ w fun x114_2 =>
    LdI .i64 ⟨h0, 3, none⟩ w fun x114_3 =>
    LdI .i64 ⟨h0, 4, none⟩ w fun x114_4 =>
    LdI .i64 ⟨h0, 5, none⟩ w fun x114_5 =>
    Sts [.bool x114_0, .int .i64 x114_1, .int .i64 x114_2, .int .i64 x114_3, .int .i64 x114_4, .int .i64 x114_5] ⟨t, 20, none⟩ 0 w fun w1 =>
    Sts [.int .i64 (0 : Int)] ⟨t, 26, none⟩ 0 w1 fun w2 =>
    sB7 t w2) (
    sB7 t w)) = kstep Try.prog 168 Try.f10.results.toList (Try.f10.body.getD .skip) (store_Open.RV R) (kvc Try.prog 168 Try.f10.results.toList (Try.f10.body.getD .skip) (store_Open.RV R) [([(0, [1, 1, 1, 1, 1, 1, 1, 1, 1, 1, 1, 1, 1, 1, 1, 1])], fun σ w => dK (slotOf σ 3) fun t_ => sB7 t_ w)] 2000) [(0, [1, 1, 1, 1, 1, 1, 1, 1, 1, 1, 1, 1, 1, 1, 1, 0, 1]), (0, [1, 1, 1, 1, 1, 1, 1, 1, 1, 1, 1, 1, 1, 1, 1, 1])] [(3, .pointer (some ⟨t, 0, none⟩)), (10, .pointer (some ⟨h0, 0, none⟩)), (111, .bool t111)] w := by kernel_rfl
theorem store_Open.B6_sound {R : Option Addr → World → Prop}  (t h0 : Nat) (t111 : Bool) (w : World) (h : store_Open.B6 t h0 t111 w   R) :
    KW Try.prog 10 168 (store_Open.RV R) ([(0, [1, 1, 1, 1, 1, 1, 1, 1, 1, 1, 1, 1, 1, 1, 1, 0, 1]), (0, [1, 1, 1, 1, 1, 1, 1, 1, 1, 1, 1, 1, 1, 1, 1, 1])].map (toItem (Try.f10.body.getD .skip))) [(3, .pointer (some ⟨t, 0, none⟩)), (10, .pointer (some ⟨h0, 0, none⟩)), (111, .bool t111)] w := by
  exact block_spec Try.func10 Try.mixed (stops_cons (fun σ w h => by
      obtain ⟨t_, e0, h⟩ := dK_elim h
      exact (store_Open.B7_sound  t_ w h).weaken (Sub.cons (Sub.nil _) e0)) stops_nil) (Eq.mp (store_Open.B6_eq t h0 t111 w   R (fun t_ w => store_Open.B7 t_ w  R)) h)
def store_Open.B5 (t : Nat) (w : World)   (R : Option Addr → World → Prop) : Prop :=
  store_Store_read.Call (some ⟨t, 0, none⟩) (2 : Int) w fun r84 w1 =>
  store_Store_read.Call (some ⟨t, 0, none⟩) (3 : Int) w1 fun r86 w2 =>
  store_decHead.Call r84 w2 fun r88_0 r88_1 r88_2 r88_3 r88_4 r88_5 w3 =>
  New (.cells #[.bool false, .int .i64 (0 : Int), .int .i64 (0 : Int), .int .i64 (0 : Int), .int .i64 (0 : Int), .int .i64 (0 : Int)] 54) w3 fun h0_ w4 =>
  Sts [.bool r88_0, .int .i64 r88_1, .int .i64 r88_2, .int .i64 r88_3, .int .i64 r88_4, .int .i64 r88_5] ⟨h0_, 0, none⟩ 0 w4 fun w5 =>
  store_decHead.Call r86 w5 fun r90_0 r90_1 r90_2 r90_3 r90_4 r90_5 w6 =>
  New (.cells #[.bool false, .int .i64 (0 : Int), .int .i64 (0 : Int), .int .i64 (0 : Int), .int .i64 (0 : Int), .int .i64 (0 : Int)] 54) w6 fun h1_ w7 =>
  Sts [.bool r90_0, .int .i64 r90_1, .int .i64 r90_2, .int .i64 r90_3, .int .i64 r90_4, .int .i64 r90_5] ⟨h1_, 0, none⟩ 0 w7 fun w8 =>
  LdB ⟨h1_, 0, none⟩ w8 fun x93_0 =>
  LdI .i64 ⟨h1_, 1, none⟩ w8 fun x93_1 =>
  LdI .i64 ⟨h1_, 2, none⟩ w8 fun x93_2 =>
  LdI .i64 ⟨h1_, 3, none⟩ w8 fun x93_3 =>
  LdI .i64 ⟨h1_, 4, none⟩ w8 fun x93_4 =>
  LdI .i64 ⟨h1_, 5, none⟩ w8 fun x93_5 =>
  Sts [.bool x93_0, .int .i64 x93_1, .int .i64 x93_2, .int .i64 x93_3, .int .i64 x93_4, .int .i64 x93_5] ⟨t, 20, none⟩ 0 w8 fun w9 =>
  Sts [.int .i64 (1 : Int)] ⟨t, 26, none⟩ 0 w9 fun w10 =>
  LdB ⟨h0_, 0, none⟩ w10 fun x99 =>
  Bm x99 (
    LdB ⟨h1_, 0, none⟩ w10 fun x102 =>
    Bm (!x102) (
      store_Open.B6 t h0_ true w10  R) (
      LdI .i64 ⟨h0_, 1, none⟩ w10 fun x106 =>
      LdI .i64 ⟨h1_, 1, none⟩ w10 fun x108 =>
      store_Open.B6 t h0_ (decide (x106 > x108)) w10  R)) (
    store_Open.B6 t h0_ false w10  R)
theorem store_Open.B5_eq (t : Nat) (w : World)   (R : Option Addr → World → Prop) (sB6 : Nat → Nat → Bool → World → Prop) :
    (
  store_Store_read.Call (some ⟨t, 0, none⟩) (2 : Int) w fun r84 w1 =>
  store_Store_read.Call (some ⟨t, 0, none⟩) (3 : Int) w1 fun r86 w2 =>
  store_decHead.Call r84 w2 fun r88_0 r88_1 r88_2 r88_3 r88_4 r88_5 w3 =>
  New (.cells #[.bool false, .int .i64 (0 : Int), .int .i64 (0 : Int), .int .i64 (0 : Int), .int .i64 (0 : Int), .int .i64 (0 : Int)] 54) w3 fun h0_ w4 =>
  Sts [.bool r88_0, .int .i64 r88_1, .int .i64 r88_2, .int .i64 r88_3, .int .i64 r88_4, .int .i64 r88_5] ⟨h0_, 0, none⟩ 0 w4 fun w5 =>
  store_decHead.Call r86 w5 fun r90_0 r90_1 r90_2 r90_3 r90_4 r90_5 w6 =>
  New (.cells #[.bool false, .int .i64 (0 : Int), .int .i64 (0 : Int), .int .i64 (0 : Int), .int .i64 (0 : Int), .int .i64 (0 : Int)] 54) w6 fun h1_ w7 =>
  Sts [.bool r90_0, .int .i64 r90_1, .int .i64 r90_2, .int .i64 r90_3, .int .i64 r90_4, .int .i64 r90_5] ⟨h1_, 0, none⟩ 0 w7 fun w8 =>
  LdB ⟨h1_, 0, none⟩ w8 fun x93_0 =>
  LdI .i64 ⟨h1_, 1, none⟩ w8 fun x93_1 =>
  LdI .i64 ⟨h1_, 2, none⟩ w8 fun x93_2 =>
  LdI .i64 ⟨h1_, 3, none⟩ w8 fun x93_3 =>
  LdI .i64 ⟨h1_, 4, none⟩ w8 fun x93_4 =>
  LdI .i64 ⟨h1_, 5, none⟩ w8 fun x93_5 =>
  Sts [.bool x93_0, .int .i64 x93_1, .int .i64 x93_2, .int .i64 x93_3, .int .i64 x93_4, .int .i64 x93_5] ⟨t, 20, none⟩ 0 w8 fun w9 =>
  Sts [.int .i64 (1 : Int)] ⟨t, 26, none⟩ 0 w9 fun w10 =>
  LdB ⟨h0_, 0, none⟩ w10 fun x99 =>
  Bm x99 (
    LdB ⟨h1_, 0, none⟩ w10 fun x102 =>
    Bm (!x102) (
      sB6 t h0_ true w10) (
      LdI .i64 ⟨h0_, 1, none⟩ w10 fun x106 =>
      LdI .i64 ⟨h1_, 1, none⟩ w10 fun x108 =>
      sB6 t h0_ (decide (x106 > x108)) w10)) (
    sB6 t h0_ false w10)) = kstep Try.prog 168 Try.f10.results.toList (Try.f10.body.getD .skip) (store_Open.RV R) (kvc Try.prog 168 Try.f10.results.toList (Try.f10.body.getD .skip) (store_Open.RV R) [([(0, [1, 1, 1, 1, 1, 1, 1, 1, 1, 1, 1, 1, 1, 1, 1, 0, 1]), (0, [1, 1, 1, 1, 1, 1, 1, 1, 1, 1, 1, 1, 1, 1, 1, 1])], fun σ w => dK (slotOf σ 3) fun t_ => dK (slotOf σ 10) fun h0_ => dB (slotOf σ 111) fun t111_ => sB6 t_ h0_ t111_ w)] 2000) [(0, [1, 1, 1, 1, 1, 1, 1, 1, 1, 1])] [(3, .pointer (some ⟨t, 0, none⟩))] w := by kernel_rfl
theorem store_Open.B5_sound {R : Option Addr → World → Prop}  (t : Nat) (w : World) (h : store_Open.B5 t w   R) :
    KW Try.prog 10 168 (store_Open.RV R) ([(0, [1, 1, 1, 1, 1, 1, 1, 1, 1, 1])].map (toItem (Try.f10.body.getD .skip))) [(3, .pointer (some ⟨t, 0, none⟩))] w := by
  exact block_spec Try.func10 Try.mixed (stops_cons (fun σ w h => by
      obtain ⟨t_, e0, h⟩ := dK_elim h
      obtain ⟨h0_, e1, h⟩ := dK_elim h
      obtain ⟨t111_, e2, h⟩ := dB_elim h
      exact (store_Open.B6_sound  t_ h0_ t111_ w h).weaken (Sub.cons (Sub.cons (Sub.cons (Sub.nil _) e2) e1) e0)) stops_nil) (Eq.mp (store_Open.B5_eq t w   R (fun t_ h0_ t111_ w => store_Open.B6 t_ h0_ t111_ w  R)) h)
def store_Open.B4 (t : Nat) (w : World)   (R : Option Addr → World → Prop) : Prop :=
  LdB ⟨t, 15, none⟩ w fun x77 =>
  Bm (!x77) (
    Sts [.int .i64 (-1 : Int)] ⟨t, 18, none⟩ 0 w fun w1 =>
    store_Open.B5 t w1  R) (
    store_Open.B5 t w  R)
theorem store_Open.B4_eq (t : Nat) (w : World)   (R : Option Addr → World → Prop) (sB5 : Nat → World → Prop) :
    (
  LdB ⟨t, 15, none⟩ w fun x77 =>
  Bm (!x77) (
    Sts [.int .i64 (-1 : Int)] ⟨t, 18, none⟩ 0 w fun w1 =>
    sB5 t w1) (
    sB5 t w)) = kstep Try.prog 168 Try.f10.results.toList (Try.f10.body.getD .skip) (store_Open.RV R) (kvc Try.prog 168 Try.f10.results.toList (Try.f10.body.getD .skip) (store_Open.RV R) [([(0, [1, 1, 1, 1, 1, 1, 1, 1, 1, 1])], fun σ w => dK (slotOf σ 3) fun t_ => sB5 t_ w)] 2000) [(0, [1, 1, 1, 1, 1, 1, 1, 1, 1])] [(3, .pointer (some ⟨t, 0, none⟩))] w := by kernel_rfl
theorem store_Open.B4_sound {R : Option Addr → World → Prop}  (t : Nat) (w : World) (h : store_Open.B4 t w   R) :
    KW Try.prog 10 168 (store_Open.RV R) ([(0, [1, 1, 1, 1, 1, 1, 1, 1, 1])].map (toItem (Try.f10.body.getD .skip))) [(3, .pointer (some ⟨t, 0, none⟩))] w := by
  exact block_spec Try.func10 Try.mixed (stops_cons (fun σ w h => by
      obtain ⟨t_, e0, h⟩ := dK_elim h
      exact (store_Open.B5_sound  t_ w h).weaken (Sub.cons (Sub.nil _) e0)) stops_nil) (Eq.mp (store_Open.B4_eq t w   R (fun t_ w => store_Open.B5 t_ w  R)) h)
def store_Open.B2 (t m0 : Nat) (t65 : Bool) (w : World)   (R : Option Addr → World → Prop) : Prop :=
  Bm t65 (
    LdB ⟨m0, 0, none⟩ w fun x68_0 =>
    LdI .i64 ⟨m0, 1, none⟩ w fun x68_1 =>
    LdI .i64 ⟨m0, 2, none⟩ w fun x68_2 =>
    LdI .i64 ⟨m0, 3, none⟩ w fun x68_3 =>
    Sts [.bool x68_0, .int .i64 x68_1, .int .i64 x68_2, .int .i64 x68_3] ⟨t, 15, none⟩ 0 w fun w1 =>
    Sts [.int .i64 (0 : Int)] ⟨t, 19, none⟩ 0 w1 fun w2 =>
    store_Open.B4 t w2  R) (
    store_Open.B4 t w  R)
theorem store_Open.B2_eq (t m0 : Nat) (t65 : Bool) (w : World)   (R : Option Addr → World → Prop) (sB4 : Nat → World → Prop) :
    (
  Bm t65 (
    LdB ⟨m0, 0, none⟩ w fun x68_0 =>
    LdI .i64 ⟨m0, 1, none⟩ w fun x68_1 =>
    LdI .i64 ⟨m0, 2, none⟩ w fun x68_2 =>
    LdI .i64 ⟨m0, 3, none⟩ w fun x68_3 =>
    Sts [.bool x68_0, .int .i64 x68_1, .int .i64 x68_2, .int .i64 x68_3] ⟨t, 15, none⟩ 0 w fun w1 =>
    Sts [.int .i64 (0 : Int)] ⟨t, 19, none⟩ 0 w1 fun w2 =>
    sB4 t w2) (
    sB4 t w)) = kstep Try.prog 168 Try.f10.results.toList (Try.f10.body.getD .skip) (store_Open.RV R) (kvc Try.prog 168 Try.f10.results.toList (Try.f10.body.getD .skip) (store_Open.RV R) [([(0, [1, 1, 1, 1, 1, 1, 1, 1, 1])], fun σ w => dK (slotOf σ 3) fun t_ => sB4 t_ w)] 2000) [(0, [1, 1, 1, 1, 1, 1, 1, 1, 0, 1]), (0, [1, 1, 1, 1, 1, 1, 1, 1, 1])] [(3, .pointer (some ⟨t, 0, none⟩)), (8, .pointer (some ⟨m0, 0, none⟩)), (65, .bool t65)] w := by kernel_rfl
theorem store_Open.B2_sound {R : Option Addr → World → Prop}  (t m0 : Nat) (t65 : Bool) (w : World) (h : store_Open.B2 t m0 t65 w   R) :
    KW Try.prog 10 168 (store_Open.RV R) ([(0, [1, 1, 1, 1, 1, 1, 1, 1, 0, 1]), (0, [1, 1, 1, 1, 1, 1, 1, 1, 1])].map (toItem (Try.f10.body.getD .skip))) [(3, .pointer (some ⟨t, 0, none⟩)), (8, .pointer (some ⟨m0, 0, none⟩)), (65, .bool t65)] w := by
  exact block_spec Try.func10 Try.mixed (stops_cons (fun σ w h => by
      obtain ⟨t_, e0, h⟩ := dK_elim h
      exact (store_Open.B4_sound  t_ w h).weaken (Sub.cons (Sub.nil _) e0)) stops_nil) (Eq.mp (store_Open.B2_eq t m0 t65 w   R (fun t_ w => store_Open.B4 t_ w  R)) h)
def store_Open.L1b (t : Nat) (b : Int) (w : World)  (N1 : Nat → Int → World → Prop) (R : Option Addr → World → Prop) : Prop :=
  Bm (decide (b < (14 : Int))) (
    store_Store_read.Call (some ⟨t, 0, none⟩) b w fun r23 w1 =>
    Bm (decide (b < (4 : Int))) (
      store_Open.B1 t b r23 true w1 N1 R) (
      store_Open.B1 t b r23 (decide (b ≥ (8 : Int))) w1 N1 R)) (
    store_Store_read.Call (some ⟨t, 0, none⟩) (0 : Int) w fun r38 w2 =>
    store_Store_read.Call (some ⟨t, 0, none⟩) (1 : Int) w2 fun r40 w3 =>
    store_decMeta.Call r38 w3 fun r42_0 r42_1 r42_2 r42_3 w4 =>
    New (.cells #[.bool false, .int .i64 (0 : Int), .int .i64 (0 : Int), .int .i64 (0 : Int)] 52) w4 fun m0_ w5 =>
    Sts [.bool r42_0, .int .i64 r42_1, .int .i64 r42_2, .int .i64 r42_3] ⟨m0_, 0, none⟩ 0 w5 fun w6 =>
    store_decMeta.Call r40 w6 fun r44_0 r44_1 r44_2 r44_3 w7 =>
    New (.cells #[.bool false, .int .i64 (0 : Int), .int .i64 (0 : Int), .int .i64 (0 : Int)] 52) w7 fun m1_ w8 =>
    Sts [.bool r44_0, .int .i64 r44_1, .int .i64 r44_2, .int .i64 r44_3] ⟨m1_, 0, none⟩ 0 w8 fun w9 =>
    LdB ⟨m1_, 0, none⟩ w9 fun x47_0 =>
    LdI .i64 ⟨m1_, 1, none⟩ w9 fun x47_1 =>
    LdI .i64 ⟨m1_, 2, none⟩ w9 fun x47_2 =>
    LdI .i64 ⟨m1_, 3, none⟩ w9 fun x47_3 =>
    Sts [.bool x47_0, .int .i64 x47_1, .int .i64 x47_2, .int .i64 x47_3] ⟨t, 15, none⟩ 0 w9 fun w10 =>
    Sts [.int .i64 (1 : Int)] ⟨t, 19, none⟩ 0 w10 fun w11 =>
    LdB ⟨m0_, 0, none⟩ w11 fun x53 =>
    Bm x53 (
      LdB ⟨m1_, 0, none⟩ w11 fun x56 =>
      Bm (!x56) (
        store_Open.B2 t m0_ true w11  R) (
        LdI .i64 ⟨m0_, 1, none⟩ w11 fun x60 =>
        LdI .i64 ⟨m1_, 1, none⟩ w11 fun x62 =>
        store_Open.B2 t m0_ (decide (x60 > x62)) w11  R)) (
      store_Open.B2 t m0_ false w11  R))
theorem store_Open.L1b_eq (t : Nat) (b : Int) (w : World)  (N1 : Nat → Int → World → Prop) (R : Option Addr → World → Prop) (sB1 : Nat → Int → ByteArray → Bool → World → Prop) (sB2 : Nat → Nat → Bool → World → Prop) :
    (
  Bm (decide (b < (14 : Int))) (
    store_Store_read.Call (some ⟨t, 0, none⟩) b w fun r23 w1 =>
    Bm (decide (b < (4 : Int))) (
      sB1 t b r23 true w1) (
      sB1 t b r23 (decide (b ≥ (8 : Int))) w1)) (
    store_Store_read.Call (some ⟨t, 0, none⟩) (0 : Int) w fun r38 w2 =>
    store_Store_read.Call (some ⟨t, 0, none⟩) (1 : Int) w2 fun r40 w3 =>
    store_decMeta.Call r38 w3 fun r42_0 r42_1 r42_2 r42_3 w4 =>
    New (.cells #[.bool false, .int .i64 (0 : Int), .int .i64 (0 : Int), .int .i64 (0 : Int)] 52) w4 fun m0_ w5 =>
    Sts [.bool r42_0, .int .i64 r42_1, .int .i64 r42_2, .int .i64 r42_3] ⟨m0_, 0, none⟩ 0 w5 fun w6 =>
    store_decMeta.Call r40 w6 fun r44_0 r44_1 r44_2 r44_3 w7 =>
    New (.cells #[.bool false, .int .i64 (0 : Int), .int .i64 (0 : Int), .int .i64 (0 : Int)] 52) w7 fun m1_ w8 =>
    Sts [.bool r44_0, .int .i64 r44_1, .int .i64 r44_2, .int .i64 r44_3] ⟨m1_, 0, none⟩ 0 w8 fun w9 =>
    LdB ⟨m1_, 0, none⟩ w9 fun x47_0 =>
    LdI .i64 ⟨m1_, 1, none⟩ w9 fun x47_1 =>
    LdI .i64 ⟨m1_, 2, none⟩ w9 fun x47_2 =>
    LdI .i64 ⟨m1_, 3, none⟩ w9 fun x47_3 =>
    Sts [.bool x47_0, .int .i64 x47_1, .int .i64 x47_2, .int .i64 x47_3] ⟨t, 15, none⟩ 0 w9 fun w10 =>
    Sts [.int .i64 (1 : Int)] ⟨t, 19, none⟩ 0 w10 fun w11 =>
    LdB ⟨m0_, 0, none⟩ w11 fun x53 =>
    Bm x53 (
      LdB ⟨m1_, 0, none⟩ w11 fun x56 =>
      Bm (!x56) (
        sB2 t m0_ true w11) (
        LdI .i64 ⟨m0_, 1, none⟩ w11 fun x60 =>
        LdI .i64 ⟨m1_, 1, none⟩ w11 fun x62 =>
        sB2 t m0_ (decide (x60 > x62)) w11)) (
      sB2 t m0_ false w11))) = kstep Try.prog 168 Try.f10.results.toList (Try.f10.body.getD .skip) (store_Open.RV R) (kvc Try.prog 168 Try.f10.results.toList (Try.f10.body.getD .skip) (store_Open.RV R) [([(0, [1, 1, 0, 1, 0, 0, 1, 0, 0, 1, 1]), (1, [1]), (0, [1, 1, 0, 1, 0, 0, 1, 1]), (2, [1, 1, 0, 1, 0, 0]), (1, [0]), (0, [1, 1, 1])], fun σ w => dK (slotOf σ 3) fun t_ => dI .i64 (slotOf σ 4) fun b_ => dS (slotOf σ 5) fun x_ => dB (slotOf σ 29) fun t29_ => sB1 t_ b_ x_ t29_ w),
    ([(0, [1, 1, 1, 1, 1, 1, 1, 1, 0, 1]), (0, [1, 1, 1, 1, 1, 1, 1, 1, 1])], fun σ w => dK (slotOf σ 3) fun t_ => dK (slotOf σ 8) fun m0_ => dB (slotOf σ 65) fun t65_ => sB2 t_ m0_ t65_ w)] 2000) [(0, [1, 1, 0, 1, 0, 0]), (2, [1, 1, 0, 1, 0, 0]), (1, [0]), (0, [1, 1, 1])] [(3, .pointer (some ⟨t, 0, none⟩)), (4, .int .i64 b)] w := by kernel_rfl
theorem store_Open.L1b_sound {R : Option Addr → World → Prop} {N1 : Nat → Int → World → Prop} (hN1 : ∀ t b w, N1 t b w → KW Try.prog 10 168 (store_Open.RV R) ([(0, [1, 1, 0, 1, 0, 0]), (2, [1, 1, 0, 1, 0, 0]), (1, [0]), (0, [1, 1, 1])].map (toItem (Try.f10.body.getD .skip))) [(3, .pointer (some ⟨t, 0, none⟩)), (4, .int .i64 b)] w) (t : Nat) (b : Int) (w : World) (h : store_Open.L1b t b w  N1 R) :
    KW Try.prog 10 168 (store_Open.RV R) ([(0, [1, 1, 0, 1, 0, 0]), (2, [1, 1, 0, 1, 0, 0]), (1, [0]), (0, [1, 1, 1])].map (toItem (Try.f10.body.getD .skip))) [(3, .pointer (some ⟨t, 0, none⟩)), (4, .int .i64 b)] w := by
  exact block_spec Try.func10 Try.mixed (stops_cons (fun σ w h => by
      obtain ⟨t_, e0, h⟩ := dK_elim h
      obtain ⟨b_, e1, h⟩ := dI_elim h
      obtain ⟨x_, e2, h⟩ := dS_elim h
      obtain ⟨t29_, e3, h⟩ := dB_elim h
      exact (store_Open.B1_sound hN1 t_ b_ x_ t29_ w h).weaken (Sub.cons (Sub.cons (Sub.cons (Sub.cons (Sub.nil _) e3) e2) e1) e0)) (stops_cons (fun σ w h => by
      obtain ⟨t_, e0, h⟩ := dK_elim h
      obtain ⟨m0_, e1, h⟩ := dK_elim h
      obtain ⟨t65_, e2, h⟩ := dB_elim h
      exact (store_Open.B2_sound  t_ m0_ t65_ w h).weaken (Sub.cons (Sub.cons (Sub.cons (Sub.nil _) e2) e1) e0)) stops_nil)) (Eq.mp (store_Open.L1b_eq t b w  N1 R (fun t_ b_ x_ t29_ w => store_Open.B1 t_ b_ x_ t29_ w N1 R) (fun t_ m0_ t65_ w => store_Open.B2 t_ m0_ t65_ w  R)) h)
def store_Open.L1 (t : Nat) (b : Int) (w : World)  (R : Option Addr → World → Prop) : Prop :=
  ∃ (I : Nat → Nat → Int → World → Prop) (m : Nat), I m t b w ∧ ∀ m t b w, I m t b w → store_Open.L1b t b w  (fun t' b' w' => ∃ m', m' < m ∧ I m' t' b' w') R
theorem store_Open.L1_sound {R : Option Addr → World → Prop}  (t : Nat) (b : Int) (w : World) (h : store_Open.L1 t b w  R) :
    KW Try.prog 10 168 (store_Open.RV R) ([(0, [1, 1, 0, 1, 0, 0]), (2, [1, 1, 0, 1, 0, 0]), (1, [0]), (0, [1, 1, 1])].map (toItem (Try.f10.body.getD .skip))) [(3, .pointer (some ⟨t, 0, none⟩)), (4, .int .i64 b)] w := by
  obtain ⟨I, m, h0, hr⟩ := h
  refine KW.loop (fun m σ w => ∃ (t : Nat) (b : Int), σ = [(3, .pointer (some ⟨t, 0, none⟩)), (4, .int .i64 b)] ∧ I m t b w) ?_ m _ w ⟨t, b, rfl, h0⟩
  rintro m ih σ w ⟨t, b, rfl, hI⟩
  exact store_Open.L1b_sound  (N1 := fun t' b' w' => ∃ m', m' < m ∧ I m' t' b' w') (fun t' b' w' hx => by obtain ⟨m', hlt, hI'⟩ := hx; exact ih m' hlt _ w' ⟨t', b', rfl, hI'⟩) t b w (hr m t b w hI)
def store_Open.B0 (d : Option Addr) (w : World)   (R : Option Addr → World → Prop) : Prop :=
  New (.cells #[.pointer d, .int .u8 (0 : Int), .int .u8 (0 : Int), .int .u8 (0 : Int), .int .u8 (0 : Int), .int .u8 (0 : Int), .int .u8 (0 : Int), .int .u8 (0 : Int), .int .u8 (0 : Int), .int .u8 (0 : Int), .int .u8 (0 : Int), .int .u8 (0 : Int), .int .u8 (0 : Int), .int .u8 (0 : Int), .int .u8 (0 : Int), .bool false, .int .i64 (0 : Int), .int .i64 (0 : Int), .int .i64 (0 : Int), .int .i64 (0 : Int), .bool false, .int .i64 (0 : Int), .int .i64 (0 : Int), .int .i64 (0 : Int), .int .i64 (0 : Int), .int .i64 (0 : Int), .int .i64 (0 : Int), .string (ByteArray.mk #[]), .bool false, .bool false, .bool false, .bool false, .bool false, .bool false, .int .i64 (0 : Int), .int .i64 (0 : Int), .string (ByteArray.mk #[]), .int .i64 (0 : Int), .int .i64 (0 : Int), .string (ByteArray.mk #[]), .int .i64 (0 : Int), .int .i64 (0 : Int), .string (ByteArray.mk #[]), .int .i64 (0 : Int), .int .i64 (0 : Int), .string (ByteArray.mk #[]), .int .i64 (0 : Int), .int .i64 (0 : Int), .string (ByteArray.mk #[]), .int .i64 (0 : Int), .int .i64 (0 : Int), .string (ByteArray.mk #[])] 58) w fun b16 w1 =>
  store_Open.L1 b16 (0 : Int) w1  R
theorem store_Open.B0_eq (d : Option Addr) (w : World)   (R : Option Addr → World → Prop) (sL1 : Nat → Int → World → Prop) :
    (
  New (.cells #[.pointer d, .int .u8 (0 : Int), .int .u8 (0 : Int), .int .u8 (0 : Int), .int .u8 (0 : Int), .int .u8 (0 : Int), .int .u8 (0 : Int), .int .u8 (0 : Int), .int .u8 (0 : Int), .int .u8 (0 : Int), .int .u8 (0 : Int), .int .u8 (0 : Int), .int .u8 (0 : Int), .int .u8 (0 : Int), .int .u8 (0 : Int), .bool false, .int .i64 (0 : Int), .int .i64 (0 : Int), .int .i64 (0 : Int), .int .i64 (0 : Int), .bool false, .int .i64 (0 : Int), .int .i64 (0 : Int), .int .i64 (0 : Int), .int .i64 (0 : Int), .int .i64 (0 : Int), .int .i64 (0 : Int), .string (ByteArray.mk #[]), .bool false, .bool false, .bool false, .bool false, .bool false, .bool false, .int .i64 (0 : Int), .int .i64 (0 : Int), .string (ByteArray.mk #[]), .int .i64 (0 : Int), .int .i64 (0 : Int), .string (ByteArray.mk #[]), .int .i64 (0 : Int), .int .i64 (0 : Int), .string (ByteArray.mk #[]), .int .i64 (0 : Int), .int .i64 (0 : Int), .string (ByteArray.mk #[]), .int .i64 (0 : Int), .int .i64 (0 : Int), .string (ByteArray.mk #[]), .int .i64 (0 : Int), .int .i64 (0 : Int), .string (ByteArray.mk #[])] 58) w fun b16 w1 =>
  sL1 b16 (0 : Int) w1) = kstep Try.prog 168 Try.f10.results.toList (Try.f10.body.getD .skip) (store_Open.RV R) (kvc Try.prog 168 Try.f10.results.toList (Try.f10.body.getD .skip) (store_Open.RV R) [([(0, [1, 1, 0, 1, 0, 0]), (2, [1, 1, 0, 1, 0, 0]), (1, [0]), (0, [1, 1, 1])], fun σ w => dK (slotOf σ 3) fun t_ => dI .i64 (slotOf σ 4) fun b_ => sL1 t_ b_ w)] 2000) [(0, [])] [(0, .pointer d)] w := by kernel_rfl
theorem store_Open.B0_sound {R : Option Addr → World → Prop}  (d : Option Addr) (w : World) (h : store_Open.B0 d w   R) :
    KW Try.prog 10 168 (store_Open.RV R) ([(0, [])].map (toItem (Try.f10.body.getD .skip))) [(0, .pointer d)] w := by
  exact block_spec Try.func10 Try.mixed (stops_cons (fun σ w h => by
      obtain ⟨t_, e0, h⟩ := dK_elim h
      obtain ⟨b_, e1, h⟩ := dI_elim h
      exact (store_Open.L1_sound  t_ b_ w h).weaken (Sub.cons (Sub.cons (Sub.nil _) e1) e0)) stops_nil) (Eq.mp (store_Open.B0_eq d w   R (fun t_ b_ w => store_Open.L1 t_ b_ w  R)) h)
theorem store_Open.sound (d : Option Addr) (w : World) (R : Option Addr → World → Prop) (h : store_Open.B0 d w R) : store_Open.Call d w R := by
  have hc := calls_of_block (args := #[.pointer d]) Try.func10 (body := (Try.f10.body.getD .skip)) (by kernel_rfl) (by kernel_rfl) (args_slot _) (store_Open.B0_sound d w h)
  exact hc.mono fun e w' he => by
    obtain ⟨v, rfl, hv⟩ := he
    exact store_Open.RV_elim hv
end Go.Proofs.Qxb6500432a
