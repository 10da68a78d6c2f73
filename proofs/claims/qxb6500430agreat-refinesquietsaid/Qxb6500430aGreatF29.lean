import Derived.Test.Qxb6500430aGreatSig
set_option maxRecDepth 100000
set_option linter.unusedVariables false
open Go.Vc
namespace Go.Proofs.Qxb6500430aGreat
def sync_sorted.B1 (a t2 : Nat) (i x j : Int) (t23 : Bool) (w : World) (N1 : Nat → Nat → Int → World → Prop) (N2 : Nat → Nat → Int → Int → Int → World → Prop)  (R : Int → Int → Int → World → Prop) : Prop :=
  Bm t23 (
    (0 ≤ (IntKind.i64.wrap (j - (1 : Int))) ∧ (IntKind.i64.wrap (j - (1 : Int))) < ((3 : Nat) : Int)) ∧
    LdI .i64 (Addr.add ⟨a, 0, none⟩ ((IntKind.i64.wrap (j - (1 : Int))).toNat * 1)) w fun x28 =>
    (0 ≤ j ∧ j < ((3 : Nat) : Int)) ∧
    Sts [.int .i64 x28] (Addr.add ⟨a, 0, none⟩ (j.toNat * 1)) 0 w fun w1 =>
    N2 a t2 i x (IntKind.i64.wrap (j - (1 : Int))) w1) (
    (0 ≤ j ∧ j < ((3 : Nat) : Int)) ∧
    Sts [.int .i64 x] (Addr.add ⟨a, 0, none⟩ (j.toNat * 1)) 0 w fun w2 =>
    N1 a t2 (IntKind.i64.wrap (i + (1 : Int))) w2)
theorem sync_sorted.B1_eq (a t2 : Nat) (i x j : Int) (t23 : Bool) (w : World) (N1 : Nat → Nat → Int → World → Prop) (N2 : Nat → Nat → Int → Int → Int → World → Prop)  (R : Int → Int → Int → World → Prop)  :
    (
  Bm t23 (
    (0 ≤ (IntKind.i64.wrap (j - (1 : Int))) ∧ (IntKind.i64.wrap (j - (1 : Int))) < ((3 : Nat) : Int)) ∧
    LdI .i64 (Addr.add ⟨a, 0, none⟩ ((IntKind.i64.wrap (j - (1 : Int))).toNat * 1)) w fun x28 =>
    (0 ≤ j ∧ j < ((3 : Nat) : Int)) ∧
    Sts [.int .i64 x28] (Addr.add ⟨a, 0, none⟩ (j.toNat * 1)) 0 w fun w1 =>
    N2 a t2 i x (IntKind.i64.wrap (j - (1 : Int))) w1) (
    (0 ≤ j ∧ j < ((3 : Nat) : Int)) ∧
    Sts [.int .i64 x] (Addr.add ⟨a, 0, none⟩ (j.toNat * 1)) 0 w fun w2 =>
    N1 a t2 (IntKind.i64.wrap (i + (1 : Int))) w2)) = kstep Tryz.prog 36 Tryz.f289.results.toList (Tryz.f289.body.getD .skip) (sync_sorted.RV R) (kvc Tryz.prog 36 Tryz.f289.results.toList (Tryz.f289.body.getD .skip) (sync_sorted.RV R) [([(0, [1, 0, 1, 0, 0, 1, 0, 0, 1, 1, 0, 0, 0]), (2, [1, 0, 1, 0, 0, 1, 0, 0, 1, 1, 0, 0, 0]), (1, [2]), (0, [1, 0, 1, 0, 0, 1, 0, 0, 1, 1, 1]), (1, [1]), (0, [1, 0, 1, 0, 0, 1, 1]), (2, [1, 0, 1, 0, 0]), (1, [0]), (0, [1, 1])], fun σ w => dK (slotOf σ 1) fun a_ => dK (slotOf σ 2) fun t2_ => dI .i64 (slotOf σ 3) fun i_ => dI .i64 (slotOf σ 4) fun x_ => dI .i64 (slotOf σ 5) fun j_ => N2 a_ t2_ i_ x_ j_ w),
    ([(0, [1, 0, 1, 0, 0]), (2, [1, 0, 1, 0, 0]), (1, [0]), (0, [1, 1])], fun σ w => dK (slotOf σ 1) fun a_ => dK (slotOf σ 2) fun t2_ => dI .i64 (slotOf σ 3) fun i_ => N1 a_ t2_ i_ w)] 2000) [(0, [1, 0, 1, 0, 0, 1, 0, 0, 1, 1, 0, 0, 0, 0, 1]), (0, [1, 0, 1, 0, 0, 1, 0, 0, 1, 1, 0, 0, 0, 1]), (2, [1, 0, 1, 0, 0, 1, 0, 0, 1, 1, 0, 0, 0]), (1, [2]), (0, [1, 0, 1, 0, 0, 1, 0, 0, 1, 1, 1]), (1, [1]), (0, [1, 0, 1, 0, 0, 1, 1]), (2, [1, 0, 1, 0, 0]), (1, [0]), (0, [1, 1])] [(1, .pointer (some ⟨a, 0, none⟩)), (2, .pointer (some ⟨t2, 0, none⟩)), (3, .int .i64 i), (4, .int .i64 x), (5, .int .i64 j), (23, .bool t23)] w := by kernel_rfl
theorem sync_sorted.B1_sound {R : Int → Int → Int → World → Prop} {N1 : Nat → Nat → Int → World → Prop} (hN1 : ∀ a t2 i w, N1 a t2 i w → KW Tryz.prog 289 36 (sync_sorted.RV R) ([(0, [1, 0, 1, 0, 0]), (2, [1, 0, 1, 0, 0]), (1, [0]), (0, [1, 1])].map (toItem (Tryz.f289.body.getD .skip))) [(1, .pointer (some ⟨a, 0, none⟩)), (2, .pointer (some ⟨t2, 0, none⟩)), (3, .int .i64 i)] w) {N2 : Nat → Nat → Int → Int → Int → World → Prop} (hN2 : ∀ a t2 i x j w, N2 a t2 i x j w → KW Tryz.prog 289 36 (sync_sorted.RV R) ([(0, [1, 0, 1, 0, 0, 1, 0, 0, 1, 1, 0, 0, 0]), (2, [1, 0, 1, 0, 0, 1, 0, 0, 1, 1, 0, 0, 0]), (1, [2]), (0, [1, 0, 1, 0, 0, 1, 0, 0, 1, 1, 1]), (1, [1]), (0, [1, 0, 1, 0, 0, 1, 1]), (2, [1, 0, 1, 0, 0]), (1, [0]), (0, [1, 1])].map (toItem (Tryz.f289.body.getD .skip))) [(1, .pointer (some ⟨a, 0, none⟩)), (2, .pointer (some ⟨t2, 0, none⟩)), (3, .int .i64 i), (4, .int .i64 x), (5, .int .i64 j)] w) (a t2 : Nat) (i x j : Int) (t23 : Bool) (w : World) (h : sync_sorted.B1 a t2 i x j t23 w N1 N2  R) :
    KW Tryz.prog 289 36 (sync_sorted.RV R) ([(0, [1, 0, 1, 0, 0, 1, 0, 0, 1, 1, 0, 0, 0, 0, 1]), (0, [1, 0, 1, 0, 0, 1, 0, 0, 1, 1, 0, 0, 0, 1]), (2, [1, 0, 1, 0, 0, 1, 0, 0, 1, 1, 0, 0, 0]), (1, [2]), (0, [1, 0, 1, 0, 0, 1, 0, 0, 1, 1, 1]), (1, [1]), (0, [1, 0, 1, 0, 0, 1, 1]), (2, [1, 0, 1, 0, 0]), (1, [0]), (0, [1, 1])].map (toItem (Tryz.f289.body.getD .skip))) [(1, .pointer (some ⟨a, 0, none⟩)), (2, .pointer (some ⟨t2, 0, none⟩)), (3, .int .i64 i), (4, .int .i64 x), (5, .int .i64 j), (23, .bool t23)] w := by
  exact block_spec Tryz.func289 Tryz.mixed (stops_cons (fun σ w h => by
      obtain ⟨a_, e0, h⟩ := dK_elim h
      obtain ⟨t2_, e1, h⟩ := dK_elim h
      obtain ⟨i_, e2, h⟩ := dI_elim h
      obtain ⟨x_, e3, h⟩ := dI_elim h
      obtain ⟨j_, e4, h⟩ := dI_elim h
      exact (hN2 a_ t2_ i_ x_ j_ w h).weaken (Sub.cons (Sub.cons (Sub.cons (Sub.cons (Sub.cons (Sub.nil _) e4) e3) e2) e1) e0)) (stops_cons (fun σ w h => by
      obtain ⟨a_, e0, h⟩ := dK_elim h
      obtain ⟨t2_, e1, h⟩ := dK_elim h
      obtain ⟨i_, e2, h⟩ := dI_elim h
      exact (hN1 a_ t2_ i_ w h).weaken (Sub.cons (Sub.cons (Sub.cons (Sub.nil _) e2) e1) e0)) stops_nil)) (Eq.mp (sync_sorted.B1_eq a t2 i x j t23 w N1 N2  R ) h)
def sync_sorted.L2b (a t2 : Nat) (i x j : Int) (w : World) (N1 : Nat → Nat → Int → World → Prop) (N2 : Nat → Nat → Int → Int → Int → World → Prop) (R : Int → Int → Int → World → Prop) : Prop :=
  Bm (decide (j > (0 : Int))) (
    (0 ≤ (IntKind.i64.wrap (j - (1 : Int))) ∧ (IntKind.i64.wrap (j - (1 : Int))) < ((3 : Nat) : Int)) ∧
    LdI .i64 (Addr.add ⟨a, 0, none⟩ ((IntKind.i64.wrap (j - (1 : Int))).toNat * 1)) w fun x20 =>
    sync_sorted.B1 a t2 i x j (decide (x20 > x)) w N1 N2 R) (
    sync_sorted.B1 a t2 i x j false w N1 N2 R)
theorem sync_sorted.L2b_eq (a t2 : Nat) (i x j : Int) (w : World) (N1 : Nat → Nat → Int → World → Prop) (N2 : Nat → Nat → Int → Int → Int → World → Prop) (R : Int → Int → Int → World → Prop) (sB1 : Nat → Nat → Int → Int → Int → Bool → World → Prop) :
    (
  Bm (decide (j > (0 : Int))) (
    (0 ≤ (IntKind.i64.wrap (j - (1 : Int))) ∧ (IntKind.i64.wrap (j - (1 : Int))) < ((3 : Nat) : Int)) ∧
    LdI .i64 (Addr.add ⟨a, 0, none⟩ ((IntKind.i64.wrap (j - (1 : Int))).toNat * 1)) w fun x20 =>
    sB1 a t2 i x j (decide (x20 > x)) w) (
    sB1 a t2 i x j false w)) = kstep Tryz.prog 36 Tryz.f289.results.toList (Tryz.f289.body.getD .skip) (sync_sorted.RV R) (kvc Tryz.prog 36 Tryz.f289.results.toList (Tryz.f289.body.getD .skip) (sync_sorted.RV R) [([(0, [1, 0, 1, 0, 0, 1, 0, 0, 1, 1, 0, 0, 0, 0, 1]), (0, [1, 0, 1, 0, 0, 1, 0, 0, 1, 1, 0, 0, 0, 1]), (2, [1, 0, 1, 0, 0, 1, 0, 0, 1, 1, 0, 0, 0]), (1, [2]), (0, [1, 0, 1, 0, 0, 1, 0, 0, 1, 1, 1]), (1, [1]), (0, [1, 0, 1, 0, 0, 1, 1]), (2, [1, 0, 1, 0, 0]), (1, [0]), (0, [1, 1])], fun σ w => dK (slotOf σ 1) fun a_ => dK (slotOf σ 2) fun t2_ => dI .i64 (slotOf σ 3) fun i_ => dI .i64 (slotOf σ 4) fun x_ => dI .i64 (slotOf σ 5) fun j_ => dB (slotOf σ 23) fun t23_ => sB1 a_ t2_ i_ x_ j_ t23_ w)] 2000) [(0, [1, 0, 1, 0, 0, 1, 0, 0, 1, 1, 0, 0, 0]), (2, [1, 0, 1, 0, 0, 1, 0, 0, 1, 1, 0, 0, 0]), (1, [2]), (0, [1, 0, 1, 0, 0, 1, 0, 0, 1, 1, 1]), (1, [1]), (0, [1, 0, 1, 0, 0, 1, 1]), (2, [1, 0, 1, 0, 0]), (1, [0]), (0, [1, 1])] [(1, .pointer (some ⟨a, 0, none⟩)), (2, .pointer (some ⟨t2, 0, none⟩)), (3, .int .i64 i), (4, .int .i64 x), (5, .int .i64 j)] w := by kernel_rfl
theorem sync_sorted.L2b_sound {R : Int → Int → Int → World → Prop} {N1 : Nat → Nat → Int → World → Prop} (hN1 : ∀ a t2 i w, N1 a t2 i w → KW Tryz.prog 289 36 (sync_sorted.RV R) ([(0, [1, 0, 1, 0, 0]), (2, [1, 0, 1, 0, 0]), (1, [0]), (0, [1, 1])].map (toItem (Tryz.f289.body.getD .skip))) [(1, .pointer (some ⟨a, 0, none⟩)), (2, .pointer (some ⟨t2, 0, none⟩)), (3, .int .i64 i)] w) {N2 : Nat → Nat → Int → Int → Int → World → Prop} (hN2 : ∀ a t2 i x j w, N2 a t2 i x j w → KW Tryz.prog 289 36 (sync_sorted.RV R) ([(0, [1, 0, 1, 0, 0, 1, 0, 0, 1, 1, 0, 0, 0]), (2, [1, 0, 1, 0, 0, 1, 0, 0, 1, 1, 0, 0, 0]), (1, [2]), (0, [1, 0, 1, 0, 0, 1, 0, 0, 1, 1, 1]), (1, [1]), (0, [1, 0, 1, 0, 0, 1, 1]), (2, [1, 0, 1, 0, 0]), (1, [0]), (0, [1, 1])].map (toItem (Tryz.f289.body.getD .skip))) [(1, .pointer (some ⟨a, 0, none⟩)), (2, .pointer (some ⟨t2, 0, none⟩)), (3, .int .i64 i), (4, .int .i64 x), (5, .int .i64 j)] w) (a t2 : Nat) (i x j : Int) (w : World) (h : sync_sorted.L2b a t2 i x j w N1 N2 R) :
    KW Tryz.prog 289 36 (sync_sorted.RV R) ([(0, [1, 0, 1, 0, 0, 1, 0, 0, 1, 1, 0, 0, 0]), (2, [1, 0, 1, 0, 0, 1, 0, 0, 1, 1, 0, 0, 0]), (1, [2]), (0, [1, 0, 1, 0, 0, 1, 0, 0, 1, 1, 1]), (1, [1]), (0, [1, 0, 1, 0, 0, 1, 1]), (2, [1, 0, 1, 0, 0]), (1, [0]), (0, [1, 1])].map (toItem (Tryz.f289.body.getD .skip))) [(1, .pointer (some ⟨a, 0, none⟩)), (2, .pointer (some ⟨t2, 0, none⟩)), (3, .int .i64 i), (4, .int .i64 x), (5, .int .i64 j)] w := by
  exact block_spec Tryz.func289 Tryz.mixed (stops_cons (fun σ w h => by
      obtain ⟨a_, e0, h⟩ := dK_elim h
      obtain ⟨t2_, e1, h⟩ := dK_elim h
      obtain ⟨i_, e2, h⟩ := dI_elim h
      obtain ⟨x_, e3, h⟩ := dI_elim h
      obtain ⟨j_, e4, h⟩ := dI_elim h
      obtain ⟨t23_, e5, h⟩ := dB_elim h
      exact (sync_sorted.B1_sound hN1 hN2 a_ t2_ i_ x_ j_ t23_ w h).weaken (Sub.cons (Sub.cons (Sub.cons (Sub.cons (Sub.cons (Sub.cons (Sub.nil _) e5) e4) e3) e2) e1) e0)) stops_nil) (Eq.mp (sync_sorted.L2b_eq a t2 i x j w N1 N2 R (fun a_ t2_ i_ x_ j_ t23_ w => sync_sorted.B1 a_ t2_ i_ x_ j_ t23_ w N1 N2 R)) h)
def sync_sorted.L2 (a t2 : Nat) (i x j : Int) (w : World) (N1 : Nat → Nat → Int → World → Prop) (R : Int → Int → Int → World → Prop) : Prop :=
  ∃ (I : Nat → Nat → Nat → Int → Int → Int → World → Prop) (m : Nat), I m a t2 i x j w ∧ ∀ m a t2 i x j w, I m a t2 i x j w → sync_sorted.L2b a t2 i x j w N1 (fun a' t2' i' x' j' w' => ∃ m', m' < m ∧ I m' a' t2' i' x' j' w') R
theorem sync_sorted.L2_sound {R : Int → Int → Int → World → Prop} {N1 : Nat → Nat → Int → World → Prop} (hN1 : ∀ a t2 i w, N1 a t2 i w → KW Tryz.prog 289 36 (sync_sorted.RV R) ([(0, [1, 0, 1, 0, 0]), (2, [1, 0, 1, 0, 0]), (1, [0]), (0, [1, 1])].map (toItem (Tryz.f289.body.getD .skip))) [(1, .pointer (some ⟨a, 0, none⟩)), (2, .pointer (some ⟨t2, 0, none⟩)), (3, .int .i64 i)] w) (a t2 : Nat) (i x j : Int) (w : World) (h : sync_sorted.L2 a t2 i x j w N1 R) :
    KW Tryz.prog 289 36 (sync_sorted.RV R) ([(0, [1, 0, 1, 0, 0, 1, 0, 0, 1, 1, 0, 0, 0]), (2, [1, 0, 1, 0, 0, 1, 0, 0, 1, 1, 0, 0, 0]), (1, [2]), (0, [1, 0, 1, 0, 0, 1, 0, 0, 1, 1, 1]), (1, [1]), (0, [1, 0, 1, 0, 0, 1, 1]), (2, [1, 0, 1, 0, 0]), (1, [0]), (0, [1, 1])].map (toItem (Tryz.f289.body.getD .skip))) [(1, .pointer (some ⟨a, 0, none⟩)), (2, .pointer (some ⟨t2, 0, none⟩)), (3, .int .i64 i), (4, .int .i64 x), (5, .int .i64 j)] w := by
  obtain ⟨I, m, hBase, hr⟩ := h
  refine KW.loop (fun m σ w => ∃ (a t2 : Nat) (i x j : Int), σ = [(1, .pointer (some ⟨a, 0, none⟩)), (2, .pointer (some ⟨t2, 0, none⟩)), (3, .int .i64 i), (4, .int .i64 x), (5, .int .i64 j)] ∧ I m a t2 i x j w) ?_ m _ w ⟨a, t2, i, x, j, rfl, hBase⟩
  rintro m ih σ w ⟨a, t2, i, x, j, rfl, hI⟩
  exact sync_sorted.L2b_sound hN1 (N2 := fun a' t2' i' x' j' w' => ∃ m', m' < m ∧ I m' a' t2' i' x' j' w') (fun a' t2' i' x' j' w' hx => by obtain ⟨m', hlt, hI'⟩ := hx; exact ih m' hlt _ w' ⟨a', t2', i', x', j', rfl, hI'⟩) a t2 i x j w (hr m a t2 i x j w hI)
def sync_sorted.L1b (a t2 : Nat) (i : Int) (w : World)  (N1 : Nat → Nat → Int → World → Prop) (R : Int → Int → Int → World → Prop) : Prop :=
  Bm (decide (i < (3 : Int))) (
    (0 ≤ i ∧ i < ((3 : Nat) : Int)) ∧
    LdI .i64 (Addr.add ⟨a, 0, none⟩ (i.toNat * 1)) w fun x12 =>
    sync_sorted.L2 a t2 i x12 i w N1 R) (
    LdI .i64 ⟨a, 0, none⟩ w fun x35_0 =>
    LdI .i64 ⟨a, 1, none⟩ w fun x35_1 =>
    LdI .i64 ⟨a, 2, none⟩ w fun x35_2 =>
    Sts [.int .i64 x35_0, .int .i64 x35_1, .int .i64 x35_2] ⟨t2, 0, none⟩ 0 w fun w1 =>
    LdI .i64 ⟨t2, 0, none⟩ w1 fun r_0 =>
    LdI .i64 ⟨t2, 1, none⟩ w1 fun r_1 =>
    LdI .i64 ⟨t2, 2, none⟩ w1 fun r_2 =>
    R r_0 r_1 r_2 w1)
theorem sync_sorted.L1b_eq (a t2 : Nat) (i : Int) (w : World)  (N1 : Nat → Nat → Int → World → Prop) (R : Int → Int → Int → World → Prop) (sL2 : Nat → Nat → Int → Int → Int → World → Prop) :
    (
  Bm (decide (i < (3 : Int))) (
    (0 ≤ i ∧ i < ((3 : Nat) : Int)) ∧
    LdI .i64 (Addr.add ⟨a, 0, none⟩ (i.toNat * 1)) w fun x12 =>
    sL2 a t2 i x12 i w) (
    LdI .i64 ⟨a, 0, none⟩ w fun x35_0 =>
    LdI .i64 ⟨a, 1, none⟩ w fun x35_1 =>
    LdI .i64 ⟨a, 2, none⟩ w fun x35_2 =>
    Sts [.int .i64 x35_0, .int .i64 x35_1, .int .i64 x35_2] ⟨t2, 0, none⟩ 0 w fun w1 =>
    LdI .i64 ⟨t2, 0, none⟩ w1 fun r_0 =>
    LdI .i64 ⟨t2, 1, none⟩ w1 fun r_1 =>
    LdI .i64 ⟨t2, 2, none⟩ w1 fun r_2 =>
    R r_0 r_1 r_2 w1)) = kstep Tryz.prog 36 Tryz.f289.results.toList (Tryz.f289.body.getD .skip) (sync_sorted.RV R) (kvc Tryz.prog 36 Tryz.f289.results.toList (Tryz.f289.body.getD .skip) (sync_sorted.RV R) [([(0, [1, 0, 1, 0, 0, 1, 0, 0, 1, 1, 0, 0, 0]), (2, [1, 0, 1, 0, 0, 1, 0, 0, 1, 1, 0, 0, 0]), (1, [2]), (0, [1, 0, 1, 0, 0, 1, 0, 0, 1, 1, 1]), (1, [1]), (0, [1, 0, 1, 0, 0, 1, 1]), (2, [1, 0, 1, 0, 0]), (1, [0]), (0, [1, 1])], fun σ w => dK (slotOf σ 1) fun a_ => dK (slotOf σ 2) fun t2_ => dI .i64 (slotOf σ 3) fun i_ => dI .i64 (slotOf σ 4) fun x_ => dI .i64 (slotOf σ 5) fun j_ => sL2 a_ t2_ i_ x_ j_ w)] 2000) [(0, [1, 0, 1, 0, 0]), (2, [1, 0, 1, 0, 0]), (1, [0]), (0, [1, 1])] [(1, .pointer (some ⟨a, 0, none⟩)), (2, .pointer (some ⟨t2, 0, none⟩)), (3, .int .i64 i)] w := by kernel_rfl
theorem sync_sorted.L1b_sound {R : Int → Int → Int → World → Prop} {N1 : Nat → Nat → Int → World → Prop} (hN1 : ∀ a t2 i w, N1 a t2 i w → KW Tryz.prog 289 36 (sync_sorted.RV R) ([(0, [1, 0, 1, 0, 0]), (2, [1, 0, 1, 0, 0]), (1, [0]), (0, [1, 1])].map (toItem (Tryz.f289.body.getD .skip))) [(1, .pointer (some ⟨a, 0, none⟩)), (2, .pointer (some ⟨t2, 0, none⟩)), (3, .int .i64 i)] w) (a t2 : Nat) (i : Int) (w : World) (h : sync_sorted.L1b a t2 i w  N1 R) :
    KW Tryz.prog 289 36 (sync_sorted.RV R) ([(0, [1, 0, 1, 0, 0]), (2, [1, 0, 1, 0, 0]), (1, [0]), (0, [1, 1])].map (toItem (Tryz.f289.body.getD .skip))) [(1, .pointer (some ⟨a, 0, none⟩)), (2, .pointer (some ⟨t2, 0, none⟩)), (3, .int .i64 i)] w := by
  exact block_spec Tryz.func289 Tryz.mixed (stops_cons (fun σ w h => by
      obtain ⟨a_, e0, h⟩ := dK_elim h
      obtain ⟨t2_, e1, h⟩ := dK_elim h
      obtain ⟨i_, e2, h⟩ := dI_elim h
      obtain ⟨x_, e3, h⟩ := dI_elim h
      obtain ⟨j_, e4, h⟩ := dI_elim h
      exact (sync_sorted.L2_sound hN1 a_ t2_ i_ x_ j_ w h).weaken (Sub.cons (Sub.cons (Sub.cons (Sub.cons (Sub.cons (Sub.nil _) e4) e3) e2) e1) e0)) stops_nil) (Eq.mp (sync_sorted.L1b_eq a t2 i w  N1 R (fun a_ t2_ i_ x_ j_ w => sync_sorted.L2 a_ t2_ i_ x_ j_ w N1 R)) h)
def sync_sorted.L1 (a t2 : Nat) (i : Int) (w : World)  (R : Int → Int → Int → World → Prop) : Prop :=
  ∃ (I : Nat → Nat → Nat → Int → World → Prop) (m : Nat), I m a t2 i w ∧ ∀ m a t2 i w, I m a t2 i w → sync_sorted.L1b a t2 i w  (fun a' t2' i' w' => ∃ m', m' < m ∧ I m' a' t2' i' w') R
theorem sync_sorted.L1_sound {R : Int → Int → Int → World → Prop}  (a t2 : Nat) (i : Int) (w : World) (h : sync_sorted.L1 a t2 i w  R) :
    KW Tryz.prog 289 36 (sync_sorted.RV R) ([(0, [1, 0, 1, 0, 0]), (2, [1, 0, 1, 0, 0]), (1, [0]), (0, [1, 1])].map (toItem (Tryz.f289.body.getD .skip))) [(1, .pointer (some ⟨a, 0, none⟩)), (2, .pointer (some ⟨t2, 0, none⟩)), (3, .int .i64 i)] w := by
  obtain ⟨I, m, hBase, hr⟩ := h
  refine KW.loop (fun m σ w => ∃ (a t2 : Nat) (i : Int), σ = [(1, .pointer (some ⟨a, 0, none⟩)), (2, .pointer (some ⟨t2, 0, none⟩)), (3, .int .i64 i)] ∧ I m a t2 i w) ?_ m _ w ⟨a, t2, i, rfl, hBase⟩
  rintro m ih σ w ⟨a, t2, i, rfl, hI⟩
  exact sync_sorted.L1b_sound  (N1 := fun a' t2' i' w' => ∃ m', m' < m ∧ I m' a' t2' i' w') (fun a' t2' i' w' hx => by obtain ⟨m', hlt, hI'⟩ := hx; exact ih m' hlt _ w' ⟨a', t2', i', rfl, hI'⟩) a t2 i w (hr m a t2 i w hI)
def sync_sorted.B0 (a_0 a_1 a_2 : Int) (w : World)   (R : Int → Int → Int → World → Prop) : Prop :=
  New (.cells #[.int .i64 a_0, .int .i64 a_1, .int .i64 a_2] 81) w fun a_ w1 =>
  New (.cells #[.int .i64 (0 : Int), .int .i64 (0 : Int), .int .i64 (0 : Int)] 81) w1 fun b2 w2 =>
  sync_sorted.L1 a_ b2 (1 : Int) w2  R
theorem sync_sorted.B0_eq (a_0 a_1 a_2 : Int) (w : World)   (R : Int → Int → Int → World → Prop) (sL1 : Nat → Nat → Int → World → Prop) :
    (
  New (.cells #[.int .i64 a_0, .int .i64 a_1, .int .i64 a_2] 81) w fun a_ w1 =>
  New (.cells #[.int .i64 (0 : Int), .int .i64 (0 : Int), .int .i64 (0 : Int)] 81) w1 fun b2 w2 =>
  sL1 a_ b2 (1 : Int) w2) = kstep Tryz.prog 36 Tryz.f289.results.toList (Tryz.f289.body.getD .skip) (sync_sorted.RV R) (kvc Tryz.prog 36 Tryz.f289.results.toList (Tryz.f289.body.getD .skip) (sync_sorted.RV R) [([(0, [1, 0, 1, 0, 0]), (2, [1, 0, 1, 0, 0]), (1, [0]), (0, [1, 1])], fun σ w => dK (slotOf σ 1) fun a_ => dK (slotOf σ 2) fun t2_ => dI .i64 (slotOf σ 3) fun i_ => sL1 a_ t2_ i_ w)] 2000) [(0, [])] [(0, .agg #[.int .i64 a_0, .int .i64 a_1, .int .i64 a_2])] w := by kernel_rfl
theorem sync_sorted.B0_sound {R : Int → Int → Int → World → Prop}  (a_0 a_1 a_2 : Int) (w : World) (h : sync_sorted.B0 a_0 a_1 a_2 w   R) :
    KW Tryz.prog 289 36 (sync_sorted.RV R) ([(0, [])].map (toItem (Tryz.f289.body.getD .skip))) [(0, .agg #[.int .i64 a_0, .int .i64 a_1, .int .i64 a_2])] w := by
  exact block_spec Tryz.func289 Tryz.mixed (stops_cons (fun σ w h => by
      obtain ⟨a_, e0, h⟩ := dK_elim h
      obtain ⟨t2_, e1, h⟩ := dK_elim h
      obtain ⟨i_, e2, h⟩ := dI_elim h
      exact (sync_sorted.L1_sound  a_ t2_ i_ w h).weaken (Sub.cons (Sub.cons (Sub.cons (Sub.nil _) e2) e1) e0)) stops_nil) (Eq.mp (sync_sorted.B0_eq a_0 a_1 a_2 w   R (fun a_ t2_ i_ w => sync_sorted.L1 a_ t2_ i_ w  R)) h)
theorem sync_sorted.sound (a_0 a_1 a_2 : Int) (w : World) (R : Int → Int → Int → World → Prop) (h : sync_sorted.B0 a_0 a_1 a_2 w R) : sync_sorted.Call a_0 a_1 a_2 w R := by
  have hc := calls_of_block (args := #[.agg #[.int .i64 a_0, .int .i64 a_1, .int .i64 a_2]]) Tryz.func289 (body := (Tryz.f289.body.getD .skip)) (by kernel_rfl) (by kernel_rfl) (args_slot _) (sync_sorted.B0_sound a_0 a_1 a_2 w h)
  exact hc.mono fun e w' he => by
    obtain ⟨v, rfl, hv⟩ := he
    exact sync_sorted.RV_elim hv
def store_encRec.B1 (r : Nat) (b_b : Option Addr) (b_l b_c : Nat) (i : Int) (t26 : Bool) (w : World) (N1 : Nat → Option Addr → Nat → Nat → Int → World → Prop)  (R : Option Addr → Nat → Nat → World → Prop) : Prop :=
  Bm t26 (
    LdS ⟨r, 2, none⟩ w fun x33 =>
    (0 ≤ i ∧ i < ((x33.size : Nat) : Int)) ∧
    Pn b_b fun a =>
    (0 ≤ (IntKind.i64.wrap ((11 : Int) + i)) ∧ (IntKind.i64.wrap ((11 : Int) + i)) < ((b_l : Nat) : Int)) ∧
    Sts [.int .u8 (byteAt x33 i)] (Addr.add a ((IntKind.i64.wrap ((11 : Int) + i)).toNat * 1)) 0 w fun w1 =>
    N1 r b_b b_l b_c (IntKind.i64.wrap (i + (1 : Int))) w1) (
    LdI .i64 ⟨r, 1, none⟩ w fun x39 =>
    store_put8.Call b_b b_l b_c (35 : Int) x39 w fun r40_b r40_l r40_c w2 =>
    R r40_b r40_l r40_c w2)
theorem store_encRec.B1_eq (r : Nat) (b_b : Option Addr) (b_l b_c : Nat) (i : Int) (t26 : Bool) (w : World) (N1 : Nat → Option Addr → Nat → Nat → Int → World → Prop)  (R : Option Addr → Nat → Nat → World → Prop)  :
    (
  Bm t26 (
    LdS ⟨r, 2, none⟩ w fun x33 =>
    (0 ≤ i ∧ i < ((x33.size : Nat) : Int)) ∧
    Pn b_b fun a =>
    (0 ≤ (IntKind.i64.wrap ((11 : Int) + i)) ∧ (IntKind.i64.wrap ((11 : Int) + i)) < ((b_l : Nat) : Int)) ∧
    Sts [.int .u8 (byteAt x33 i)] (Addr.add a ((IntKind.i64.wrap ((11 : Int) + i)).toNat * 1)) 0 w fun w1 =>
    N1 r b_b b_l b_c (IntKind.i64.wrap (i + (1 : Int))) w1) (
    LdI .i64 ⟨r, 1, none⟩ w fun x39 =>
    store_put8.Call b_b b_l b_c (35 : Int) x39 w fun r40_b r40_l r40_c w2 =>
    R r40_b r40_l r40_c w2)) = kstep Tryz.prog 41 Tryz.f290.results.toList (Tryz.f290.body.getD .skip) (store_encRec.RV R) (kvc Tryz.prog 41 Tryz.f290.results.toList (Tryz.f290.body.getD .skip) (store_encRec.RV R) [([(0, [1, 1, 1, 1, 1, 0, 1, 0, 0]), (2, [1, 1, 1, 1, 1, 0, 1, 0, 0]), (1, [0]), (0, [1, 1, 1, 1, 1, 1])], fun σ w => dK (slotOf σ 1) fun r_ => dL (slotOf σ 3) fun b_b_ b_l_ b_c_ => dI .i64 (slotOf σ 4) fun i_ => N1 r_ b_b_ b_l_ b_c_ i_ w)] 2000) [(0, [1, 1, 1, 1, 1, 0, 1, 0, 0, 0, 1]), (0, [1, 1, 1, 1, 1, 0, 1, 0, 0, 1]), (2, [1, 1, 1, 1, 1, 0, 1, 0, 0]), (1, [0]), (0, [1, 1, 1, 1, 1, 1])] [(1, .pointer (some ⟨r, 0, none⟩)), (3, .slice b_b b_l b_c), (4, .int .i64 i), (26, .bool t26)] w := by kernel_rfl
theorem store_encRec.B1_sound {R : Option Addr → Nat → Nat → World → Prop} {N1 : Nat → Option Addr → Nat → Nat → Int → World → Prop} (hN1 : ∀ r b_b b_l b_c i w, N1 r b_b b_l b_c i w → KW Tryz.prog 290 41 (store_encRec.RV R) ([(0, [1, 1, 1, 1, 1, 0, 1, 0, 0]), (2, [1, 1, 1, 1, 1, 0, 1, 0, 0]), (1, [0]), (0, [1, 1, 1, 1, 1, 1])].map (toItem (Tryz.f290.body.getD .skip))) [(1, .pointer (some ⟨r, 0, none⟩)), (3, .slice b_b b_l b_c), (4, .int .i64 i)] w) (r : Nat) (b_b : Option Addr) (b_l b_c : Nat) (i : Int) (t26 : Bool) (w : World) (h : store_encRec.B1 r b_b b_l b_c i t26 w N1  R) :
    KW Tryz.prog 290 41 (store_encRec.RV R) ([(0, [1, 1, 1, 1, 1, 0, 1, 0, 0, 0, 1]), (0, [1, 1, 1, 1, 1, 0, 1, 0, 0, 1]), (2, [1, 1, 1, 1, 1, 0, 1, 0, 0]), (1, [0]), (0, [1, 1, 1, 1, 1, 1])].map (toItem (Tryz.f290.body.getD .skip))) [(1, .pointer (some ⟨r, 0, none⟩)), (3, .slice b_b b_l b_c), (4, .int .i64 i), (26, .bool t26)] w := by
  exact block_spec Tryz.func290 Tryz.mixed (stops_cons (fun σ w h => by
      obtain ⟨r_, e0, h⟩ := dK_elim h
      obtain ⟨b_b_, b_l_, b_c_, e1, h⟩ := dL_elim h
      obtain ⟨i_, e2, h⟩ := dI_elim h
      exact (hN1 r_ b_b_ b_l_ b_c_ i_ w h).weaken (Sub.cons (Sub.cons (Sub.cons (Sub.nil _) e2) e1) e0)) stops_nil) (Eq.mp (store_encRec.B1_eq r b_b b_l b_c i t26 w N1  R ) h)
def store_encRec.L1b (r : Nat) (b_b : Option Addr) (b_l b_c : Nat) (i : Int) (w : World)  (N1 : Nat → Option Addr → Nat → Nat → Int → World → Prop) (R : Option Addr → Nat → Nat → World → Prop) : Prop :=
  LdS ⟨r, 2, none⟩ w fun x20 =>
  Bm (decide (i < ((x20.size : Nat) : Int))) (
    store_encRec.B1 r b_b b_l b_c i (decide (i < (24 : Int))) w N1 R) (
    store_encRec.B1 r b_b b_l b_c i false w N1 R)
theorem store_encRec.L1b_eq (r : Nat) (b_b : Option Addr) (b_l b_c : Nat) (i : Int) (w : World)  (N1 : Nat → Option Addr → Nat → Nat → Int → World → Prop) (R : Option Addr → Nat → Nat → World → Prop) (sB1 : Nat → Option Addr → Nat → Nat → Int → Bool → World → Prop) :
    (
  LdS ⟨r, 2, none⟩ w fun x20 =>
  Bm (decide (i < ((x20.size : Nat) : Int))) (
    sB1 r b_b b_l b_c i (decide (i < (24 : Int))) w) (
    sB1 r b_b b_l b_c i false w)) = kstep Tryz.prog 41 Tryz.f290.results.toList (Tryz.f290.body.getD .skip) (store_encRec.RV R) (kvc Tryz.prog 41 Tryz.f290.results.toList (Tryz.f290.body.getD .skip) (store_encRec.RV R) [([(0, [1, 1, 1, 1, 1, 0, 1, 0, 0, 0, 1]), (0, [1, 1, 1, 1, 1, 0, 1, 0, 0, 1]), (2, [1, 1, 1, 1, 1, 0, 1, 0, 0]), (1, [0]), (0, [1, 1, 1, 1, 1, 1])], fun σ w => dK (slotOf σ 1) fun r_ => dL (slotOf σ 3) fun b_b_ b_l_ b_c_ => dI .i64 (slotOf σ 4) fun i_ => dB (slotOf σ 26) fun t26_ => sB1 r_ b_b_ b_l_ b_c_ i_ t26_ w)] 2000) [(0, [1, 1, 1, 1, 1, 0, 1, 0, 0]), (2, [1, 1, 1, 1, 1, 0, 1, 0, 0]), (1, [0]), (0, [1, 1, 1, 1, 1, 1])] [(1, .pointer (some ⟨r, 0, none⟩)), (3, .slice b_b b_l b_c), (4, .int .i64 i)] w := by kernel_rfl
theorem store_encRec.L1b_sound {R : Option Addr → Nat → Nat → World → Prop} {N1 : Nat → Option Addr → Nat → Nat → Int → World → Prop} (hN1 : ∀ r b_b b_l b_c i w, N1 r b_b b_l b_c i w → KW Tryz.prog 290 41 (store_encRec.RV R) ([(0, [1, 1, 1, 1, 1, 0, 1, 0, 0]), (2, [1, 1, 1, 1, 1, 0, 1, 0, 0]), (1, [0]), (0, [1, 1, 1, 1, 1, 1])].map (toItem (Tryz.f290.body.getD .skip))) [(1, .pointer (some ⟨r, 0, none⟩)), (3, .slice b_b b_l b_c), (4, .int .i64 i)] w) (r : Nat) (b_b : Option Addr) (b_l b_c : Nat) (i : Int) (w : World) (h : store_encRec.L1b r b_b b_l b_c i w  N1 R) :
    KW Tryz.prog 290 41 (store_encRec.RV R) ([(0, [1, 1, 1, 1, 1, 0, 1, 0, 0]), (2, [1, 1, 1, 1, 1, 0, 1, 0, 0]), (1, [0]), (0, [1, 1, 1, 1, 1, 1])].map (toItem (Tryz.f290.body.getD .skip))) [(1, .pointer (some ⟨r, 0, none⟩)), (3, .slice b_b b_l b_c), (4, .int .i64 i)] w := by
  exact block_spec Tryz.func290 Tryz.mixed (stops_cons (fun σ w h => by
      obtain ⟨r_, e0, h⟩ := dK_elim h
      obtain ⟨b_b_, b_l_, b_c_, e1, h⟩ := dL_elim h
      obtain ⟨i_, e2, h⟩ := dI_elim h
      obtain ⟨t26_, e3, h⟩ := dB_elim h
      exact (store_encRec.B1_sound hN1 r_ b_b_ b_l_ b_c_ i_ t26_ w h).weaken (Sub.cons (Sub.cons (Sub.cons (Sub.cons (Sub.nil _) e3) e2) e1) e0)) stops_nil) (Eq.mp (store_encRec.L1b_eq r b_b b_l b_c i w  N1 R (fun r_ b_b_ b_l_ b_c_ i_ t26_ w => store_encRec.B1 r_ b_b_ b_l_ b_c_ i_ t26_ w N1 R)) h)
def store_encRec.L1 (r : Nat) (b_b : Option Addr) (b_l b_c : Nat) (i : Int) (w : World)  (R : Option Addr → Nat → Nat → World → Prop) : Prop :=
  ∃ (I : Nat → Nat → Option Addr → Nat → Nat → Int → World → Prop) (m : Nat), I m r b_b b_l b_c i w ∧ ∀ m r b_b b_l b_c i w, I m r b_b b_l b_c i w → store_encRec.L1b r b_b b_l b_c i w  (fun r' b_b' b_l' b_c' i' w' => ∃ m', m' < m ∧ I m' r' b_b' b_l' b_c' i' w') R
theorem store_encRec.L1_sound {R : Option Addr → Nat → Nat → World → Prop}  (r : Nat) (b_b : Option Addr) (b_l b_c : Nat) (i : Int) (w : World) (h : store_encRec.L1 r b_b b_l b_c i w  R) :
    KW Tryz.prog 290 41 (store_encRec.RV R) ([(0, [1, 1, 1, 1, 1, 0, 1, 0, 0]), (2, [1, 1, 1, 1, 1, 0, 1, 0, 0]), (1, [0]), (0, [1, 1, 1, 1, 1, 1])].map (toItem (Tryz.f290.body.getD .skip))) [(1, .pointer (some ⟨r, 0, none⟩)), (3, .slice b_b b_l b_c), (4, .int .i64 i)] w := by
  obtain ⟨I, m, hBase, hr⟩ := h
  refine KW.loop (fun m σ w => ∃ (r : Nat) (b_b : Option Addr) (b_l b_c : Nat) (i : Int), σ = [(1, .pointer (some ⟨r, 0, none⟩)), (3, .slice b_b b_l b_c), (4, .int .i64 i)] ∧ I m r b_b b_l b_c i w) ?_ m _ w ⟨r, b_b, b_l, b_c, i, rfl, hBase⟩
  rintro m ih σ w ⟨r, b_b, b_l, b_c, i, rfl, hI⟩
  exact store_encRec.L1b_sound  (N1 := fun r' b_b' b_l' b_c' i' w' => ∃ m', m' < m ∧ I m' r' b_b' b_l' b_c' i' w') (fun r' b_b' b_l' b_c' i' w' hx => by obtain ⟨m', hlt, hI'⟩ := hx; exact ih m' hlt _ w' ⟨r', b_b', b_l', b_c', i', rfl, hI'⟩) r b_b b_l b_c i w (hr m r b_b b_l b_c i w hI)
def store_encRec.B0 (r_0 r_1 : Int) (r_2 : ByteArray) (w : World)   (R : Option Addr → Nat → Nat → World → Prop) : Prop :=
  New (.cells #[.int .i64 r_0, .int .i64 r_1, .string r_2] 185) w fun r_ w1 =>
  Make 5 (.int .u8 (0 : Int)) 1 1 (64 : Int) (64 : Int) w1 fun b5 w2 =>
  (0 ≤ (1 : Int) ∧ (1 : Int) < ((64 : Nat) : Int)) ∧
  Sts [.int .u8 (1 : Int)] ⟨b5, 1, none⟩ 0 w2 fun w3 =>
  LdI .i64 ⟨r_, 0, none⟩ w3 fun x10 =>
  store_put8.Call (some ⟨b5, 0, none⟩) 64 64 (2 : Int) x10 w3 fun r11_b r11_l r11_c w4 =>
  LdS ⟨r_, 2, none⟩ w4 fun x14 =>
  Pn r11_b fun a =>
  (0 ≤ (10 : Int) ∧ (10 : Int) < ((r11_l : Nat) : Int)) ∧
  Sts [.int .u8 (IntKind.u8.wrap ((x14.size : Nat) : Int))] (a.add 10) 0 w4 fun w5 =>
  store_encRec.L1 r_ r11_b r11_l r11_c (0 : Int) w5  R
theorem store_encRec.B0_eq (r_0 r_1 : Int) (r_2 : ByteArray) (w : World)   (R : Option Addr → Nat → Nat → World → Prop) (sL1 : Nat → Option Addr → Nat → Nat → Int → World → Prop) :
    (
  New (.cells #[.int .i64 r_0, .int .i64 r_1, .string r_2] 185) w fun r_ w1 =>
  Make 5 (.int .u8 (0 : Int)) 1 1 (64 : Int) (64 : Int) w1 fun b5 w2 =>
  (0 ≤ (1 : Int) ∧ (1 : Int) < ((64 : Nat) : Int)) ∧
  Sts [.int .u8 (1 : Int)] ⟨b5, 1, none⟩ 0 w2 fun w3 =>
  LdI .i64 ⟨r_, 0, none⟩ w3 fun x10 =>
  store_put8.Call (some ⟨b5, 0, none⟩) 64 64 (2 : Int) x10 w3 fun r11_b r11_l r11_c w4 =>
  LdS ⟨r_, 2, none⟩ w4 fun x14 =>
  Pn r11_b fun a =>
  (0 ≤ (10 : Int) ∧ (10 : Int) < ((r11_l : Nat) : Int)) ∧
  Sts [.int .u8 (IntKind.u8.wrap ((x14.size : Nat) : Int))] (a.add 10) 0 w4 fun w5 =>
  sL1 r_ r11_b r11_l r11_c (0 : Int) w5) = kstep Tryz.prog 41 Tryz.f290.results.toList (Tryz.f290.body.getD .skip) (store_encRec.RV R) (kvc Tryz.prog 41 Tryz.f290.results.toList (Tryz.f290.body.getD .skip) (store_encRec.RV R) [([(0, [1, 1, 1, 1, 1, 0, 1, 0, 0]), (2, [1, 1, 1, 1, 1, 0, 1, 0, 0]), (1, [0]), (0, [1, 1, 1, 1, 1, 1])], fun σ w => dK (slotOf σ 1) fun r_ => dL (slotOf σ 3) fun b_b_ b_l_ b_c_ => dI .i64 (slotOf σ 4) fun i_ => sL1 r_ b_b_ b_l_ b_c_ i_ w)] 2000) [(0, [])] [(0, .agg #[.int .i64 r_0, .int .i64 r_1, .string r_2])] w := by kernel_rfl
theorem store_encRec.B0_sound {R : Option Addr → Nat → Nat → World → Prop}  (r_0 r_1 : Int) (r_2 : ByteArray) (w : World) (h : store_encRec.B0 r_0 r_1 r_2 w   R) :
    KW Tryz.prog 290 41 (store_encRec.RV R) ([(0, [])].map (toItem (Tryz.f290.body.getD .skip))) [(0, .agg #[.int .i64 r_0, .int .i64 r_1, .string r_2])] w := by
  exact block_spec Tryz.func290 Tryz.mixed (stops_cons (fun σ w h => by
      obtain ⟨r_, e0, h⟩ := dK_elim h
      obtain ⟨b_b_, b_l_, b_c_, e1, h⟩ := dL_elim h
      obtain ⟨i_, e2, h⟩ := dI_elim h
      exact (store_encRec.L1_sound  r_ b_b_ b_l_ b_c_ i_ w h).weaken (Sub.cons (Sub.cons (Sub.cons (Sub.nil _) e2) e1) e0)) stops_nil) (Eq.mp (store_encRec.B0_eq r_0 r_1 r_2 w   R (fun r_ b_b_ b_l_ b_c_ i_ w => store_encRec.L1 r_ b_b_ b_l_ b_c_ i_ w  R)) h)
theorem store_encRec.sound (r_0 r_1 : Int) (r_2 : ByteArray) (w : World) (R : Option Addr → Nat → Nat → World → Prop) (h : store_encRec.B0 r_0 r_1 r_2 w R) : store_encRec.Call r_0 r_1 r_2 w R := by
  have hc := calls_of_block (args := #[.agg #[.int .i64 r_0, .int .i64 r_1, .string r_2]]) Tryz.func290 (body := (Tryz.f290.body.getD .skip)) (by kernel_rfl) (by kernel_rfl) (args_slot _) (store_encRec.B0_sound r_0 r_1 r_2 w h)
  exact hc.mono fun e w' he => by
    obtain ⟨v, rfl, hv⟩ := he
    exact store_encRec.RV_elim hv
def store_put8.L1b (b_b : Option Addr) (b_l b_c : Nat) (at0 v i : Int) (w : World)  (N1 : Option Addr → Nat → Nat → Int → Int → Int → World → Prop) (R : Option Addr → Nat → Nat → World → Prop) : Prop :=
  Bm (decide (i ≥ (0 : Int))) (
    Pn b_b fun a =>
    (0 ≤ (IntKind.i64.wrap (at0 + i)) ∧ (IntKind.i64.wrap (at0 + i)) < ((b_l : Nat) : Int)) ∧
    Sts [.int .u8 (IntKind.u8.wrap v)] (Addr.add a ((IntKind.i64.wrap (at0 + i)).toNat * 1)) 0 w fun w1 =>
    0 ≤ (8 : Int) ∧
    N1 b_b b_l b_c at0 (v.fdiv (2 ^ (min (8 : Int).toNat IntKind.i64.bits))) (IntKind.i64.wrap (i - (1 : Int))) w1) (
    R b_b b_l b_c w)
theorem store_put8.L1b_eq (b_b : Option Addr) (b_l b_c : Nat) (at0 v i : Int) (w : World)  (N1 : Option Addr → Nat → Nat → Int → Int → Int → World → Prop) (R : Option Addr → Nat → Nat → World → Prop)  :
    (
  Bm (decide (i ≥ (0 : Int))) (
    Pn b_b fun a =>
    (0 ≤ (IntKind.i64.wrap (at0 + i)) ∧ (IntKind.i64.wrap (at0 + i)) < ((b_l : Nat) : Int)) ∧
    Sts [.int .u8 (IntKind.u8.wrap v)] (Addr.add a ((IntKind.i64.wrap (at0 + i)).toNat * 1)) 0 w fun w1 =>
    0 ≤ (8 : Int) ∧
    N1 b_b b_l b_c at0 (v.fdiv (2 ^ (min (8 : Int).toNat IntKind.i64.bits))) (IntKind.i64.wrap (i - (1 : Int))) w1) (
    R b_b b_l b_c w)) = kstep Tryz.prog 22 Tryz.f291.results.toList (Tryz.f291.body.getD .skip) (store_put8.RV R) (kvc Tryz.prog 22 Tryz.f291.results.toList (Tryz.f291.body.getD .skip) (store_put8.RV R) [([(0, [1, 0, 1, 0, 0]), (2, [1, 0, 1, 0, 0]), (1, [0]), (0, [1, 1])], fun σ w => dL (slotOf σ 0) fun b_b_ b_l_ b_c_ => dI .i64 (slotOf σ 1) fun at0_ => dI .i64 (slotOf σ 2) fun v_ => dI .i64 (slotOf σ 7) fun i_ => N1 b_b_ b_l_ b_c_ at0_ v_ i_ w)] 2000) [(0, [1, 0, 1, 0, 0]), (2, [1, 0, 1, 0, 0]), (1, [0]), (0, [1, 1])] [(0, .slice b_b b_l b_c), (1, .int .i64 at0), (2, .int .i64 v), (7, .int .i64 i)] w := by kernel_rfl
theorem store_put8.L1b_sound {R : Option Addr → Nat → Nat → World → Prop} {N1 : Option Addr → Nat → Nat → Int → Int → Int → World → Prop} (hN1 : ∀ b_b b_l b_c at0 v i w, N1 b_b b_l b_c at0 v i w → KW Tryz.prog 291 22 (store_put8.RV R) ([(0, [1, 0, 1, 0, 0]), (2, [1, 0, 1, 0, 0]), (1, [0]), (0, [1, 1])].map (toItem (Tryz.f291.body.getD .skip))) [(0, .slice b_b b_l b_c), (1, .int .i64 at0), (2, .int .i64 v), (7, .int .i64 i)] w) (b_b : Option Addr) (b_l b_c : Nat) (at0 v i : Int) (w : World) (h : store_put8.L1b b_b b_l b_c at0 v i w  N1 R) :
    KW Tryz.prog 291 22 (store_put8.RV R) ([(0, [1, 0, 1, 0, 0]), (2, [1, 0, 1, 0, 0]), (1, [0]), (0, [1, 1])].map (toItem (Tryz.f291.body.getD .skip))) [(0, .slice b_b b_l b_c), (1, .int .i64 at0), (2, .int .i64 v), (7, .int .i64 i)] w := by
  exact block_spec Tryz.func291 Tryz.mixed (stops_cons (fun σ w h => by
      obtain ⟨b_b_, b_l_, b_c_, e0, h⟩ := dL_elim h
      obtain ⟨at0_, e1, h⟩ := dI_elim h
      obtain ⟨v_, e2, h⟩ := dI_elim h
      obtain ⟨i_, e3, h⟩ := dI_elim h
      exact (hN1 b_b_ b_l_ b_c_ at0_ v_ i_ w h).weaken (Sub.cons (Sub.cons (Sub.cons (Sub.cons (Sub.nil _) e3) e2) e1) e0)) stops_nil) (Eq.mp (store_put8.L1b_eq b_b b_l b_c at0 v i w  N1 R ) h)
def store_put8.L1 (b_b : Option Addr) (b_l b_c : Nat) (at0 v i : Int) (w : World)  (R : Option Addr → Nat → Nat → World → Prop) : Prop :=
  ∃ (I : Nat → Option Addr → Nat → Nat → Int → Int → Int → World → Prop) (m : Nat), I m b_b b_l b_c at0 v i w ∧ ∀ m b_b b_l b_c at0 v i w, I m b_b b_l b_c at0 v i w → store_put8.L1b b_b b_l b_c at0 v i w  (fun b_b' b_l' b_c' at0' v' i' w' => ∃ m', m' < m ∧ I m' b_b' b_l' b_c' at0' v' i' w') R
theorem store_put8.L1_sound {R : Option Addr → Nat → Nat → World → Prop}  (b_b : Option Addr) (b_l b_c : Nat) (at0 v i : Int) (w : World) (h : store_put8.L1 b_b b_l b_c at0 v i w  R) :
    KW Tryz.prog 291 22 (store_put8.RV R) ([(0, [1, 0, 1, 0, 0]), (2, [1, 0, 1, 0, 0]), (1, [0]), (0, [1, 1])].map (toItem (Tryz.f291.body.getD .skip))) [(0, .slice b_b b_l b_c), (1, .int .i64 at0), (2, .int .i64 v), (7, .int .i64 i)] w := by
  obtain ⟨I, m, hBase, hr⟩ := h
  refine KW.loop (fun m σ w => ∃ (b_b : Option Addr) (b_l b_c : Nat) (at0 v i : Int), σ = [(0, .slice b_b b_l b_c), (1, .int .i64 at0), (2, .int .i64 v), (7, .int .i64 i)] ∧ I m b_b b_l b_c at0 v i w) ?_ m _ w ⟨b_b, b_l, b_c, at0, v, i, rfl, hBase⟩
  rintro m ih σ w ⟨b_b, b_l, b_c, at0, v, i, rfl, hI⟩
  exact store_put8.L1b_sound  (N1 := fun b_b' b_l' b_c' at0' v' i' w' => ∃ m', m' < m ∧ I m' b_b' b_l' b_c' at0' v' i' w') (fun b_b' b_l' b_c' at0' v' i' w' hx => by obtain ⟨m', hlt, hI'⟩ := hx; exact ih m' hlt _ w' ⟨b_b', b_l', b_c', at0', v', i', rfl, hI'⟩) b_b b_l b_c at0 v i w (hr m b_b b_l b_c at0 v i w hI)
def store_put8.B0 (b_b : Option Addr) (b_l b_c : Nat) (at0 v : Int) (w : World)   (R : Option Addr → Nat → Nat → World → Prop) : Prop :=
  store_put8.L1 b_b b_l b_c at0 v (7 : Int) w  R
theorem store_put8.B0_eq (b_b : Option Addr) (b_l b_c : Nat) (at0 v : Int) (w : World)   (R : Option Addr → Nat → Nat → World → Prop) (sL1 : Option Addr → Nat → Nat → Int → Int → Int → World → Prop) :
    (
  sL1 b_b b_l b_c at0 v (7 : Int) w) = kstep Tryz.prog 22 Tryz.f291.results.toList (Tryz.f291.body.getD .skip) (store_put8.RV R) (kvc Tryz.prog 22 Tryz.f291.results.toList (Tryz.f291.body.getD .skip) (store_put8.RV R) [([(0, [1, 0, 1, 0, 0]), (2, [1, 0, 1, 0, 0]), (1, [0]), (0, [1, 1])], fun σ w => dL (slotOf σ 0) fun b_b_ b_l_ b_c_ => dI .i64 (slotOf σ 1) fun at0_ => dI .i64 (slotOf σ 2) fun v_ => dI .i64 (slotOf σ 7) fun i_ => sL1 b_b_ b_l_ b_c_ at0_ v_ i_ w)] 2000) [(0, [])] [(0, .slice b_b b_l b_c), (1, .int .i64 at0), (2, .int .i64 v)] w := by kernel_rfl
theorem store_put8.B0_sound {R : Option Addr → Nat → Nat → World → Prop}  (b_b : Option Addr) (b_l b_c : Nat) (at0 v : Int) (w : World) (h : store_put8.B0 b_b b_l b_c at0 v w   R) :
    KW Tryz.prog 291 22 (store_put8.RV R) ([(0, [])].map (toItem (Tryz.f291.body.getD .skip))) [(0, .slice b_b b_l b_c), (1, .int .i64 at0), (2, .int .i64 v)] w := by
  exact block_spec Tryz.func291 Tryz.mixed (stops_cons (fun σ w h => by
      obtain ⟨b_b_, b_l_, b_c_, e0, h⟩ := dL_elim h
      obtain ⟨at0_, e1, h⟩ := dI_elim h
      obtain ⟨v_, e2, h⟩ := dI_elim h
      obtain ⟨i_, e3, h⟩ := dI_elim h
      exact (store_put8.L1_sound  b_b_ b_l_ b_c_ at0_ v_ i_ w h).weaken (Sub.cons (Sub.cons (Sub.cons (Sub.cons (Sub.nil _) e3) e2) e1) e0)) stops_nil) (Eq.mp (store_put8.B0_eq b_b b_l b_c at0 v w   R (fun b_b_ b_l_ b_c_ at0_ v_ i_ w => store_put8.L1 b_b_ b_l_ b_c_ at0_ v_ i_ w  R)) h)
theorem store_put8.sound (b_b : Option Addr) (b_l b_c : Nat) (at0 v : Int) (w : World) (R : Option Addr → Nat → Nat → World → Prop) (h : store_put8.B0 b_b b_l b_c at0 v w R) : store_put8.Call b_b b_l b_c at0 v w R := by
  have hc := calls_of_block (args := #[.slice b_b b_l b_c, .int .i64 at0, .int .i64 v]) Tryz.func291 (body := (Tryz.f291.body.getD .skip)) (by kernel_rfl) (by kernel_rfl) (args_slot _) (store_put8.B0_sound b_b b_l b_c at0 v w h)
  exact hc.mono fun e w' he => by
    obtain ⟨v, rfl, hv⟩ := he
    exact store_put8.RV_elim hv
end Go.Proofs.Qxb6500430aGreat
