import Derived.Test.Qxb6500424aGreatSig
set_option maxRecDepth 100000
set_option linter.unusedVariables false
open Go.Vc
namespace Go.Proofs.Qxb6500424aGreat
def frame_Link_Encode.L1b (l payload_b : Option Addr) (payload_l payload_c : Nat) (n : Int) (raw_b : Option Addr) (raw_l raw_c u : Nat) (i : Int) (w : World)  (N1 : Option Addr → Option Addr → Nat → Nat → Int → Option Addr → Nat → Nat → Nat → Int → World → Prop) (R : Option Addr → Nat → Nat → Int → World → Prop) : Prop :=
  Bm (decide (i < n)) (
    Pn payload_b fun a =>
    (0 ≤ i ∧ i < ((payload_l : Nat) : Int)) ∧
    LdI .u8 (Addr.add a (i.toNat * 1)) w fun x66 =>
    Pn raw_b fun a_1 =>
    (0 ≤ (IntKind.i64.wrap ((4 : Int) + i)) ∧ (IntKind.i64.wrap ((4 : Int) + i)) < ((raw_l : Nat) : Int)) ∧
    Sts [.int .u8 x66] (Addr.add a_1 ((IntKind.i64.wrap ((4 : Int) + i)).toNat * 1)) 0 w fun w1 =>
    Pn payload_b fun a_2 =>
    (0 ≤ i ∧ i < ((payload_l : Nat) : Int)) ∧
    LdI .u8 (Addr.add a_2 (i.toNat * 1)) w1 fun x71 =>
    frame_Sum_Add.Call (some ⟨u, 0, none⟩) x71 w1 fun w2 =>
    N1 l payload_b payload_l payload_c n raw_b raw_l raw_c u (IntKind.i64.wrap (i + (1 : Int))) w2) (
    frame_Sum_A.Call (some ⟨u, 0, none⟩) w fun r76 w3 =>
    Pn raw_b fun a_3 =>
    (0 ≤ (IntKind.i64.wrap ((4 : Int) + n)) ∧ (IntKind.i64.wrap ((4 : Int) + n)) < ((raw_l : Nat) : Int)) ∧
    Sts [.int .u8 r76] (Addr.add a_3 ((IntKind.i64.wrap ((4 : Int) + n)).toNat * 1)) 0 w3 fun w4 =>
    frame_Sum_B.Call (some ⟨u, 0, none⟩) w4 fun r82 w5 =>
    Pn raw_b fun a_4 =>
    (0 ≤ (IntKind.i64.wrap ((IntKind.i64.wrap ((4 : Int) + n)) + (1 : Int))) ∧ (IntKind.i64.wrap ((IntKind.i64.wrap ((4 : Int) + n)) + (1 : Int))) < ((raw_l : Nat) : Int)) ∧
    Sts [.int .u8 r82] (Addr.add a_4 ((IntKind.i64.wrap ((IntKind.i64.wrap ((4 : Int) + n)) + (1 : Int))).toNat * 1)) 0 w5 fun w6 =>
    frame_Link_count.Call l (0 : Int) w6 fun w7 =>
    R raw_b raw_l raw_c (0 : Int) w7)
theorem frame_Link_Encode.L1b_eq (l payload_b : Option Addr) (payload_l payload_c : Nat) (n : Int) (raw_b : Option Addr) (raw_l raw_c u : Nat) (i : Int) (w : World)  (N1 : Option Addr → Option Addr → Nat → Nat → Int → Option Addr → Nat → Nat → Nat → Int → World → Prop) (R : Option Addr → Nat → Nat → Int → World → Prop)  :
    (
  Bm (decide (i < n)) (
    Pn payload_b fun a =>
    (0 ≤ i ∧ i < ((payload_l : Nat) : Int)) ∧
    LdI .u8 (Addr.add a (i.toNat * 1)) w fun x66 =>
    Pn raw_b fun a_1 =>
    (0 ≤ (IntKind.i64.wrap ((4 : Int) + i)) ∧ (IntKind.i64.wrap ((4 : Int) + i)) < ((raw_l : Nat) : Int)) ∧
    Sts [.int .u8 x66] (Addr.add a_1 ((IntKind.i64.wrap ((4 : Int) + i)).toNat * 1)) 0 w fun w1 =>
    Pn payload_b fun a_2 =>
    (0 ≤ i ∧ i < ((payload_l : Nat) : Int)) ∧
    LdI .u8 (Addr.add a_2 (i.toNat * 1)) w1 fun x71 =>
    frame_Sum_Add.Call (some ⟨u, 0, none⟩) x71 w1 fun w2 =>
    N1 l payload_b payload_l payload_c n raw_b raw_l raw_c u (IntKind.i64.wrap (i + (1 : Int))) w2) (
    frame_Sum_A.Call (some ⟨u, 0, none⟩) w fun r76 w3 =>
    Pn raw_b fun a_3 =>
    (0 ≤ (IntKind.i64.wrap ((4 : Int) + n)) ∧ (IntKind.i64.wrap ((4 : Int) + n)) < ((raw_l : Nat) : Int)) ∧
    Sts [.int .u8 r76] (Addr.add a_3 ((IntKind.i64.wrap ((4 : Int) + n)).toNat * 1)) 0 w3 fun w4 =>
    frame_Sum_B.Call (some ⟨u, 0, none⟩) w4 fun r82 w5 =>
    Pn raw_b fun a_4 =>
    (0 ≤ (IntKind.i64.wrap ((IntKind.i64.wrap ((4 : Int) + n)) + (1 : Int))) ∧ (IntKind.i64.wrap ((IntKind.i64.wrap ((4 : Int) + n)) + (1 : Int))) < ((raw_l : Nat) : Int)) ∧
    Sts [.int .u8 r82] (Addr.add a_4 ((IntKind.i64.wrap ((IntKind.i64.wrap ((4 : Int) + n)) + (1 : Int))).toNat * 1)) 0 w5 fun w6 =>
    frame_Link_count.Call l (0 : Int) w6 fun w7 =>
    R raw_b raw_l raw_c (0 : Int) w7)) = kstep Tryz.prog 87 Tryz.f163.results.toList (Tryz.f163.body.getD .skip) (frame_Link_Encode.RV R) (kvc Tryz.prog 87 Tryz.f163.results.toList (Tryz.f163.body.getD .skip) (frame_Link_Encode.RV R) [([(0, [1, 1, 1, 1, 1, 1, 1, 1, 1, 1, 1, 1, 0, 1, 0, 0]), (2, [1, 1, 1, 1, 1, 1, 1, 1, 1, 1, 1, 1, 0, 1, 0, 0]), (1, [0]), (0, [1, 1, 1, 1, 1, 1, 1, 1, 1, 1, 1, 1, 1])], fun σ w => dP (slotOf σ 0) fun l_ => dL (slotOf σ 3) fun payload_b_ payload_l_ payload_c_ => dI .i64 (slotOf σ 10) fun n_ => dL (slotOf σ 11) fun raw_b_ raw_l_ raw_c_ => dK (slotOf σ 12) fun u_ => dI .i64 (slotOf σ 13) fun i_ => N1 l_ payload_b_ payload_l_ payload_c_ n_ raw_b_ raw_l_ raw_c_ u_ i_ w)] 2000) [(0, [1, 1, 1, 1, 1, 1, 1, 1, 1, 1, 1, 1, 0, 1, 0, 0]), (2, [1, 1, 1, 1, 1, 1, 1, 1, 1, 1, 1, 1, 0, 1, 0, 0]), (1, [0]), (0, [1, 1, 1, 1, 1, 1, 1, 1, 1, 1, 1, 1, 1])] [(0, .pointer l), (3, .slice payload_b payload_l payload_c), (10, .int .i64 n), (11, .slice raw_b raw_l raw_c), (12, .pointer (some ⟨u, 0, none⟩)), (13, .int .i64 i)] w := by kernel_rfl
theorem frame_Link_Encode.L1b_sound {R : Option Addr → Nat → Nat → Int → World → Prop} {N1 : Option Addr → Option Addr → Nat → Nat → Int → Option Addr → Nat → Nat → Nat → Int → World → Prop} (hN1 : ∀ l payload_b payload_l payload_c n raw_b raw_l raw_c u i w, N1 l payload_b payload_l payload_c n raw_b raw_l raw_c u i w → KW Tryz.prog 163 87 (frame_Link_Encode.RV R) ([(0, [1, 1, 1, 1, 1, 1, 1, 1, 1, 1, 1, 1, 0, 1, 0, 0]), (2, [1, 1, 1, 1, 1, 1, 1, 1, 1, 1, 1, 1, 0, 1, 0, 0]), (1, [0]), (0, [1, 1, 1, 1, 1, 1, 1, 1, 1, 1, 1, 1, 1])].map (toItem (Tryz.f163.body.getD .skip))) [(0, .pointer l), (3, .slice payload_b payload_l payload_c), (10, .int .i64 n), (11, .slice raw_b raw_l raw_c), (12, .pointer (some ⟨u, 0, none⟩)), (13, .int .i64 i)] w) (l payload_b : Option Addr) (payload_l payload_c : Nat) (n : Int) (raw_b : Option Addr) (raw_l raw_c u : Nat) (i : Int) (w : World) (h : frame_Link_Encode.L1b l payload_b payload_l payload_c n raw_b raw_l raw_c u i w  N1 R) :
    KW Tryz.prog 163 87 (frame_Link_Encode.RV R) ([(0, [1, 1, 1, 1, 1, 1, 1, 1, 1, 1, 1, 1, 0, 1, 0, 0]), (2, [1, 1, 1, 1, 1, 1, 1, 1, 1, 1, 1, 1, 0, 1, 0, 0]), (1, [0]), (0, [1, 1, 1, 1, 1, 1, 1, 1, 1, 1, 1, 1, 1])].map (toItem (Tryz.f163.body.getD .skip))) [(0, .pointer l), (3, .slice payload_b payload_l payload_c), (10, .int .i64 n), (11, .slice raw_b raw_l raw_c), (12, .pointer (some ⟨u, 0, none⟩)), (13, .int .i64 i)] w := by
  exact block_spec Tryz.func163 Tryz.mixed (stops_cons (fun σ w h => by
      obtain ⟨l_, e0, h⟩ := dP_elim h
      obtain ⟨payload_b_, payload_l_, payload_c_, e1, h⟩ := dL_elim h
      obtain ⟨n_, e2, h⟩ := dI_elim h
      obtain ⟨raw_b_, raw_l_, raw_c_, e3, h⟩ := dL_elim h
      obtain ⟨u_, e4, h⟩ := dK_elim h
      obtain ⟨i_, e5, h⟩ := dI_elim h
      exact (hN1 l_ payload_b_ payload_l_ payload_c_ n_ raw_b_ raw_l_ raw_c_ u_ i_ w h).weaken (Sub.cons (Sub.cons (Sub.cons (Sub.cons (Sub.cons (Sub.cons (Sub.nil _) e5) e4) e3) e2) e1) e0)) stops_nil) (Eq.mp (frame_Link_Encode.L1b_eq l payload_b payload_l payload_c n raw_b raw_l raw_c u i w  N1 R ) h)
def frame_Link_Encode.L1 (l payload_b : Option Addr) (payload_l payload_c : Nat) (n : Int) (raw_b : Option Addr) (raw_l raw_c u : Nat) (i : Int) (w : World)  (R : Option Addr → Nat → Nat → Int → World → Prop) : Prop :=
  ∃ (I : Nat → Option Addr → Option Addr → Nat → Nat → Int → Option Addr → Nat → Nat → Nat → Int → World → Prop) (m : Nat), I m l payload_b payload_l payload_c n raw_b raw_l raw_c u i w ∧ ∀ m l payload_b payload_l payload_c n raw_b raw_l raw_c u i w, I m l payload_b payload_l payload_c n raw_b raw_l raw_c u i w → frame_Link_Encode.L1b l payload_b payload_l payload_c n raw_b raw_l raw_c u i w  (fun l' payload_b' payload_l' payload_c' n' raw_b' raw_l' raw_c' u' i' w' => ∃ m', m' < m ∧ I m' l' payload_b' payload_l' payload_c' n' raw_b' raw_l' raw_c' u' i' w') R
theorem frame_Link_Encode.L1_sound {R : Option Addr → Nat → Nat → Int → World → Prop}  (l payload_b : Option Addr) (payload_l payload_c : Nat) (n : Int) (raw_b : Option Addr) (raw_l raw_c u : Nat) (i : Int) (w : World) (h : frame_Link_Encode.L1 l payload_b payload_l payload_c n raw_b raw_l raw_c u i w  R) :
    KW Tryz.prog 163 87 (frame_Link_Encode.RV R) ([(0, [1, 1, 1, 1, 1, 1, 1, 1, 1, 1, 1, 1, 0, 1, 0, 0]), (2, [1, 1, 1, 1, 1, 1, 1, 1, 1, 1, 1, 1, 0, 1, 0, 0]), (1, [0]), (0, [1, 1, 1, 1, 1, 1, 1, 1, 1, 1, 1, 1, 1])].map (toItem (Tryz.f163.body.getD .skip))) [(0, .pointer l), (3, .slice payload_b payload_l payload_c), (10, .int .i64 n), (11, .slice raw_b raw_l raw_c), (12, .pointer (some ⟨u, 0, none⟩)), (13, .int .i64 i)] w := by
  obtain ⟨I, m, hBase, hr⟩ := h
  refine KW.loop (fun m σ w => ∃ (l payload_b : Option Addr) (payload_l payload_c : Nat) (n : Int) (raw_b : Option Addr) (raw_l raw_c u : Nat) (i : Int), σ = [(0, .pointer l), (3, .slice payload_b payload_l payload_c), (10, .int .i64 n), (11, .slice raw_b raw_l raw_c), (12, .pointer (some ⟨u, 0, none⟩)), (13, .int .i64 i)] ∧ I m l payload_b payload_l payload_c n raw_b raw_l raw_c u i w) ?_ m _ w ⟨l, payload_b, payload_l, payload_c, n, raw_b, raw_l, raw_c, u, i, rfl, hBase⟩
  rintro m ih σ w ⟨l, payload_b, payload_l, payload_c, n, raw_b, raw_l, raw_c, u, i, rfl, hI⟩
  exact frame_Link_Encode.L1b_sound  (N1 := fun l' payload_b' payload_l' payload_c' n' raw_b' raw_l' raw_c' u' i' w' => ∃ m', m' < m ∧ I m' l' payload_b' payload_l' payload_c' n' raw_b' raw_l' raw_c' u' i' w') (fun l' payload_b' payload_l' payload_c' n' raw_b' raw_l' raw_c' u' i' w' hx => by obtain ⟨m', hlt, hI'⟩ := hx; exact ih m' hlt _ w' ⟨l', payload_b', payload_l', payload_c', n', raw_b', raw_l', raw_c', u', i', rfl, hI'⟩) l payload_b payload_l payload_c n raw_b raw_l raw_c u i w (hr m l payload_b payload_l payload_c n raw_b raw_l raw_c u i w hI)
def frame_Link_Encode.B2 (l : Option Addr) (dst typ : Int) (payload_b : Option Addr) (payload_l payload_c : Nat) (t25 : Bool) (w : World)   (R : Option Addr → Nat → Nat → Int → World → Prop) : Prop :=
  Bm t25 (
    R none 0 0 (6 : Int) w) (
    Bm (decide (((payload_l : Nat) : Int) > (24 : Int))) (
      R none 0 0 (2 : Int) w) (
      Make 5 (.int .u8 (0 : Int)) 1 1 (IntKind.i64.wrap ((IntKind.i64.wrap ((4 : Int) + ((payload_l : Nat) : Int))) + (2 : Int))) (IntKind.i64.wrap ((IntKind.i64.wrap ((4 : Int) + ((payload_l : Nat) : Int))) + (2 : Int))) w fun b33 w1 =>
      (0 ≤ (0 : Int) ∧ (0 : Int) < (((IntKind.i64.wrap ((IntKind.i64.wrap ((4 : Int) + ((payload_l : Nat) : Int))) + (2 : Int))).toNat : Nat) : Int)) ∧
      Sts [.int .u8 (IntKind.u8.wrap dst)] ⟨b33, 0, none⟩ 0 w1 fun w2 =>
      Pn l fun a =>
      LdI .u8 a w2 fun x42 =>
      (0 ≤ (1 : Int) ∧ (1 : Int) < (((IntKind.i64.wrap ((IntKind.i64.wrap ((4 : Int) + ((payload_l : Nat) : Int))) + (2 : Int))).toNat : Nat) : Int)) ∧
      Sts [.int .u8 x42] ⟨b33, 1, none⟩ 0 w2 fun w3 =>
      (0 ≤ (2 : Int) ∧ (2 : Int) < (((IntKind.i64.wrap ((IntKind.i64.wrap ((4 : Int) + ((payload_l : Nat) : Int))) + (2 : Int))).toNat : Nat) : Int)) ∧
      Sts [.int .u8 (IntKind.u8.wrap typ)] ⟨b33, 2, none⟩ 0 w3 fun w4 =>
      (0 ≤ (3 : Int) ∧ (3 : Int) < (((IntKind.i64.wrap ((IntKind.i64.wrap ((4 : Int) + ((payload_l : Nat) : Int))) + (2 : Int))).toNat : Nat) : Int)) ∧
      Sts [.int .u8 (IntKind.u8.wrap ((payload_l : Nat) : Int))] ⟨b33, 3, none⟩ 0 w4 fun w5 =>
      New (.cells #[.int .u8 (0 : Int), .int .u8 (0 : Int)] 221) w5 fun u_ w6 =>
      (0 ≤ (4 : Int) ∧ (4 : Int) ≤ (((IntKind.i64.wrap ((IntKind.i64.wrap ((4 : Int) + ((payload_l : Nat) : Int))) + (2 : Int))).toNat : Nat) : Int)) ∧
      frame_Sum_AddAll.Call (some ⟨u_, 0, none⟩) (slBase (some (⟨b33, 0, none⟩ : Addr)) ((0 : Nat) : Int) (((IntKind.i64.wrap ((IntKind.i64.wrap ((4 : Int) + ((payload_l : Nat) : Int))) + (2 : Int))).toNat : Nat) : Int) 1) ((4 : Int).toNat - ((0 : Nat) : Int).toNat) ((((IntKind.i64.wrap ((IntKind.i64.wrap ((4 : Int) + ((payload_l : Nat) : Int))) + (2 : Int))).toNat : Nat) : Int).toNat - ((0 : Nat) : Int).toNat) w6 fun w7 =>
      frame_Link_Encode.L1 l payload_b payload_l payload_c ((payload_l : Nat) : Int) (some ⟨b33, 0, none⟩) ((IntKind.i64.wrap ((IntKind.i64.wrap ((4 : Int) + ((payload_l : Nat) : Int))) + (2 : Int))).toNat) ((IntKind.i64.wrap ((IntKind.i64.wrap ((4 : Int) + ((payload_l : Nat) : Int))) + (2 : Int))).toNat) u_ (0 : Int) w7  R))
theorem frame_Link_Encode.B2_eq (l : Option Addr) (dst typ : Int) (payload_b : Option Addr) (payload_l payload_c : Nat) (t25 : Bool) (w : World)   (R : Option Addr → Nat → Nat → Int → World → Prop) (sL1 : Option Addr → Option Addr → Nat → Nat → Int → Option Addr → Nat → Nat → Nat → Int → World → Prop) :
    (
  Bm t25 (
    R none 0 0 (6 : Int) w) (
    Bm (decide (((payload_l : Nat) : Int) > (24 : Int))) (
      R none 0 0 (2 : Int) w) (
      Make 5 (.int .u8 (0 : Int)) 1 1 (IntKind.i64.wrap ((IntKind.i64.wrap ((4 : Int) + ((payload_l : Nat) : Int))) + (2 : Int))) (IntKind.i64.wrap ((IntKind.i64.wrap ((4 : Int) + ((payload_l : Nat) : Int))) + (2 : Int))) w fun b33 w1 =>
      (0 ≤ (0 : Int) ∧ (0 : Int) < (((IntKind.i64.wrap ((IntKind.i64.wrap ((4 : Int) + ((payload_l : Nat) : Int))) + (2 : Int))).toNat : Nat) : Int)) ∧
      Sts [.int .u8 (IntKind.u8.wrap dst)] ⟨b33, 0, none⟩ 0 w1 fun w2 =>
      Pn l fun a =>
      LdI .u8 a w2 fun x42 =>
      (0 ≤ (1 : Int) ∧ (1 : Int) < (((IntKind.i64.wrap ((IntKind.i64.wrap ((4 : Int) + ((payload_l : Nat) : Int))) + (2 : Int))).toNat : Nat) : Int)) ∧
      Sts [.int .u8 x42] ⟨b33, 1, none⟩ 0 w2 fun w3 =>
      (0 ≤ (2 : Int) ∧ (2 : Int) < (((IntKind.i64.wrap ((IntKind.i64.wrap ((4 : Int) + ((payload_l : Nat) : Int))) + (2 : Int))).toNat : Nat) : Int)) ∧
      Sts [.int .u8 (IntKind.u8.wrap typ)] ⟨b33, 2, none⟩ 0 w3 fun w4 =>
      (0 ≤ (3 : Int) ∧ (3 : Int) < (((IntKind.i64.wrap ((IntKind.i64.wrap ((4 : Int) + ((payload_l : Nat) : Int))) + (2 : Int))).toNat : Nat) : Int)) ∧
      Sts [.int .u8 (IntKind.u8.wrap ((payload_l : Nat) : Int))] ⟨b33, 3, none⟩ 0 w4 fun w5 =>
      New (.cells #[.int .u8 (0 : Int), .int .u8 (0 : Int)] 221) w5 fun u_ w6 =>
      (0 ≤ (4 : Int) ∧ (4 : Int) ≤ (((IntKind.i64.wrap ((IntKind.i64.wrap ((4 : Int) + ((payload_l : Nat) : Int))) + (2 : Int))).toNat : Nat) : Int)) ∧
      frame_Sum_AddAll.Call (some ⟨u_, 0, none⟩) (slBase (some (⟨b33, 0, none⟩ : Addr)) ((0 : Nat) : Int) (((IntKind.i64.wrap ((IntKind.i64.wrap ((4 : Int) + ((payload_l : Nat) : Int))) + (2 : Int))).toNat : Nat) : Int) 1) ((4 : Int).toNat - ((0 : Nat) : Int).toNat) ((((IntKind.i64.wrap ((IntKind.i64.wrap ((4 : Int) + ((payload_l : Nat) : Int))) + (2 : Int))).toNat : Nat) : Int).toNat - ((0 : Nat) : Int).toNat) w6 fun w7 =>
      sL1 l payload_b payload_l payload_c ((payload_l : Nat) : Int) (some ⟨b33, 0, none⟩) ((IntKind.i64.wrap ((IntKind.i64.wrap ((4 : Int) + ((payload_l : Nat) : Int))) + (2 : Int))).toNat) ((IntKind.i64.wrap ((IntKind.i64.wrap ((4 : Int) + ((payload_l : Nat) : Int))) + (2 : Int))).toNat) u_ (0 : Int) w7))) = kstep Tryz.prog 87 Tryz.f163.results.toList (Tryz.f163.body.getD .skip) (frame_Link_Encode.RV R) (kvc Tryz.prog 87 Tryz.f163.results.toList (Tryz.f163.body.getD .skip) (frame_Link_Encode.RV R) [([(0, [1, 1, 1, 1, 1, 1, 1, 1, 1, 1, 1, 1, 0, 1, 0, 0]), (2, [1, 1, 1, 1, 1, 1, 1, 1, 1, 1, 1, 1, 0, 1, 0, 0]), (1, [0]), (0, [1, 1, 1, 1, 1, 1, 1, 1, 1, 1, 1, 1, 1])], fun σ w => dP (slotOf σ 0) fun l_ => dL (slotOf σ 3) fun payload_b_ payload_l_ payload_c_ => dI .i64 (slotOf σ 10) fun n_ => dL (slotOf σ 11) fun raw_b_ raw_l_ raw_c_ => dK (slotOf σ 12) fun u_ => dI .i64 (slotOf σ 13) fun i_ => sL1 l_ payload_b_ payload_l_ payload_c_ n_ raw_b_ raw_l_ raw_c_ u_ i_ w)] 2000) [(0, [1, 1, 0, 1]), (0, [1, 1, 1])] [(0, .pointer l), (1, .int .i64 dst), (2, .int .i64 typ), (3, .slice payload_b payload_l payload_c), (25, .bool t25)] w := by kernel_rfl
theorem frame_Link_Encode.B2_sound {R : Option Addr → Nat → Nat → Int → World → Prop}  (l : Option Addr) (dst typ : Int) (payload_b : Option Addr) (payload_l payload_c : Nat) (t25 : Bool) (w : World) (h : frame_Link_Encode.B2 l dst typ payload_b payload_l payload_c t25 w   R) :
    KW Tryz.prog 163 87 (frame_Link_Encode.RV R) ([(0, [1, 1, 0, 1]), (0, [1, 1, 1])].map (toItem (Tryz.f163.body.getD .skip))) [(0, .pointer l), (1, .int .i64 dst), (2, .int .i64 typ), (3, .slice payload_b payload_l payload_c), (25, .bool t25)] w := by
  exact block_spec Tryz.func163 Tryz.mixed (stops_cons (fun σ w h => by
      obtain ⟨l_, e0, h⟩ := dP_elim h
      obtain ⟨payload_b_, payload_l_, payload_c_, e1, h⟩ := dL_elim h
      obtain ⟨n_, e2, h⟩ := dI_elim h
      obtain ⟨raw_b_, raw_l_, raw_c_, e3, h⟩ := dL_elim h
      obtain ⟨u_, e4, h⟩ := dK_elim h
      obtain ⟨i_, e5, h⟩ := dI_elim h
      exact (frame_Link_Encode.L1_sound  l_ payload_b_ payload_l_ payload_c_ n_ raw_b_ raw_l_ raw_c_ u_ i_ w h).weaken (Sub.cons (Sub.cons (Sub.cons (Sub.cons (Sub.cons (Sub.cons (Sub.nil _) e5) e4) e3) e2) e1) e0)) stops_nil) (Eq.mp (frame_Link_Encode.B2_eq l dst typ payload_b payload_l payload_c t25 w   R (fun l_ payload_b_ payload_l_ payload_c_ n_ raw_b_ raw_l_ raw_c_ u_ i_ w => frame_Link_Encode.L1 l_ payload_b_ payload_l_ payload_c_ n_ raw_b_ raw_l_ raw_c_ u_ i_ w  R)) h)
def frame_Link_Encode.B1 (l : Option Addr) (dst typ : Int) (payload_b : Option Addr) (payload_l payload_c : Nat) (t19 : Bool) (w : World)   (R : Option Addr → Nat → Nat → Int → World → Prop) : Prop :=
  Bm t19 (
    R none 0 0 (5 : Int) w) (
    Bm (decide (typ < (0 : Int))) (
      frame_Link_Encode.B2 l dst typ payload_b payload_l payload_c true w  R) (
      frame_Link_Encode.B2 l dst typ payload_b payload_l payload_c (decide (typ > (255 : Int))) w  R))
theorem frame_Link_Encode.B1_eq (l : Option Addr) (dst typ : Int) (payload_b : Option Addr) (payload_l payload_c : Nat) (t19 : Bool) (w : World)   (R : Option Addr → Nat → Nat → Int → World → Prop) (sB2 : Option Addr → Int → Int → Option Addr → Nat → Nat → Bool → World → Prop) :
    (
  Bm t19 (
    R none 0 0 (5 : Int) w) (
    Bm (decide (typ < (0 : Int))) (
      sB2 l dst typ payload_b payload_l payload_c true w) (
      sB2 l dst typ payload_b payload_l payload_c (decide (typ > (255 : Int))) w))) = kstep Tryz.prog 87 Tryz.f163.results.toList (Tryz.f163.body.getD .skip) (frame_Link_Encode.RV R) (kvc Tryz.prog 87 Tryz.f163.results.toList (Tryz.f163.body.getD .skip) (frame_Link_Encode.RV R) [([(0, [1, 1, 0, 1]), (0, [1, 1, 1])], fun σ w => dP (slotOf σ 0) fun l_ => dI .i64 (slotOf σ 1) fun dst_ => dI .i64 (slotOf σ 2) fun typ_ => dL (slotOf σ 3) fun payload_b_ payload_l_ payload_c_ => dB (slotOf σ 25) fun t25_ => sB2 l_ dst_ typ_ payload_b_ payload_l_ payload_c_ t25_ w)] 2000) [(0, [1, 0, 1]), (0, [1, 1])] [(0, .pointer l), (1, .int .i64 dst), (2, .int .i64 typ), (3, .slice payload_b payload_l payload_c), (19, .bool t19)] w := by kernel_rfl
theorem frame_Link_Encode.B1_sound {R : Option Addr → Nat → Nat → Int → World → Prop}  (l : Option Addr) (dst typ : Int) (payload_b : Option Addr) (payload_l payload_c : Nat) (t19 : Bool) (w : World) (h : frame_Link_Encode.B1 l dst typ payload_b payload_l payload_c t19 w   R) :
    KW Tryz.prog 163 87 (frame_Link_Encode.RV R) ([(0, [1, 0, 1]), (0, [1, 1])].map (toItem (Tryz.f163.body.getD .skip))) [(0, .pointer l), (1, .int .i64 dst), (2, .int .i64 typ), (3, .slice payload_b payload_l payload_c), (19, .bool t19)] w := by
  exact block_spec Tryz.func163 Tryz.mixed (stops_cons (fun σ w h => by
      obtain ⟨l_, e0, h⟩ := dP_elim h
      obtain ⟨dst_, e1, h⟩ := dI_elim h
      obtain ⟨typ_, e2, h⟩ := dI_elim h
      obtain ⟨payload_b_, payload_l_, payload_c_, e3, h⟩ := dL_elim h
      obtain ⟨t25_, e4, h⟩ := dB_elim h
      exact (frame_Link_Encode.B2_sound  l_ dst_ typ_ payload_b_ payload_l_ payload_c_ t25_ w h).weaken (Sub.cons (Sub.cons (Sub.cons (Sub.cons (Sub.cons (Sub.nil _) e4) e3) e2) e1) e0)) stops_nil) (Eq.mp (frame_Link_Encode.B1_eq l dst typ payload_b payload_l payload_c t19 w   R (fun l_ dst_ typ_ payload_b_ payload_l_ payload_c_ t25_ w => frame_Link_Encode.B2 l_ dst_ typ_ payload_b_ payload_l_ payload_c_ t25_ w  R)) h)
def frame_Link_Encode.B0 (l : Option Addr) (dst typ : Int) (payload_b : Option Addr) (payload_l payload_c : Nat) (w : World)   (R : Option Addr → Nat → Nat → Int → World → Prop) : Prop :=
  Bm (decide (dst < (0 : Int))) (
    frame_Link_Encode.B1 l dst typ payload_b payload_l payload_c true w  R) (
    frame_Link_Encode.B1 l dst typ payload_b payload_l payload_c (decide (dst > (255 : Int))) w  R)
theorem frame_Link_Encode.B0_eq (l : Option Addr) (dst typ : Int) (payload_b : Option Addr) (payload_l payload_c : Nat) (w : World)   (R : Option Addr → Nat → Nat → Int → World → Prop) (sB1 : Option Addr → Int → Int → Option Addr → Nat → Nat → Bool → World → Prop) :
    (
  Bm (decide (dst < (0 : Int))) (
    sB1 l dst typ payload_b payload_l payload_c true w) (
    sB1 l dst typ payload_b payload_l payload_c (decide (dst > (255 : Int))) w)) = kstep Tryz.prog 87 Tryz.f163.results.toList (Tryz.f163.body.getD .skip) (frame_Link_Encode.RV R) (kvc Tryz.prog 87 Tryz.f163.results.toList (Tryz.f163.body.getD .skip) (frame_Link_Encode.RV R) [([(0, [1, 0, 1]), (0, [1, 1])], fun σ w => dP (slotOf σ 0) fun l_ => dI .i64 (slotOf σ 1) fun dst_ => dI .i64 (slotOf σ 2) fun typ_ => dL (slotOf σ 3) fun payload_b_ payload_l_ payload_c_ => dB (slotOf σ 19) fun t19_ => sB1 l_ dst_ typ_ payload_b_ payload_l_ payload_c_ t19_ w)] 2000) [(0, [])] [(0, .pointer l), (1, .int .i64 dst), (2, .int .i64 typ), (3, .slice payload_b payload_l payload_c)] w := by kernel_rfl
theorem frame_Link_Encode.B0_sound {R : Option Addr → Nat → Nat → Int → World → Prop}  (l : Option Addr) (dst typ : Int) (payload_b : Option Addr) (payload_l payload_c : Nat) (w : World) (h : frame_Link_Encode.B0 l dst typ payload_b payload_l payload_c w   R) :
    KW Tryz.prog 163 87 (frame_Link_Encode.RV R) ([(0, [])].map (toItem (Tryz.f163.body.getD .skip))) [(0, .pointer l), (1, .int .i64 dst), (2, .int .i64 typ), (3, .slice payload_b payload_l payload_c)] w := by
  exact block_spec Tryz.func163 Tryz.mixed (stops_cons (fun σ w h => by
      obtain ⟨l_, e0, h⟩ := dP_elim h
      obtain ⟨dst_, e1, h⟩ := dI_elim h
      obtain ⟨typ_, e2, h⟩ := dI_elim h
      obtain ⟨payload_b_, payload_l_, payload_c_, e3, h⟩ := dL_elim h
      obtain ⟨t19_, e4, h⟩ := dB_elim h
      exact (frame_Link_Encode.B1_sound  l_ dst_ typ_ payload_b_ payload_l_ payload_c_ t19_ w h).weaken (Sub.cons (Sub.cons (Sub.cons (Sub.cons (Sub.cons (Sub.nil _) e4) e3) e2) e1) e0)) stops_nil) (Eq.mp (frame_Link_Encode.B0_eq l dst typ payload_b payload_l payload_c w   R (fun l_ dst_ typ_ payload_b_ payload_l_ payload_c_ t19_ w => frame_Link_Encode.B1 l_ dst_ typ_ payload_b_ payload_l_ payload_c_ t19_ w  R)) h)
theorem frame_Link_Encode.sound (l : Option Addr) (dst typ : Int) (payload_b : Option Addr) (payload_l payload_c : Nat) (w : World) (R : Option Addr → Nat → Nat → Int → World → Prop) (h : frame_Link_Encode.B0 l dst typ payload_b payload_l payload_c w R) : frame_Link_Encode.Call l dst typ payload_b payload_l payload_c w R := by
  have hc := calls_of_block (args := #[.pointer l, .int .i64 dst, .int .i64 typ, .slice payload_b payload_l payload_c]) Tryz.func163 (body := (Tryz.f163.body.getD .skip)) (by kernel_rfl) (by kernel_rfl) (args_slot _) (frame_Link_Encode.B0_sound l dst typ payload_b payload_l payload_c w h)
  exact hc.mono fun e w' he => by
    obtain ⟨v, rfl, hv⟩ := he
    exact frame_Link_Encode.RV_elim hv
def conn_Conn_wipe.B0 (c : Option Addr) (w : World)   (R : World → Prop) : Prop :=
  Pn c fun a =>
  LdP a w fun x5 =>
  seg_SendBuf_Reset.Call x5 (0 : Int) w fun w1 =>
  Pn c fun a_1 =>
  LdP (a_1.add 1) w1 fun x10 =>
  seg_RecvBuf_Reset.Call x10 (0 : Int) w1 fun w2 =>
  Pn c fun a_2 =>
  LdP a_2 w2.drew fun x16 =>
  Pn c fun a_3 =>
  LdP (a_3.add 1) w2.drew fun x20 =>
  Pn c fun a_4 =>
  Sts [.pointer x16, .pointer x20, .int .i64 (0 : Int), .int .i64 (0 : Int), .bool false, .bool false, .bool false, .bool false, .int .i64 (0 : Int), .int .i64 (0 : Int), .int .i64 (0 : Int), .int .i64 (0 : Int), .int .i64 (0 : Int), .int .i64 (0 : Int)] a_4 0 w2.drew fun w3 =>
  R  w3
theorem conn_Conn_wipe.B0_eq (c : Option Addr) (w : World)   (R : World → Prop)  :
    (
  Pn c fun a =>
  LdP a w fun x5 =>
  seg_SendBuf_Reset.Call x5 (0 : Int) w fun w1 =>
  Pn c fun a_1 =>
  LdP (a_1.add 1) w1 fun x10 =>
  seg_RecvBuf_Reset.Call x10 (0 : Int) w1 fun w2 =>
  Pn c fun a_2 =>
  LdP a_2 w2.drew fun x16 =>
  Pn c fun a_3 =>
  LdP (a_3.add 1) w2.drew fun x20 =>
  Pn c fun a_4 =>
  Sts [.pointer x16, .pointer x20, .int .i64 (0 : Int), .int .i64 (0 : Int), .bool false, .bool false, .bool false, .bool false, .int .i64 (0 : Int), .int .i64 (0 : Int), .int .i64 (0 : Int), .int .i64 (0 : Int), .int .i64 (0 : Int), .int .i64 (0 : Int)] a_4 0 w2.drew fun w3 =>
  R  w3) = kstep Tryz.prog 23 Tryz.f164.results.toList (Tryz.f164.body.getD .skip) (conn_Conn_wipe.RV R) (kvc Tryz.prog 23 Tryz.f164.results.toList (Tryz.f164.body.getD .skip) (conn_Conn_wipe.RV R) [] 2000) [(0, [])] [(0, .pointer c)] w := by kernel_rfl
theorem conn_Conn_wipe.B0_sound {R : World → Prop}  (c : Option Addr) (w : World) (h : conn_Conn_wipe.B0 c w   R) :
    KW Tryz.prog 164 23 (conn_Conn_wipe.RV R) ([(0, [])].map (toItem (Tryz.f164.body.getD .skip))) [(0, .pointer c)] w := by
  exact block_spec Tryz.func164 Tryz.mixed stops_nil (Eq.mp (conn_Conn_wipe.B0_eq c w   R ) h)
theorem conn_Conn_wipe.sound (c : Option Addr) (w : World) (R : World → Prop) (h : conn_Conn_wipe.B0 c w R) : conn_Conn_wipe.Call c w R := by
  have hc := calls_of_block (args := #[.pointer c]) Tryz.func164 (body := (Tryz.f164.body.getD .skip)) (by kernel_rfl) (by kernel_rfl) (args_slot _) (conn_Conn_wipe.B0_sound c w h)
  exact hc.mono fun e w' he => by
    obtain ⟨v, rfl, hv⟩ := he
    exact conn_Conn_wipe.RV_elim hv
def conn_Conn_fail.B0 (c : Option Addr) (why : Int) (w : World)   (R : World → Prop) : Prop :=
  conn_Conn_wipe.Call c w fun w1 =>
  Pn c fun a =>
  Sts [.int .i64 (4 : Int)] (a.add 2) 0 w1 fun w2 =>
  Pn c fun a_1 =>
  Sts [.int .i64 why] (a_1.add 3) 0 w2 fun w3 =>
  Pn c fun a_2 =>
  Sts [.int .i64 (10 : Int)] (a_2.add 13) 0 w3 fun w4 =>
  R  w4
theorem conn_Conn_fail.B0_eq (c : Option Addr) (why : Int) (w : World)   (R : World → Prop)  :
    (
  conn_Conn_wipe.Call c w fun w1 =>
  Pn c fun a =>
  Sts [.int .i64 (4 : Int)] (a.add 2) 0 w1 fun w2 =>
  Pn c fun a_1 =>
  Sts [.int .i64 why] (a_1.add 3) 0 w2 fun w3 =>
  Pn c fun a_2 =>
  Sts [.int .i64 (10 : Int)] (a_2.add 13) 0 w3 fun w4 =>
  R  w4) = kstep Tryz.prog 16 Tryz.f165.results.toList (Tryz.f165.body.getD .skip) (conn_Conn_fail.RV R) (kvc Tryz.prog 16 Tryz.f165.results.toList (Tryz.f165.body.getD .skip) (conn_Conn_fail.RV R) [] 2000) [(0, [])] [(0, .pointer c), (1, .int .i64 why)] w := by kernel_rfl
theorem conn_Conn_fail.B0_sound {R : World → Prop}  (c : Option Addr) (why : Int) (w : World) (h : conn_Conn_fail.B0 c why w   R) :
    KW Tryz.prog 165 16 (conn_Conn_fail.RV R) ([(0, [])].map (toItem (Tryz.f165.body.getD .skip))) [(0, .pointer c), (1, .int .i64 why)] w := by
  exact block_spec Tryz.func165 Tryz.mixed stops_nil (Eq.mp (conn_Conn_fail.B0_eq c why w   R ) h)
theorem conn_Conn_fail.sound (c : Option Addr) (why : Int) (w : World) (R : World → Prop) (h : conn_Conn_fail.B0 c why w R) : conn_Conn_fail.Call c why w R := by
  have hc := calls_of_block (args := #[.pointer c, .int .i64 why]) Tryz.func165 (body := (Tryz.f165.body.getD .skip)) (by kernel_rfl) (by kernel_rfl) (args_slot _) (conn_Conn_fail.B0_sound c why w h)
  exact hc.mono fun e w' he => by
    obtain ⟨v, rfl, hv⟩ := he
    exact conn_Conn_fail.RV_elim hv
def conn_Conn_arm.B0 (c : Option Addr) (w : World)   (R : World → Prop) : Prop :=
  Pn c fun a =>
  LdI .i64 (a.add 10) w fun x5 =>
  Bm (x5 == (0 : Int)) (
    Pn c fun a_1 =>
    LdI .i64 (a_1.add 11) w fun x11 =>
    0 ≤ (IntKind.u64.wrap x11) ∧
    Pn c fun a_2 =>
    Sts [.int .i64 (IntKind.i64.wrap ((2 : Int) * 2 ^ (min (IntKind.u64.wrap x11).toNat IntKind.i64.bits)))] (a_2.add 10) 0 w fun w1 =>
    R  w1) (
    R  w)
theorem conn_Conn_arm.B0_eq (c : Option Addr) (w : World)   (R : World → Prop)  :
    (
  Pn c fun a =>
  LdI .i64 (a.add 10) w fun x5 =>
  Bm (x5 == (0 : Int)) (
    Pn c fun a_1 =>
    LdI .i64 (a_1.add 11) w fun x11 =>
    0 ≤ (IntKind.u64.wrap x11) ∧
    Pn c fun a_2 =>
    Sts [.int .i64 (IntKind.i64.wrap ((2 : Int) * 2 ^ (min (IntKind.u64.wrap x11).toNat IntKind.i64.bits)))] (a_2.add 10) 0 w fun w1 =>
    R  w1) (
    R  w)) = kstep Tryz.prog 16 Tryz.f166.results.toList (Tryz.f166.body.getD .skip) (conn_Conn_arm.RV R) (kvc Tryz.prog 16 Tryz.f166.results.toList (Tryz.f166.body.getD .skip) (conn_Conn_arm.RV R) [] 2000) [(0, [])] [(0, .pointer c)] w := by kernel_rfl
theorem conn_Conn_arm.B0_sound {R : World → Prop}  (c : Option Addr) (w : World) (h : conn_Conn_arm.B0 c w   R) :
    KW Tryz.prog 166 16 (conn_Conn_arm.RV R) ([(0, [])].map (toItem (Tryz.f166.body.getD .skip))) [(0, .pointer c)] w := by
  exact block_spec Tryz.func166 Tryz.mixed stops_nil (Eq.mp (conn_Conn_arm.B0_eq c w   R ) h)
theorem conn_Conn_arm.sound (c : Option Addr) (w : World) (R : World → Prop) (h : conn_Conn_arm.B0 c w R) : conn_Conn_arm.Call c w R := by
  have hc := calls_of_block (args := #[.pointer c]) Tryz.func166 (body := (Tryz.f166.body.getD .skip)) (by kernel_rfl) (by kernel_rfl) (args_slot _) (conn_Conn_arm.B0_sound c w h)
  exact hc.mono fun e w' he => by
    obtain ⟨v, rfl, hv⟩ := he
    exact conn_Conn_arm.RV_elim hv
def conn_Conn_again.B0 (c : Option Addr) (w : World)   (R : Int → Int → Int → Int → Int → Int → Option Addr → Nat → Nat → World → Prop) : Prop :=
  New (.cells #[.int .i64 (0 : Int), .int .i64 (0 : Int), .int .i64 (0 : Int), .int .i64 (0 : Int), .int .i64 (0 : Int), .int .i64 (0 : Int), .slice none 0 0] 177) w fun b2 w1 =>
  Pn c fun a =>
  LdI .i64 (a.add 2) w1 fun x8 =>
  Bm (x8 == (1 : Int)) (
    Pn c fun a_1 =>
    LdI .i64 (a_1.add 8) w1 fun x14 =>
    conn_Conn_mk.Call c (1 : Int) x14 none 0 0 w1 fun r15_0 r15_1 r15_2 r15_3 r15_4 r15_5 r15_6_b r15_6_l r15_6_c w2 =>
    Sts [.int .i64 r15_0, .int .i64 r15_1, .int .i64 r15_2, .int .i64 r15_3, .int .i64 r15_4, .int .i64 r15_5, .slice r15_6_b r15_6_l r15_6_c] ⟨b2, 0, none⟩ 0 w2 fun w3 =>
    LdI .i64 ⟨b2, 0, none⟩ w3 fun r_0 =>
    LdI .i64 ⟨b2, 1, none⟩ w3 fun r_1 =>
    LdI .i64 ⟨b2, 2, none⟩ w3 fun r_2 =>
    LdI .i64 ⟨b2, 3, none⟩ w3 fun r_3 =>
    LdI .i64 ⟨b2, 4, none⟩ w3 fun r_4 =>
    LdI .i64 ⟨b2, 5, none⟩ w3 fun r_5 =>
    LdL ⟨b2, 6, none⟩ w3 fun r_6_b r_6_l r_6_c =>
    R r_0 r_1 r_2 r_3 r_4 r_5 r_6_b r_6_l r_6_c w3) (
    Pn c fun a_2 =>
    LdI .i64 (a_2.add 2) w1 fun x19 =>
    Bm (x19 == (2 : Int)) (
      Pn c fun a_3 =>
      LdI .i64 (a_3.add 8) w1 fun x25 =>
      conn_Conn_mk.Call c (3 : Int) x25 none 0 0 w1 fun r26_0 r26_1 r26_2 r26_3 r26_4 r26_5 r26_6_b r26_6_l r26_6_c w4 =>
      Sts [.int .i64 r26_0, .int .i64 r26_1, .int .i64 r26_2, .int .i64 r26_3, .int .i64 r26_4, .int .i64 r26_5, .slice r26_6_b r26_6_l r26_6_c] ⟨b2, 0, none⟩ 0 w4 fun w5 =>
      LdI .i64 ⟨b2, 0, none⟩ w5 fun r_0_1 =>
      LdI .i64 ⟨b2, 1, none⟩ w5 fun r_1_1 =>
      LdI .i64 ⟨b2, 2, none⟩ w5 fun r_2_1 =>
      LdI .i64 ⟨b2, 3, none⟩ w5 fun r_3_1 =>
      LdI .i64 ⟨b2, 4, none⟩ w5 fun r_4_1 =>
      LdI .i64 ⟨b2, 5, none⟩ w5 fun r_5_1 =>
      LdL ⟨b2, 6, none⟩ w5 fun r_6_b_1 r_6_l_1 r_6_c_1 =>
      R r_0_1 r_1_1 r_2_1 r_3_1 r_4_1 r_5_1 r_6_b_1 r_6_l_1 r_6_c_1 w5) (
      Pn c fun a_4 =>
      LdP a_4 w1 fun x31 =>
      seg_SendBuf_Again.Call x31 (12 : Int) w1 fun r32_0 r32_1_b r32_1_l r32_1_c w6 =>
      Bm (decide (((r32_1_l : Nat) : Int) > (0 : Int))) (
        conn_Conn_mk.Call c (2 : Int) r32_0 r32_1_b r32_1_l r32_1_c w6 fun r41_0 r41_1 r41_2 r41_3 r41_4 r41_5 r41_6_b r41_6_l r41_6_c w7 =>
        Sts [.int .i64 r41_0, .int .i64 r41_1, .int .i64 r41_2, .int .i64 r41_3, .int .i64 r41_4, .int .i64 r41_5, .slice r41_6_b r41_6_l r41_6_c] ⟨b2, 0, none⟩ 0 w7 fun w8 =>
        LdI .i64 ⟨b2, 0, none⟩ w8 fun r_0_2 =>
        LdI .i64 ⟨b2, 1, none⟩ w8 fun r_1_2 =>
        LdI .i64 ⟨b2, 2, none⟩ w8 fun r_2_2 =>
        LdI .i64 ⟨b2, 3, none⟩ w8 fun r_3_2 =>
        LdI .i64 ⟨b2, 4, none⟩ w8 fun r_4_2 =>
        LdI .i64 ⟨b2, 5, none⟩ w8 fun r_5_2 =>
        LdL ⟨b2, 6, none⟩ w8 fun r_6_b_2 r_6_l_2 r_6_c_2 =>
        R r_0_2 r_1_2 r_2_2 r_3_2 r_4_2 r_5_2 r_6_b_2 r_6_l_2 r_6_c_2 w8) (
        conn_Conn_mk.Call c (6 : Int) r32_0 none 0 0 w6 fun r44_0 r44_1 r44_2 r44_3 r44_4 r44_5 r44_6_b r44_6_l r44_6_c w9 =>
        Sts [.int .i64 r44_0, .int .i64 r44_1, .int .i64 r44_2, .int .i64 r44_3, .int .i64 r44_4, .int .i64 r44_5, .slice r44_6_b r44_6_l r44_6_c] ⟨b2, 0, none⟩ 0 w9 fun w10 =>
        LdI .i64 ⟨b2, 0, none⟩ w10 fun r_0_3 =>
        LdI .i64 ⟨b2, 1, none⟩ w10 fun r_1_3 =>
        LdI .i64 ⟨b2, 2, none⟩ w10 fun r_2_3 =>
        LdI .i64 ⟨b2, 3, none⟩ w10 fun r_3_3 =>
        LdI .i64 ⟨b2, 4, none⟩ w10 fun r_4_3 =>
        LdI .i64 ⟨b2, 5, none⟩ w10 fun r_5_3 =>
        LdL ⟨b2, 6, none⟩ w10 fun r_6_b_3 r_6_l_3 r_6_c_3 =>
        R r_0_3 r_1_3 r_2_3 r_3_3 r_4_3 r_5_3 r_6_b_3 r_6_l_3 r_6_c_3 w10)))
theorem conn_Conn_again.B0_eq (c : Option Addr) (w : World)   (R : Int → Int → Int → Int → Int → Int → Option Addr → Nat → Nat → World → Prop)  :
    (
  New (.cells #[.int .i64 (0 : Int), .int .i64 (0 : Int), .int .i64 (0 : Int), .int .i64 (0 : Int), .int .i64 (0 : Int), .int .i64 (0 : Int), .slice none 0 0] 177) w fun b2 w1 =>
  Pn c fun a =>
  LdI .i64 (a.add 2) w1 fun x8 =>
  Bm (x8 == (1 : Int)) (
    Pn c fun a_1 =>
    LdI .i64 (a_1.add 8) w1 fun x14 =>
    conn_Conn_mk.Call c (1 : Int) x14 none 0 0 w1 fun r15_0 r15_1 r15_2 r15_3 r15_4 r15_5 r15_6_b r15_6_l r15_6_c w2 =>
    Sts [.int .i64 r15_0, .int .i64 r15_1, .int .i64 r15_2, .int .i64 r15_3, .int .i64 r15_4, .int .i64 r15_5, .slice r15_6_b r15_6_l r15_6_c] ⟨b2, 0, none⟩ 0 w2 fun w3 =>
    LdI .i64 ⟨b2, 0, none⟩ w3 fun r_0 =>
    LdI .i64 ⟨b2, 1, none⟩ w3 fun r_1 =>
    LdI .i64 ⟨b2, 2, none⟩ w3 fun r_2 =>
    LdI .i64 ⟨b2, 3, none⟩ w3 fun r_3 =>
    LdI .i64 ⟨b2, 4, none⟩ w3 fun r_4 =>
    LdI .i64 ⟨b2, 5, none⟩ w3 fun r_5 =>
    LdL ⟨b2, 6, none⟩ w3 fun r_6_b r_6_l r_6_c =>
    R r_0 r_1 r_2 r_3 r_4 r_5 r_6_b r_6_l r_6_c w3) (
    Pn c fun a_2 =>
    LdI .i64 (a_2.add 2) w1 fun x19 =>
    Bm (x19 == (2 : Int)) (
      Pn c fun a_3 =>
      LdI .i64 (a_3.add 8) w1 fun x25 =>
      conn_Conn_mk.Call c (3 : Int) x25 none 0 0 w1 fun r26_0 r26_1 r26_2 r26_3 r26_4 r26_5 r26_6_b r26_6_l r26_6_c w4 =>
      Sts [.int .i64 r26_0, .int .i64 r26_1, .int .i64 r26_2, .int .i64 r26_3, .int .i64 r26_4, .int .i64 r26_5, .slice r26_6_b r26_6_l r26_6_c] ⟨b2, 0, none⟩ 0 w4 fun w5 =>
      LdI .i64 ⟨b2, 0, none⟩ w5 fun r_0_1 =>
      LdI .i64 ⟨b2, 1, none⟩ w5 fun r_1_1 =>
      LdI .i64 ⟨b2, 2, none⟩ w5 fun r_2_1 =>
      LdI .i64 ⟨b2, 3, none⟩ w5 fun r_3_1 =>
      LdI .i64 ⟨b2, 4, none⟩ w5 fun r_4_1 =>
      LdI .i64 ⟨b2, 5, none⟩ w5 fun r_5_1 =>
      LdL ⟨b2, 6, none⟩ w5 fun r_6_b_1 r_6_l_1 r_6_c_1 =>
      R r_0_1 r_1_1 r_2_1 r_3_1 r_4_1 r_5_1 r_6_b_1 r_6_l_1 r_6_c_1 w5) (
      Pn c fun a_4 =>
      LdP a_4 w1 fun x31 =>
      seg_SendBuf_Again.Call x31 (12 : Int) w1 fun r32_0 r32_1_b r32_1_l r32_1_c w6 =>
      Bm (decide (((r32_1_l : Nat) : Int) > (0 : Int))) (
        conn_Conn_mk.Call c (2 : Int) r32_0 r32_1_b r32_1_l r32_1_c w6 fun r41_0 r41_1 r41_2 r41_3 r41_4 r41_5 r41_6_b r41_6_l r41_6_c w7 =>
        Sts [.int .i64 r41_0, .int .i64 r41_1, .int .i64 r41_2, .int .i64 r41_3, .int .i64 r41_4, .int .i64 r41_5, .slice r41_6_b r41_6_l r41_6_c] ⟨b2, 0, none⟩ 0 w7 fun w8 =>
        LdI .i64 ⟨b2, 0, none⟩ w8 fun r_0_2 =>
        LdI .i64 ⟨b2, 1, none⟩ w8 fun r_1_2 =>
        LdI .i64 ⟨b2, 2, none⟩ w8 fun r_2_2 =>
        LdI .i64 ⟨b2, 3, none⟩ w8 fun r_3_2 =>
        LdI .i64 ⟨b2, 4, none⟩ w8 fun r_4_2 =>
        LdI .i64 ⟨b2, 5, none⟩ w8 fun r_5_2 =>
        LdL ⟨b2, 6, none⟩ w8 fun r_6_b_2 r_6_l_2 r_6_c_2 =>
        R r_0_2 r_1_2 r_2_2 r_3_2 r_4_2 r_5_2 r_6_b_2 r_6_l_2 r_6_c_2 w8) (
        conn_Conn_mk.Call c (6 : Int) r32_0 none 0 0 w6 fun r44_0 r44_1 r44_2 r44_3 r44_4 r44_5 r44_6_b r44_6_l r44_6_c w9 =>
        Sts [.int .i64 r44_0, .int .i64 r44_1, .int .i64 r44_2, .int .i64 r44_3, .int .i64 r44_4, .int .i64 r44_5, .slice r44_6_b r44_6_l r44_6_c] ⟨b2, 0, none⟩ 0 w9 fun w10 =>
        LdI .i64 ⟨b2, 0, none⟩ w10 fun r_0_3 =>
        LdI .i64 ⟨b2, 1, none⟩ w10 fun r_1_3 =>
        LdI .i64 ⟨b2, 2, none⟩ w10 fun r_2_3 =>
        LdI .i64 ⟨b2, 3, none⟩ w10 fun r_3_3 =>
        LdI .i64 ⟨b2, 4, none⟩ w10 fun r_4_3 =>
        LdI .i64 ⟨b2, 5, none⟩ w10 fun r_5_3 =>
        LdL ⟨b2, 6, none⟩ w10 fun r_6_b_3 r_6_l_3 r_6_c_3 =>
        R r_0_3 r_1_3 r_2_3 r_3_3 r_4_3 r_5_3 r_6_b_3 r_6_l_3 r_6_c_3 w10)))) = kstep Tryz.prog 45 Tryz.f167.results.toList (Tryz.f167.body.getD .skip) (conn_Conn_again.RV R) (kvc Tryz.prog 45 Tryz.f167.results.toList (Tryz.f167.body.getD .skip) (conn_Conn_again.RV R) [] 2000) [(0, [])] [(0, .pointer c)] w := by kernel_rfl
theorem conn_Conn_again.B0_sound {R : Int → Int → Int → Int → Int → Int → Option Addr → Nat → Nat → World → Prop}  (c : Option Addr) (w : World) (h : conn_Conn_again.B0 c w   R) :
    KW Tryz.prog 167 45 (conn_Conn_again.RV R) ([(0, [])].map (toItem (Tryz.f167.body.getD .skip))) [(0, .pointer c)] w := by
  exact block_spec Tryz.func167 Tryz.mixed stops_nil (Eq.mp (conn_Conn_again.B0_eq c w   R ) h)
theorem conn_Conn_again.sound (c : Option Addr) (w : World) (R : Int → Int → Int → Int → Int → Int → Option Addr → Nat → Nat → World → Prop) (h : conn_Conn_again.B0 c w R) : conn_Conn_again.Call c w R := by
  have hc := calls_of_block (args := #[.pointer c]) Tryz.func167 (body := (Tryz.f167.body.getD .skip)) (by kernel_rfl) (by kernel_rfl) (args_slot _) (conn_Conn_again.B0_sound c w h)
  exact hc.mono fun e w' he => by
    obtain ⟨v, rfl, hv⟩ := he
    exact conn_Conn_again.RV_elim hv
def conn_Conn_pump.B5 (c out_b : Option Addr) (out_l out_c : Nat) (t95 : Bool) (w : World)   (R : Option Addr → Nat → Nat → World → Prop) : Prop :=
  Bm t95 (
    Pn c fun a =>
    LdP a w fun x99 =>
    seg_SendBuf_Unsent.Call x99 w fun r100 w1 =>
    Bm (r100 == (0 : Int)) (
      Pn c fun a_1 =>
      LdP a_1 w1 fun x105 =>
      seg_SendBuf_Nxt.Call x105 w1 fun r106 w2 =>
      conn_Conn_mk.Call c (6 : Int) r106 none 0 0 w2 fun r109_0 r109_1 r109_2 r109_3 r109_4 r109_5 r109_6_b r109_6_l r109_6_c w3 =>
      New (.cells #[.int .i64 (0 : Int), .int .i64 (0 : Int), .int .i64 (0 : Int), .int .i64 (0 : Int), .int .i64 (0 : Int), .int .i64 (0 : Int), .slice none 0 0] 177) w3 fun s_ w4 =>
      Sts [.int .i64 r109_0, .int .i64 r109_1, .int .i64 r109_2, .int .i64 r109_3, .int .i64 r109_4, .int .i64 r109_5, .slice r109_6_b r109_6_l r109_6_c] ⟨s_, 0, none⟩ 0 w4 fun w5 =>
      LdI .i64 ⟨s_, 0, none⟩ w5 fun x111_0 =>
      LdI .i64 ⟨s_, 1, none⟩ w5 fun x111_1 =>
      LdI .i64 ⟨s_, 2, none⟩ w5 fun x111_2 =>
      LdI .i64 ⟨s_, 3, none⟩ w5 fun x111_3 =>
      LdI .i64 ⟨s_, 4, none⟩ w5 fun x111_4 =>
      LdI .i64 ⟨s_, 5, none⟩ w5 fun x111_5 =>
      LdL ⟨s_, 6, none⟩ w5 fun x111_6_b x111_6_l x111_6_c =>
      New (.cells #[.int .i64 x111_0, .int .i64 x111_1, .int .i64 x111_2, .int .i64 x111_3, .int .i64 x111_4, .int .i64 x111_5, .slice x111_6_b x111_6_l x111_6_c] 177) w5 fun b112 w6 =>
      Append 177 (.agg #[.int .i64 (0 : Int), .int .i64 (0 : Int), .int .i64 (0 : Int), .int .i64 (0 : Int), .int .i64 (0 : Int), .int .i64 (0 : Int), .slice none 0 0]) 7 72 out_b out_l out_c (some ⟨b112, 0, none⟩) 1 w6 fun b113 c113 w7 =>
      Pn c fun a_2 =>
      Sts [.bool true] (a_2.add 5) 0 w7 fun w8 =>
      Pn c fun a_3 =>
      LdI .i64 (a_3.add 12) w8 fun x120 =>
      Pn c fun a_4 =>
      Sts [.int .i64 (IntKind.i64.wrap (x120 - (1 : Int)))] (a_4.add 12) 0 w8 fun w9 =>
      conn_Conn_arm.Call c w9 fun w10 =>
      R b113 (out_l + 1) c113 w10) (
      R out_b out_l out_c w1)) (
    R out_b out_l out_c w)
theorem conn_Conn_pump.B5_eq (c out_b : Option Addr) (out_l out_c : Nat) (t95 : Bool) (w : World)   (R : Option Addr → Nat → Nat → World → Prop)  :
    (
  Bm t95 (
    Pn c fun a =>
    LdP a w fun x99 =>
    seg_SendBuf_Unsent.Call x99 w fun r100 w1 =>
    Bm (r100 == (0 : Int)) (
      Pn c fun a_1 =>
      LdP a_1 w1 fun x105 =>
      seg_SendBuf_Nxt.Call x105 w1 fun r106 w2 =>
      conn_Conn_mk.Call c (6 : Int) r106 none 0 0 w2 fun r109_0 r109_1 r109_2 r109_3 r109_4 r109_5 r109_6_b r109_6_l r109_6_c w3 =>
      New (.cells #[.int .i64 (0 : Int), .int .i64 (0 : Int), .int .i64 (0 : Int), .int .i64 (0 : Int), .int .i64 (0 : Int), .int .i64 (0 : Int), .slice none 0 0] 177) w3 fun s_ w4 =>
      Sts [.int .i64 r109_0, .int .i64 r109_1, .int .i64 r109_2, .int .i64 r109_3, .int .i64 r109_4, .int .i64 r109_5, .slice r109_6_b r109_6_l r109_6_c] ⟨s_, 0, none⟩ 0 w4 fun w5 =>
      LdI .i64 ⟨s_, 0, none⟩ w5 fun x111_0 =>
      LdI .i64 ⟨s_, 1, none⟩ w5 fun x111_1 =>
      LdI .i64 ⟨s_, 2, none⟩ w5 fun x111_2 =>
      LdI .i64 ⟨s_, 3, none⟩ w5 fun x111_3 =>
      LdI .i64 ⟨s_, 4, none⟩ w5 fun x111_4 =>
      LdI .i64 ⟨s_, 5, none⟩ w5 fun x111_5 =>
      LdL ⟨s_, 6, none⟩ w5 fun x111_6_b x111_6_l x111_6_c =>
      New (.cells #[.int .i64 x111_0, .int .i64 x111_1, .int .i64 x111_2, .int .i64 x111_3, .int .i64 x111_4, .int .i64 x111_5, .slice x111_6_b x111_6_l x111_6_c] 177) w5 fun b112 w6 =>
      Append 177 (.agg #[.int .i64 (0 : Int), .int .i64 (0 : Int), .int .i64 (0 : Int), .int .i64 (0 : Int), .int .i64 (0 : Int), .int .i64 (0 : Int), .slice none 0 0]) 7 72 out_b out_l out_c (some ⟨b112, 0, none⟩) 1 w6 fun b113 c113 w7 =>
      Pn c fun a_2 =>
      Sts [.bool true] (a_2.add 5) 0 w7 fun w8 =>
      Pn c fun a_3 =>
      LdI .i64 (a_3.add 12) w8 fun x120 =>
      Pn c fun a_4 =>
      Sts [.int .i64 (IntKind.i64.wrap (x120 - (1 : Int)))] (a_4.add 12) 0 w8 fun w9 =>
      conn_Conn_arm.Call c w9 fun w10 =>
      R b113 (out_l + 1) c113 w10) (
      R out_b out_l out_c w1)) (
    R out_b out_l out_c w)) = kstep Tryz.prog 127 Tryz.f168.results.toList (Tryz.f168.body.getD .skip) (conn_Conn_pump.RV R) (kvc Tryz.prog 127 Tryz.f168.results.toList (Tryz.f168.body.getD .skip) (conn_Conn_pump.RV R) [] 2000) [(0, [1, 1, 1, 1, 0, 1]), (0, [1, 1, 1, 1, 1])] [(0, .pointer c), (3, .slice out_b out_l out_c), (95, .bool t95)] w := by kernel_rfl
theorem conn_Conn_pump.B5_sound {R : Option Addr → Nat → Nat → World → Prop}  (c out_b : Option Addr) (out_l out_c : Nat) (t95 : Bool) (w : World) (h : conn_Conn_pump.B5 c out_b out_l out_c t95 w   R) :
    KW Tryz.prog 168 127 (conn_Conn_pump.RV R) ([(0, [1, 1, 1, 1, 0, 1]), (0, [1, 1, 1, 1, 1])].map (toItem (Tryz.f168.body.getD .skip))) [(0, .pointer c), (3, .slice out_b out_l out_c), (95, .bool t95)] w := by
  exact block_spec Tryz.func168 Tryz.mixed stops_nil (Eq.mp (conn_Conn_pump.B5_eq c out_b out_l out_c t95 w   R ) h)
def conn_Conn_pump.B4 (c out_b : Option Addr) (out_l out_c : Nat) (n : Int) (w : World) (N1 : Option Addr → Option Addr → Nat → Nat → World → Prop)  (R : Option Addr → Nat → Nat → World → Prop) : Prop :=
  Bm (decide (n ≤ (0 : Int))) (
    Pn c fun a =>
    LdB (a.add 4) w fun x81 =>
    Bm x81 (
      Pn c fun a_1 =>
      LdB (a_1.add 5) w fun x86 =>
      Bm (!x86) (
        Pn c fun a_2 =>
        LdI .i64 (a_2.add 12) w fun x93 =>
        conn_Conn_pump.B5 c out_b out_l out_c (decide (x93 > (0 : Int))) w  R) (
        conn_Conn_pump.B5 c out_b out_l out_c false w  R)) (
      conn_Conn_pump.B5 c out_b out_l out_c false w  R)) (
    Pn c fun a_3 =>
    LdP a_3 w fun x55 =>
    seg_SendBuf_Next.Call x55 n w fun r57_0 r57_1_b r57_1_l r57_1_c w1 =>
    conn_Conn_mk.Call c (2 : Int) r57_0 r57_1_b r57_1_l r57_1_c w1 fun r63_0 r63_1 r63_2 r63_3 r63_4 r63_5 r63_6_b r63_6_l r63_6_c w2 =>
    New (.cells #[.int .i64 (0 : Int), .int .i64 (0 : Int), .int .i64 (0 : Int), .int .i64 (0 : Int), .int .i64 (0 : Int), .int .i64 (0 : Int), .slice none 0 0] 177) w2 fun s_ w3 =>
    Sts [.int .i64 r63_0, .int .i64 r63_1, .int .i64 r63_2, .int .i64 r63_3, .int .i64 r63_4, .int .i64 r63_5, .slice r63_6_b r63_6_l r63_6_c] ⟨s_, 0, none⟩ 0 w3 fun w4 =>
    LdI .i64 ⟨s_, 0, none⟩ w4 fun x65_0 =>
    LdI .i64 ⟨s_, 1, none⟩ w4 fun x65_1 =>
    LdI .i64 ⟨s_, 2, none⟩ w4 fun x65_2 =>
    LdI .i64 ⟨s_, 3, none⟩ w4 fun x65_3 =>
    LdI .i64 ⟨s_, 4, none⟩ w4 fun x65_4 =>
    LdI .i64 ⟨s_, 5, none⟩ w4 fun x65_5 =>
    LdL ⟨s_, 6, none⟩ w4 fun x65_6_b x65_6_l x65_6_c =>
    New (.cells #[.int .i64 x65_0, .int .i64 x65_1, .int .i64 x65_2, .int .i64 x65_3, .int .i64 x65_4, .int .i64 x65_5, .slice x65_6_b x65_6_l x65_6_c] 177) w4 fun b66 w5 =>
    Append 177 (.agg #[.int .i64 (0 : Int), .int .i64 (0 : Int), .int .i64 (0 : Int), .int .i64 (0 : Int), .int .i64 (0 : Int), .int .i64 (0 : Int), .slice none 0 0]) 7 72 out_b out_l out_c (some ⟨b66, 0, none⟩) 1 w5 fun b67 c67 w6 =>
    Pn c fun a_4 =>
    LdI .i64 (a_4.add 12) w6 fun x71 =>
    Pn c fun a_5 =>
    Sts [.int .i64 (IntKind.i64.wrap (x71 - n))] (a_5.add 12) 0 w6 fun w7 =>
    conn_Conn_arm.Call c w7 fun w8 =>
    N1 c b67 (out_l + 1) c67 w8)
theorem conn_Conn_pump.B4_eq (c out_b : Option Addr) (out_l out_c : Nat) (n : Int) (w : World) (N1 : Option Addr → Option Addr → Nat → Nat → World → Prop)  (R : Option Addr → Nat → Nat → World → Prop) (sB5 : Option Addr → Option Addr → Nat → Nat → Bool → World → Prop) :
    (
  Bm (decide (n ≤ (0 : Int))) (
    Pn c fun a =>
    LdB (a.add 4) w fun x81 =>
    Bm x81 (
      Pn c fun a_1 =>
      LdB (a_1.add 5) w fun x86 =>
      Bm (!x86) (
        Pn c fun a_2 =>
        LdI .i64 (a_2.add 12) w fun x93 =>
        sB5 c out_b out_l out_c (decide (x93 > (0 : Int))) w) (
        sB5 c out_b out_l out_c false w)) (
      sB5 c out_b out_l out_c false w)) (
    Pn c fun a_3 =>
    LdP a_3 w fun x55 =>
    seg_SendBuf_Next.Call x55 n w fun r57_0 r57_1_b r57_1_l r57_1_c w1 =>
    conn_Conn_mk.Call c (2 : Int) r57_0 r57_1_b r57_1_l r57_1_c w1 fun r63_0 r63_1 r63_2 r63_3 r63_4 r63_5 r63_6_b r63_6_l r63_6_c w2 =>
    New (.cells #[.int .i64 (0 : Int), .int .i64 (0 : Int), .int .i64 (0 : Int), .int .i64 (0 : Int), .int .i64 (0 : Int), .int .i64 (0 : Int), .slice none 0 0] 177) w2 fun s_ w3 =>
    Sts [.int .i64 r63_0, .int .i64 r63_1, .int .i64 r63_2, .int .i64 r63_3, .int .i64 r63_4, .int .i64 r63_5, .slice r63_6_b r63_6_l r63_6_c] ⟨s_, 0, none⟩ 0 w3 fun w4 =>
    LdI .i64 ⟨s_, 0, none⟩ w4 fun x65_0 =>
    LdI .i64 ⟨s_, 1, none⟩ w4 fun x65_1 =>
    LdI .i64 ⟨s_, 2, none⟩ w4 fun x65_2 =>
    LdI .i64 ⟨s_, 3, none⟩ w4 fun x65_3 =>
    LdI .i64 ⟨s_, 4, none⟩ w4 fun x65_4 =>
    LdI .i64 ⟨s_, 5, none⟩ w4 fun x65_5 =>
    LdL ⟨s_, 6, none⟩ w4 fun x65_6_b x65_6_l x65_6_c =>
    New (.cells #[.int .i64 x65_0, .int .i64 x65_1, .int .i64 x65_2, .int .i64 x65_3, .int .i64 x65_4, .int .i64 x65_5, .slice x65_6_b x65_6_l x65_6_c] 177) w4 fun b66 w5 =>
    Append 177 (.agg #[.int .i64 (0 : Int), .int .i64 (0 : Int), .int .i64 (0 : Int), .int .i64 (0 : Int), .int .i64 (0 : Int), .int .i64 (0 : Int), .slice none 0 0]) 7 72 out_b out_l out_c (some ⟨b66, 0, none⟩) 1 w5 fun b67 c67 w6 =>
    Pn c fun a_4 =>
    LdI .i64 (a_4.add 12) w6 fun x71 =>
    Pn c fun a_5 =>
    Sts [.int .i64 (IntKind.i64.wrap (x71 - n))] (a_5.add 12) 0 w6 fun w7 =>
    conn_Conn_arm.Call c w7 fun w8 =>
    N1 c b67 (out_l + 1) c67 w8)) = kstep Tryz.prog 127 Tryz.f168.results.toList (Tryz.f168.body.getD .skip) (conn_Conn_pump.RV R) (kvc Tryz.prog 127 Tryz.f168.results.toList (Tryz.f168.body.getD .skip) (conn_Conn_pump.RV R) [([(0, [1, 1, 1, 1, 0, 1]), (0, [1, 1, 1, 1, 1])], fun σ w => dP (slotOf σ 0) fun c_ => dL (slotOf σ 3) fun out_b_ out_l_ out_c_ => dB (slotOf σ 95) fun t95_ => sB5 c_ out_b_ out_l_ out_c_ t95_ w),
    ([(0, [1, 1, 1, 0, 0, 0]), (2, [1, 1, 1, 0, 0, 0]), (1, [0]), (0, [1, 1, 1, 1])], fun σ w => dP (slotOf σ 0) fun c_ => dL (slotOf σ 3) fun out_b_ out_l_ out_c_ => N1 c_ out_b_ out_l_ out_c_ w)] 2000) [(0, [1, 1, 1, 0, 0, 0, 0, 1, 1, 1, 1, 1, 1, 1]), (1, [1]), (2, [1, 1, 1, 0, 0, 0]), (1, [0]), (0, [1, 1, 1, 1])] [(0, .pointer c), (3, .slice out_b out_l out_c), (5, .int .i64 n)] w := by kernel_rfl
theorem conn_Conn_pump.B4_sound {R : Option Addr → Nat → Nat → World → Prop} {N1 : Option Addr → Option Addr → Nat → Nat → World → Prop} (hN1 : ∀ c out_b out_l out_c w, N1 c out_b out_l out_c w → KW Tryz.prog 168 127 (conn_Conn_pump.RV R) ([(0, [1, 1, 1, 0, 0, 0]), (2, [1, 1, 1, 0, 0, 0]), (1, [0]), (0, [1, 1, 1, 1])].map (toItem (Tryz.f168.body.getD .skip))) [(0, .pointer c), (3, .slice out_b out_l out_c)] w) (c out_b : Option Addr) (out_l out_c : Nat) (n : Int) (w : World) (h : conn_Conn_pump.B4 c out_b out_l out_c n w N1  R) :
    KW Tryz.prog 168 127 (conn_Conn_pump.RV R) ([(0, [1, 1, 1, 0, 0, 0, 0, 1, 1, 1, 1, 1, 1, 1]), (1, [1]), (2, [1, 1, 1, 0, 0, 0]), (1, [0]), (0, [1, 1, 1, 1])].map (toItem (Tryz.f168.body.getD .skip))) [(0, .pointer c), (3, .slice out_b out_l out_c), (5, .int .i64 n)] w := by
  exact block_spec Tryz.func168 Tryz.mixed (stops_cons (fun σ w h => by
      obtain ⟨c_, e0, h⟩ := dP_elim h
      obtain ⟨out_b_, out_l_, out_c_, e1, h⟩ := dL_elim h
      obtain ⟨t95_, e2, h⟩ := dB_elim h
      exact (conn_Conn_pump.B5_sound  c_ out_b_ out_l_ out_c_ t95_ w h).weaken (Sub.cons (Sub.cons (Sub.cons (Sub.nil _) e2) e1) e0)) (stops_cons (fun σ w h => by
      obtain ⟨c_, e0, h⟩ := dP_elim h
      obtain ⟨out_b_, out_l_, out_c_, e1, h⟩ := dL_elim h
      exact (hN1 c_ out_b_ out_l_ out_c_ w h).weaken (Sub.cons (Sub.cons (Sub.nil _) e1) e0)) stops_nil)) (Eq.mp (conn_Conn_pump.B4_eq c out_b out_l out_c n w N1  R (fun c_ out_b_ out_l_ out_c_ t95_ w => conn_Conn_pump.B5 c_ out_b_ out_l_ out_c_ t95_ w  R)) h)
def conn_Conn_pump.B3 (c out_b : Option Addr) (out_l out_c : Nat) (n : Int) (w : World) (N1 : Option Addr → Option Addr → Nat → Nat → World → Prop)  (R : Option Addr → Nat → Nat → World → Prop) : Prop :=
  Pn c fun a =>
  LdI .i64 (a.add 12) w fun x43 =>
  Bm (decide (n > x43)) (
    Pn c fun a_1 =>
    LdI .i64 (a_1.add 12) w fun x48 =>
    conn_Conn_pump.B4 c out_b out_l out_c x48 w N1 R) (
    conn_Conn_pump.B4 c out_b out_l out_c n w N1 R)
theorem conn_Conn_pump.B3_eq (c out_b : Option Addr) (out_l out_c : Nat) (n : Int) (w : World) (N1 : Option Addr → Option Addr → Nat → Nat → World → Prop)  (R : Option Addr → Nat → Nat → World → Prop) (sB4 : Option Addr → Option Addr → Nat → Nat → Int → World → Prop) :
    (
  Pn c fun a =>
  LdI .i64 (a.add 12) w fun x43 =>
  Bm (decide (n > x43)) (
    Pn c fun a_1 =>
    LdI .i64 (a_1.add 12) w fun x48 =>
    sB4 c out_b out_l out_c x48 w) (
    sB4 c out_b out_l out_c n w)) = kstep Tryz.prog 127 Tryz.f168.results.toList (Tryz.f168.body.getD .skip) (conn_Conn_pump.RV R) (kvc Tryz.prog 127 Tryz.f168.results.toList (Tryz.f168.body.getD .skip) (conn_Conn_pump.RV R) [([(0, [1, 1, 1, 0, 0, 0, 0, 1, 1, 1, 1, 1, 1, 1]), (1, [1]), (2, [1, 1, 1, 0, 0, 0]), (1, [0]), (0, [1, 1, 1, 1])], fun σ w => dP (slotOf σ 0) fun c_ => dL (slotOf σ 3) fun out_b_ out_l_ out_c_ => dI .i64 (slotOf σ 5) fun n_ => sB4 c_ out_b_ out_l_ out_c_ n_ w)] 2000) [(0, [1, 1, 1, 0, 0, 0, 0, 1, 1, 1, 1, 1, 1]), (1, [1]), (2, [1, 1, 1, 0, 0, 0]), (1, [0]), (0, [1, 1, 1, 1])] [(0, .pointer c), (3, .slice out_b out_l out_c), (5, .int .i64 n)] w := by kernel_rfl
theorem conn_Conn_pump.B3_sound {R : Option Addr → Nat → Nat → World → Prop} {N1 : Option Addr → Option Addr → Nat → Nat → World → Prop} (hN1 : ∀ c out_b out_l out_c w, N1 c out_b out_l out_c w → KW Tryz.prog 168 127 (conn_Conn_pump.RV R) ([(0, [1, 1, 1, 0, 0, 0]), (2, [1, 1, 1, 0, 0, 0]), (1, [0]), (0, [1, 1, 1, 1])].map (toItem (Tryz.f168.body.getD .skip))) [(0, .pointer c), (3, .slice out_b out_l out_c)] w) (c out_b : Option Addr) (out_l out_c : Nat) (n : Int) (w : World) (h : conn_Conn_pump.B3 c out_b out_l out_c n w N1  R) :
    KW Tryz.prog 168 127 (conn_Conn_pump.RV R) ([(0, [1, 1, 1, 0, 0, 0, 0, 1, 1, 1, 1, 1, 1]), (1, [1]), (2, [1, 1, 1, 0, 0, 0]), (1, [0]), (0, [1, 1, 1, 1])].map (toItem (Tryz.f168.body.getD .skip))) [(0, .pointer c), (3, .slice out_b out_l out_c), (5, .int .i64 n)] w := by
  exact block_spec Tryz.func168 Tryz.mixed (stops_cons (fun σ w h => by
      obtain ⟨c_, e0, h⟩ := dP_elim h
      obtain ⟨out_b_, out_l_, out_c_, e1, h⟩ := dL_elim h
      obtain ⟨n_, e2, h⟩ := dI_elim h
      exact (conn_Conn_pump.B4_sound hN1 c_ out_b_ out_l_ out_c_ n_ w h).weaken (Sub.cons (Sub.cons (Sub.cons (Sub.nil _) e2) e1) e0)) stops_nil) (Eq.mp (conn_Conn_pump.B3_eq c out_b out_l out_c n w N1  R (fun c_ out_b_ out_l_ out_c_ n_ w => conn_Conn_pump.B4 c_ out_b_ out_l_ out_c_ n_ w N1 R)) h)
def conn_Conn_pump.B2 (c out_b : Option Addr) (out_l out_c : Nat) (n : Int) (w : World) (N1 : Option Addr → Option Addr → Nat → Nat → World → Prop)  (R : Option Addr → Nat → Nat → World → Prop) : Prop :=
  Bm (decide (n > (12 : Int))) (
    conn_Conn_pump.B3 c out_b out_l out_c (12 : Int) w N1 R) (
    conn_Conn_pump.B3 c out_b out_l out_c n w N1 R)
theorem conn_Conn_pump.B2_eq (c out_b : Option Addr) (out_l out_c : Nat) (n : Int) (w : World) (N1 : Option Addr → Option Addr → Nat → Nat → World → Prop)  (R : Option Addr → Nat → Nat → World → Prop) (sB3 : Option Addr → Option Addr → Nat → Nat → Int → World → Prop) :
    (
  Bm (decide (n > (12 : Int))) (
    sB3 c out_b out_l out_c (12 : Int) w) (
    sB3 c out_b out_l out_c n w)) = kstep Tryz.prog 127 Tryz.f168.results.toList (Tryz.f168.body.getD .skip) (conn_Conn_pump.RV R) (kvc Tryz.prog 127 Tryz.f168.results.toList (Tryz.f168.body.getD .skip) (conn_Conn_pump.RV R) [([(0, [1, 1, 1, 0, 0, 0, 0, 1, 1, 1, 1, 1, 1]), (1, [1]), (2, [1, 1, 1, 0, 0, 0]), (1, [0]), (0, [1, 1, 1, 1])], fun σ w => dP (slotOf σ 0) fun c_ => dL (slotOf σ 3) fun out_b_ out_l_ out_c_ => dI .i64 (slotOf σ 5) fun n_ => sB3 c_ out_b_ out_l_ out_c_ n_ w)] 2000) [(0, [1, 1, 1, 0, 0, 0, 0, 1, 1, 1, 1, 1]), (1, [1]), (2, [1, 1, 1, 0, 0, 0]), (1, [0]), (0, [1, 1, 1, 1])] [(0, .pointer c), (3, .slice out_b out_l out_c), (5, .int .i64 n)] w := by kernel_rfl
theorem conn_Conn_pump.B2_sound {R : Option Addr → Nat → Nat → World → Prop} {N1 : Option Addr → Option Addr → Nat → Nat → World → Prop} (hN1 : ∀ c out_b out_l out_c w, N1 c out_b out_l out_c w → KW Tryz.prog 168 127 (conn_Conn_pump.RV R) ([(0, [1, 1, 1, 0, 0, 0]), (2, [1, 1, 1, 0, 0, 0]), (1, [0]), (0, [1, 1, 1, 1])].map (toItem (Tryz.f168.body.getD .skip))) [(0, .pointer c), (3, .slice out_b out_l out_c)] w) (c out_b : Option Addr) (out_l out_c : Nat) (n : Int) (w : World) (h : conn_Conn_pump.B2 c out_b out_l out_c n w N1  R) :
    KW Tryz.prog 168 127 (conn_Conn_pump.RV R) ([(0, [1, 1, 1, 0, 0, 0, 0, 1, 1, 1, 1, 1]), (1, [1]), (2, [1, 1, 1, 0, 0, 0]), (1, [0]), (0, [1, 1, 1, 1])].map (toItem (Tryz.f168.body.getD .skip))) [(0, .pointer c), (3, .slice out_b out_l out_c), (5, .int .i64 n)] w := by
  exact block_spec Tryz.func168 Tryz.mixed (stops_cons (fun σ w h => by
      obtain ⟨c_, e0, h⟩ := dP_elim h
      obtain ⟨out_b_, out_l_, out_c_, e1, h⟩ := dL_elim h
      obtain ⟨n_, e2, h⟩ := dI_elim h
      exact (conn_Conn_pump.B3_sound hN1 c_ out_b_ out_l_ out_c_ n_ w h).weaken (Sub.cons (Sub.cons (Sub.cons (Sub.nil _) e2) e1) e0)) stops_nil) (Eq.mp (conn_Conn_pump.B2_eq c out_b out_l out_c n w N1  R (fun c_ out_b_ out_l_ out_c_ n_ w => conn_Conn_pump.B3 c_ out_b_ out_l_ out_c_ n_ w N1 R)) h)
def conn_Conn_pump.B1 (c out_b : Option Addr) (out_l out_c : Nat) (room : Int) (w : World) (N1 : Option Addr → Option Addr → Nat → Nat → World → Prop)  (R : Option Addr → Nat → Nat → World → Prop) : Prop :=
  conn_Conn_sent.Call c w fun r26 w1 =>
  Pn c fun a =>
  LdP a w1 fun x31 =>
  seg_SendBuf_Unsent.Call x31 w1 fun r32 w2 =>
  Bm (decide (r32 > (IntKind.i64.wrap (room - r26)))) (
    conn_Conn_pump.B2 c out_b out_l out_c (IntKind.i64.wrap (room - r26)) w2 N1 R) (
    conn_Conn_pump.B2 c out_b out_l out_c r32 w2 N1 R)
theorem conn_Conn_pump.B1_eq (c out_b : Option Addr) (out_l out_c : Nat) (room : Int) (w : World) (N1 : Option Addr → Option Addr → Nat → Nat → World → Prop)  (R : Option Addr → Nat → Nat → World → Prop) (sB2 : Option Addr → Option Addr → Nat → Nat → Int → World → Prop) :
    (
  conn_Conn_sent.Call c w fun r26 w1 =>
  Pn c fun a =>
  LdP a w1 fun x31 =>
  seg_SendBuf_Unsent.Call x31 w1 fun r32 w2 =>
  Bm (decide (r32 > (IntKind.i64.wrap (room - r26)))) (
    sB2 c out_b out_l out_c (IntKind.i64.wrap (room - r26)) w2) (
    sB2 c out_b out_l out_c r32 w2)) = kstep Tryz.prog 127 Tryz.f168.results.toList (Tryz.f168.body.getD .skip) (conn_Conn_pump.RV R) (kvc Tryz.prog 127 Tryz.f168.results.toList (Tryz.f168.body.getD .skip) (conn_Conn_pump.RV R) [([(0, [1, 1, 1, 0, 0, 0, 0, 1, 1, 1, 1, 1]), (1, [1]), (2, [1, 1, 1, 0, 0, 0]), (1, [0]), (0, [1, 1, 1, 1])], fun σ w => dP (slotOf σ 0) fun c_ => dL (slotOf σ 3) fun out_b_ out_l_ out_c_ => dI .i64 (slotOf σ 5) fun n_ => sB2 c_ out_b_ out_l_ out_c_ n_ w)] 2000) [(0, [1, 1, 1, 0, 0, 0, 0, 1, 1]), (1, [1]), (2, [1, 1, 1, 0, 0, 0]), (1, [0]), (0, [1, 1, 1, 1])] [(0, .pointer c), (3, .slice out_b out_l out_c), (4, .int .i64 room)] w := by kernel_rfl
theorem conn_Conn_pump.B1_sound {R : Option Addr → Nat → Nat → World → Prop} {N1 : Option Addr → Option Addr → Nat → Nat → World → Prop} (hN1 : ∀ c out_b out_l out_c w, N1 c out_b out_l out_c w → KW Tryz.prog 168 127 (conn_Conn_pump.RV R) ([(0, [1, 1, 1, 0, 0, 0]), (2, [1, 1, 1, 0, 0, 0]), (1, [0]), (0, [1, 1, 1, 1])].map (toItem (Tryz.f168.body.getD .skip))) [(0, .pointer c), (3, .slice out_b out_l out_c)] w) (c out_b : Option Addr) (out_l out_c : Nat) (room : Int) (w : World) (h : conn_Conn_pump.B1 c out_b out_l out_c room w N1  R) :
    KW Tryz.prog 168 127 (conn_Conn_pump.RV R) ([(0, [1, 1, 1, 0, 0, 0, 0, 1, 1]), (1, [1]), (2, [1, 1, 1, 0, 0, 0]), (1, [0]), (0, [1, 1, 1, 1])].map (toItem (Tryz.f168.body.getD .skip))) [(0, .pointer c), (3, .slice out_b out_l out_c), (4, .int .i64 room)] w := by
  exact block_spec Tryz.func168 Tryz.mixed (stops_cons (fun σ w h => by
      obtain ⟨c_, e0, h⟩ := dP_elim h
      obtain ⟨out_b_, out_l_, out_c_, e1, h⟩ := dL_elim h
      obtain ⟨n_, e2, h⟩ := dI_elim h
      exact (conn_Conn_pump.B2_sound hN1 c_ out_b_ out_l_ out_c_ n_ w h).weaken (Sub.cons (Sub.cons (Sub.cons (Sub.nil _) e2) e1) e0)) stops_nil) (Eq.mp (conn_Conn_pump.B1_eq c out_b out_l out_c room w N1  R (fun c_ out_b_ out_l_ out_c_ n_ w => conn_Conn_pump.B2 c_ out_b_ out_l_ out_c_ n_ w N1 R)) h)
def conn_Conn_pump.L1b (c out_b : Option Addr) (out_l out_c : Nat) (w : World)  (N1 : Option Addr → Option Addr → Nat → Nat → World → Prop) (R : Option Addr → Nat → Nat → World → Prop) : Prop :=
  Pn c fun a =>
  LdI .i64 (a.add 9) w fun x21 =>
  Bm (x21 == (0 : Int)) (
    conn_Conn_pump.B1 c out_b out_l out_c (1 : Int) w N1 R) (
    conn_Conn_pump.B1 c out_b out_l out_c x21 w N1 R)
theorem conn_Conn_pump.L1b_eq (c out_b : Option Addr) (out_l out_c : Nat) (w : World)  (N1 : Option Addr → Option Addr → Nat → Nat → World → Prop) (R : Option Addr → Nat → Nat → World → Prop) (sB1 : Option Addr → Option Addr → Nat → Nat → Int → World → Prop) :
    (
  Pn c fun a =>
  LdI .i64 (a.add 9) w fun x21 =>
  Bm (x21 == (0 : Int)) (
    sB1 c out_b out_l out_c (1 : Int) w) (
    sB1 c out_b out_l out_c x21 w)) = kstep Tryz.prog 127 Tryz.f168.results.toList (Tryz.f168.body.getD .skip) (conn_Conn_pump.RV R) (kvc Tryz.prog 127 Tryz.f168.results.toList (Tryz.f168.body.getD .skip) (conn_Conn_pump.RV R) [([(0, [1, 1, 1, 0, 0, 0, 0, 1, 1]), (1, [1]), (2, [1, 1, 1, 0, 0, 0]), (1, [0]), (0, [1, 1, 1, 1])], fun σ w => dP (slotOf σ 0) fun c_ => dL (slotOf σ 3) fun out_b_ out_l_ out_c_ => dI .i64 (slotOf σ 4) fun room_ => sB1 c_ out_b_ out_l_ out_c_ room_ w)] 2000) [(0, [1, 1, 1, 0, 0, 0]), (2, [1, 1, 1, 0, 0, 0]), (1, [0]), (0, [1, 1, 1, 1])] [(0, .pointer c), (3, .slice out_b out_l out_c)] w := by kernel_rfl
theorem conn_Conn_pump.L1b_sound {R : Option Addr → Nat → Nat → World → Prop} {N1 : Option Addr → Option Addr → Nat → Nat → World → Prop} (hN1 : ∀ c out_b out_l out_c w, N1 c out_b out_l out_c w → KW Tryz.prog 168 127 (conn_Conn_pump.RV R) ([(0, [1, 1, 1, 0, 0, 0]), (2, [1, 1, 1, 0, 0, 0]), (1, [0]), (0, [1, 1, 1, 1])].map (toItem (Tryz.f168.body.getD .skip))) [(0, .pointer c), (3, .slice out_b out_l out_c)] w) (c out_b : Option Addr) (out_l out_c : Nat) (w : World) (h : conn_Conn_pump.L1b c out_b out_l out_c w  N1 R) :
    KW Tryz.prog 168 127 (conn_Conn_pump.RV R) ([(0, [1, 1, 1, 0, 0, 0]), (2, [1, 1, 1, 0, 0, 0]), (1, [0]), (0, [1, 1, 1, 1])].map (toItem (Tryz.f168.body.getD .skip))) [(0, .pointer c), (3, .slice out_b out_l out_c)] w := by
  exact block_spec Tryz.func168 Tryz.mixed (stops_cons (fun σ w h => by
      obtain ⟨c_, e0, h⟩ := dP_elim h
      obtain ⟨out_b_, out_l_, out_c_, e1, h⟩ := dL_elim h
      obtain ⟨room_, e2, h⟩ := dI_elim h
      exact (conn_Conn_pump.B1_sound hN1 c_ out_b_ out_l_ out_c_ room_ w h).weaken (Sub.cons (Sub.cons (Sub.cons (Sub.nil _) e2) e1) e0)) stops_nil) (Eq.mp (conn_Conn_pump.L1b_eq c out_b out_l out_c w  N1 R (fun c_ out_b_ out_l_ out_c_ room_ w => conn_Conn_pump.B1 c_ out_b_ out_l_ out_c_ room_ w N1 R)) h)
def conn_Conn_pump.L1 (c out_b : Option Addr) (out_l out_c : Nat) (w : World)  (R : Option Addr → Nat → Nat → World → Prop) : Prop :=
  ∃ (I : Nat → Option Addr → Option Addr → Nat → Nat → World → Prop) (m : Nat), I m c out_b out_l out_c w ∧ ∀ m c out_b out_l out_c w, I m c out_b out_l out_c w → conn_Conn_pump.L1b c out_b out_l out_c w  (fun c' out_b' out_l' out_c' w' => ∃ m', m' < m ∧ I m' c' out_b' out_l' out_c' w') R
theorem conn_Conn_pump.L1_sound {R : Option Addr → Nat → Nat → World → Prop}  (c out_b : Option Addr) (out_l out_c : Nat) (w : World) (h : conn_Conn_pump.L1 c out_b out_l out_c w  R) :
    KW Tryz.prog 168 127 (conn_Conn_pump.RV R) ([(0, [1, 1, 1, 0, 0, 0]), (2, [1, 1, 1, 0, 0, 0]), (1, [0]), (0, [1, 1, 1, 1])].map (toItem (Tryz.f168.body.getD .skip))) [(0, .pointer c), (3, .slice out_b out_l out_c)] w := by
  obtain ⟨I, m, hBase, hr⟩ := h
  refine KW.loop (fun m σ w => ∃ (c out_b : Option Addr) (out_l out_c : Nat), σ = [(0, .pointer c), (3, .slice out_b out_l out_c)] ∧ I m c out_b out_l out_c w) ?_ m _ w ⟨c, out_b, out_l, out_c, rfl, hBase⟩
  rintro m ih σ w ⟨c, out_b, out_l, out_c, rfl, hI⟩
  exact conn_Conn_pump.L1b_sound  (N1 := fun c' out_b' out_l' out_c' w' => ∃ m', m' < m ∧ I m' c' out_b' out_l' out_c' w') (fun c' out_b' out_l' out_c' w' hx => by obtain ⟨m', hlt, hI'⟩ := hx; exact ih m' hlt _ w' ⟨c', out_b', out_l', out_c', rfl, hI'⟩) c out_b out_l out_c w (hr m c out_b out_l out_c w hI)
def conn_Conn_pump.B0 (c : Option Addr) (w : World)   (R : Option Addr → Nat → Nat → World → Prop) : Prop :=
  New (.cells #[] 177) w fun b11 w1 =>
  Pn c fun a =>
  LdI .i64 (a.add 2) w1 fun x15 =>
  Bm (x15 != (3 : Int)) (
    R (some ⟨b11, 0, none⟩) 0 0 w1) (
    conn_Conn_pump.L1 c (some ⟨b11, 0, none⟩) 0 0 w1  R)
theorem conn_Conn_pump.B0_eq (c : Option Addr) (w : World)   (R : Option Addr → Nat → Nat → World → Prop) (sL1 : Option Addr → Option Addr → Nat → Nat → World → Prop) :
    (
  New (.cells #[] 177) w fun b11 w1 =>
  Pn c fun a =>
  LdI .i64 (a.add 2) w1 fun x15 =>
  Bm (x15 != (3 : Int)) (
    R (some ⟨b11, 0, none⟩) 0 0 w1) (
    sL1 c (some ⟨b11, 0, none⟩) 0 0 w1)) = kstep Tryz.prog 127 Tryz.f168.results.toList (Tryz.f168.body.getD .skip) (conn_Conn_pump.RV R) (kvc Tryz.prog 127 Tryz.f168.results.toList (Tryz.f168.body.getD .skip) (conn_Conn_pump.RV R) [([(0, [1, 1, 1, 0, 0, 0]), (2, [1, 1, 1, 0, 0, 0]), (1, [0]), (0, [1, 1, 1, 1])], fun σ w => dP (slotOf σ 0) fun c_ => dL (slotOf σ 3) fun out_b_ out_l_ out_c_ => sL1 c_ out_b_ out_l_ out_c_ w)] 2000) [(0, [])] [(0, .pointer c)] w := by kernel_rfl
theorem conn_Conn_pump.B0_sound {R : Option Addr → Nat → Nat → World → Prop}  (c : Option Addr) (w : World) (h : conn_Conn_pump.B0 c w   R) :
    KW Tryz.prog 168 127 (conn_Conn_pump.RV R) ([(0, [])].map (toItem (Tryz.f168.body.getD .skip))) [(0, .pointer c)] w := by
  exact block_spec Tryz.func168 Tryz.mixed (stops_cons (fun σ w h => by
      obtain ⟨c_, e0, h⟩ := dP_elim h
      obtain ⟨out_b_, out_l_, out_c_, e1, h⟩ := dL_elim h
      exact (conn_Conn_pump.L1_sound  c_ out_b_ out_l_ out_c_ w h).weaken (Sub.cons (Sub.cons (Sub.nil _) e1) e0)) stops_nil) (Eq.mp (conn_Conn_pump.B0_eq c w   R (fun c_ out_b_ out_l_ out_c_ w => conn_Conn_pump.L1 c_ out_b_ out_l_ out_c_ w  R)) h)
theorem conn_Conn_pump.sound (c : Option Addr) (w : World) (R : Option Addr → Nat → Nat → World → Prop) (h : conn_Conn_pump.B0 c w R) : conn_Conn_pump.Call c w R := by
  have hc := calls_of_block (args := #[.pointer c]) Tryz.func168 (body := (Tryz.f168.body.getD .skip)) (by kernel_rfl) (by kernel_rfl) (args_slot _) (conn_Conn_pump.B0_sound c w h)
  exact hc.mono fun e w' he => by
    obtain ⟨v, rfl, hv⟩ := he
    exact conn_Conn_pump.RV_elim hv
end Go.Proofs.Qxb6500424aGreat
