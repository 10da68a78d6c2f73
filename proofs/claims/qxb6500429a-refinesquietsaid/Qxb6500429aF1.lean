import Derived.Test.Qxb6500429aSig
set_option maxRecDepth 100000
set_option linter.unusedVariables false
open Go.Vc
namespace Go.Proofs.Qxb6500429a
def kv_KV_Snapshot.L2b (k b_b : Option Addr) (b_l b_c : Nat) (c : Int) (w : World)  (N2 : Option Addr → Option Addr → Nat → Nat → Int → World → Prop) (R : ByteArray → World → Prop) : Prop :=
  Bm (decide (c < (3 : Int))) (
    Pn k fun a =>
    (0 ≤ c ∧ c < ((3 : Nat) : Int)) ∧
    LdI .i64 (Addr.add (a.add 66) (c.toNat * 6)) w fun x66_0 =>
    LdI .i64 ((Addr.add (a.add 66) (c.toNat * 6)).add 1) w fun x66_1 =>
    LdI .i64 ((Addr.add (a.add 66) (c.toNat * 6)).add 2) w fun x66_2 =>
    LdI .u8 ((Addr.add (a.add 66) (c.toNat * 6)).add 3) w fun x66_3 =>
    LdI .u8 ((Addr.add (a.add 66) (c.toNat * 6)).add 4) w fun x66_4 =>
    LdI .u8 ((Addr.add (a.add 66) (c.toNat * 6)).add 5) w fun x66_5 =>
    kv_ansOf.Call x66_0 x66_1 x66_2 x66_3 x66_4 x66_5 w fun r67_0 r67_1 w1 =>
    New (.cells #[.int .i64 (0 : Int), .string (ByteArray.mk #[])] 54) w1 fun a_ w2 =>
    Sts [.int .i64 r67_0, .string r67_1] ⟨a_, 0, none⟩ 0 w2 fun w3 =>
    Pn k fun a_1 =>
    (0 ≤ c ∧ c < ((3 : Nat) : Int)) ∧
    LdI .i64 (Addr.add (a_1.add 66) (c.toNat * 6)) w3 fun x75 =>
    api_PutU64.Call b_b b_l b_c x75 w3 fun r76_b r76_l r76_c w4 =>
    LdI .i64 ⟨a_, 0, none⟩ w4 fun x79 =>
    New (.cells #[.int .u8 (IntKind.u8.wrap x79)] 5) w4 fun b81 w5 =>
    Append 5 (.int .u8 (0 : Int)) 1 1 r76_b r76_l r76_c (some ⟨b81, 0, none⟩) 1 w5 fun b82 c82 w6 =>
    LdS ⟨a_, 1, none⟩ w6 fun x85 =>
    kv_appendStr.Call b82 (r76_l + 1) c82 x85 w6 fun r86_b r86_l r86_c w7 =>
    N2 k r86_b r86_l r86_c (IntKind.i64.wrap (c + (1 : Int))) w7) (
    ToStr b_b b_l w fun s88 =>
    R s88 w)
theorem kv_KV_Snapshot.L2b_eq (k b_b : Option Addr) (b_l b_c : Nat) (c : Int) (w : World)  (N2 : Option Addr → Option Addr → Nat → Nat → Int → World → Prop) (R : ByteArray → World → Prop)  :
    (
  Bm (decide (c < (3 : Int))) (
    Pn k fun a =>
    (0 ≤ c ∧ c < ((3 : Nat) : Int)) ∧
    LdI .i64 (Addr.add (a.add 66) (c.toNat * 6)) w fun x66_0 =>
    LdI .i64 ((Addr.add (a.add 66) (c.toNat * 6)).add 1) w fun x66_1 =>
    LdI .i64 ((Addr.add (a.add 66) (c.toNat * 6)).add 2) w fun x66_2 =>
    LdI .u8 ((Addr.add (a.add 66) (c.toNat * 6)).add 3) w fun x66_3 =>
    LdI .u8 ((Addr.add (a.add 66) (c.toNat * 6)).add 4) w fun x66_4 =>
    LdI .u8 ((Addr.add (a.add 66) (c.toNat * 6)).add 5) w fun x66_5 =>
    kv_ansOf.Call x66_0 x66_1 x66_2 x66_3 x66_4 x66_5 w fun r67_0 r67_1 w1 =>
    New (.cells #[.int .i64 (0 : Int), .string (ByteArray.mk #[])] 54) w1 fun a_ w2 =>
    Sts [.int .i64 r67_0, .string r67_1] ⟨a_, 0, none⟩ 0 w2 fun w3 =>
    Pn k fun a_1 =>
    (0 ≤ c ∧ c < ((3 : Nat) : Int)) ∧
    LdI .i64 (Addr.add (a_1.add 66) (c.toNat * 6)) w3 fun x75 =>
    api_PutU64.Call b_b b_l b_c x75 w3 fun r76_b r76_l r76_c w4 =>
    LdI .i64 ⟨a_, 0, none⟩ w4 fun x79 =>
    New (.cells #[.int .u8 (IntKind.u8.wrap x79)] 5) w4 fun b81 w5 =>
    Append 5 (.int .u8 (0 : Int)) 1 1 r76_b r76_l r76_c (some ⟨b81, 0, none⟩) 1 w5 fun b82 c82 w6 =>
    LdS ⟨a_, 1, none⟩ w6 fun x85 =>
    kv_appendStr.Call b82 (r76_l + 1) c82 x85 w6 fun r86_b r86_l r86_c w7 =>
    N2 k r86_b r86_l r86_c (IntKind.i64.wrap (c + (1 : Int))) w7) (
    ToStr b_b b_l w fun s88 =>
    R s88 w)) = kstep Try.prog 89 Try.f12.results.toList (Try.f12.body.getD .skip) (kv_KV_Snapshot.RV R) (kvc Try.prog 89 Try.f12.results.toList (Try.f12.body.getD .skip) (kv_KV_Snapshot.RV R) [([(0, [1, 1, 1, 1, 1, 0, 1, 0, 0]), (2, [1, 1, 1, 1, 1, 0, 1, 0, 0]), (1, [2]), (0, [1, 1, 1, 1, 1, 1])], fun σ w => dP (slotOf σ 0) fun k_ => dL (slotOf σ 3) fun b_b_ b_l_ b_c_ => dI .i64 (slotOf σ 9) fun c_ => N2 k_ b_b_ b_l_ b_c_ c_ w)] 2000) [(0, [1, 1, 1, 1, 1, 0, 1, 0, 0]), (2, [1, 1, 1, 1, 1, 0, 1, 0, 0]), (1, [2]), (0, [1, 1, 1, 1, 1, 1])] [(0, .pointer k), (3, .slice b_b b_l b_c), (9, .int .i64 c)] w := by kernel_rfl
theorem kv_KV_Snapshot.L2b_sound {R : ByteArray → World → Prop} {N2 : Option Addr → Option Addr → Nat → Nat → Int → World → Prop} (hN2 : ∀ k b_b b_l b_c c w, N2 k b_b b_l b_c c w → KW Try.prog 12 89 (kv_KV_Snapshot.RV R) ([(0, [1, 1, 1, 1, 1, 0, 1, 0, 0]), (2, [1, 1, 1, 1, 1, 0, 1, 0, 0]), (1, [2]), (0, [1, 1, 1, 1, 1, 1])].map (toItem (Try.f12.body.getD .skip))) [(0, .pointer k), (3, .slice b_b b_l b_c), (9, .int .i64 c)] w) (k b_b : Option Addr) (b_l b_c : Nat) (c : Int) (w : World) (h : kv_KV_Snapshot.L2b k b_b b_l b_c c w  N2 R) :
    KW Try.prog 12 89 (kv_KV_Snapshot.RV R) ([(0, [1, 1, 1, 1, 1, 0, 1, 0, 0]), (2, [1, 1, 1, 1, 1, 0, 1, 0, 0]), (1, [2]), (0, [1, 1, 1, 1, 1, 1])].map (toItem (Try.f12.body.getD .skip))) [(0, .pointer k), (3, .slice b_b b_l b_c), (9, .int .i64 c)] w := by
  exact block_spec Try.func12 Try.mixed (stops_cons (fun σ w h => by
      obtain ⟨k_, e0, h⟩ := dP_elim h
      obtain ⟨b_b_, b_l_, b_c_, e1, h⟩ := dL_elim h
      obtain ⟨c_, e2, h⟩ := dI_elim h
      exact (hN2 k_ b_b_ b_l_ b_c_ c_ w h).weaken (Sub.cons (Sub.cons (Sub.cons (Sub.nil _) e2) e1) e0)) stops_nil) (Eq.mp (kv_KV_Snapshot.L2b_eq k b_b b_l b_c c w  N2 R ) h)
def kv_KV_Snapshot.L2 (k b_b : Option Addr) (b_l b_c : Nat) (c : Int) (w : World)  (R : ByteArray → World → Prop) : Prop :=
  ∃ (I : Nat → Option Addr → Option Addr → Nat → Nat → Int → World → Prop) (m : Nat), I m k b_b b_l b_c c w ∧ ∀ m k b_b b_l b_c c w, I m k b_b b_l b_c c w → kv_KV_Snapshot.L2b k b_b b_l b_c c w  (fun k' b_b' b_l' b_c' c' w' => ∃ m', m' < m ∧ I m' k' b_b' b_l' b_c' c' w') R
theorem kv_KV_Snapshot.L2_sound {R : ByteArray → World → Prop}  (k b_b : Option Addr) (b_l b_c : Nat) (c : Int) (w : World) (h : kv_KV_Snapshot.L2 k b_b b_l b_c c w  R) :
    KW Try.prog 12 89 (kv_KV_Snapshot.RV R) ([(0, [1, 1, 1, 1, 1, 0, 1, 0, 0]), (2, [1, 1, 1, 1, 1, 0, 1, 0, 0]), (1, [2]), (0, [1, 1, 1, 1, 1, 1])].map (toItem (Try.f12.body.getD .skip))) [(0, .pointer k), (3, .slice b_b b_l b_c), (9, .int .i64 c)] w := by
  obtain ⟨I, m, hBase, hr⟩ := h
  refine KW.loop (fun m σ w => ∃ (k b_b : Option Addr) (b_l b_c : Nat) (c : Int), σ = [(0, .pointer k), (3, .slice b_b b_l b_c), (9, .int .i64 c)] ∧ I m k b_b b_l b_c c w) ?_ m _ w ⟨k, b_b, b_l, b_c, c, rfl, hBase⟩
  rintro m ih σ w ⟨k, b_b, b_l, b_c, c, rfl, hI⟩
  exact kv_KV_Snapshot.L2b_sound  (N2 := fun k' b_b' b_l' b_c' c' w' => ∃ m', m' < m ∧ I m' k' b_b' b_l' b_c' c' w') (fun k' b_b' b_l' b_c' c' w' hx => by obtain ⟨m', hlt, hI'⟩ := hx; exact ih m' hlt _ w' ⟨k', b_b', b_l', b_c', c', rfl, hI'⟩) k b_b b_l b_c c w (hr m k b_b b_l b_c c w hI)
def kv_KV_Snapshot.B1 (k b_b : Option Addr) (b_l b_c at0 : Nat) (j : Int) (t35 : Bool) (w : World) (N1 : Option Addr → Option Addr → Nat → Nat → Nat → Int → World → Prop)  (R : ByteArray → World → Prop) : Prop :=
  Bm t35 (
    (0 ≤ j ∧ j < ((4 : Nat) : Int)) ∧
    LdI .i64 (Addr.add ⟨at0, 0, none⟩ (j.toNat * 1)) w.drew fun x41 =>
    Pn k fun a =>
    (0 ≤ x41 ∧ x41 < ((8 : Nat) : Int)) ∧
    LdI .i64 (Addr.add a (x41.toNat * 8)) w.drew fun x46_0 =>
    LdI .i64 ((Addr.add a (x41.toNat * 8)).add 1) w.drew fun x46_1 =>
    LdI .u8 ((Addr.add a (x41.toNat * 8)).add 2) w.drew fun x46_2 =>
    LdI .u8 ((Addr.add a (x41.toNat * 8)).add 3) w.drew fun x46_3 =>
    LdI .i64 ((Addr.add a (x41.toNat * 8)).add 4) w.drew fun x46_4 =>
    LdI .u8 ((Addr.add a (x41.toNat * 8)).add 5) w.drew fun x46_5 =>
    LdI .u8 ((Addr.add a (x41.toNat * 8)).add 6) w.drew fun x46_6 =>
    LdI .u8 ((Addr.add a (x41.toNat * 8)).add 7) w.drew fun x46_7 =>
    New (.cells #[.int .i64 (0 : Int), .int .i64 (0 : Int), .int .u8 (0 : Int), .int .u8 (0 : Int), .int .i64 (0 : Int), .int .u8 (0 : Int), .int .u8 (0 : Int), .int .u8 (0 : Int)] 42) w.drew fun c_ w1 =>
    w1.cell? (Addr.add a (x41.toNat * 8)) = some (.int .i64 x46_0) ∧
    w1.cell? ((Addr.add a (x41.toNat * 8)).add 1) = some (.int .i64 x46_1) ∧
    w1.cell? ((Addr.add a (x41.toNat * 8)).add 2) = some (.int .u8 x46_2) ∧
    w1.cell? ((Addr.add a (x41.toNat * 8)).add 3) = some (.int .u8 x46_3) ∧
    w1.cell? ((Addr.add a (x41.toNat * 8)).add 4) = some (.int .i64 x46_4) ∧
    w1.cell? ((Addr.add a (x41.toNat * 8)).add 5) = some (.int .u8 x46_5) ∧
    w1.cell? ((Addr.add a (x41.toNat * 8)).add 6) = some (.int .u8 x46_6) ∧
    w1.cell? ((Addr.add a (x41.toNat * 8)).add 7) = some (.int .u8 x46_7) ∧
    w1.cell? (Addr.add ⟨at0, 0, none⟩ (j.toNat * 1)) = some (.int .i64 x41) ∧
    Sts [.int .i64 x46_0, .int .i64 x46_1, .int .u8 x46_2, .int .u8 x46_3, .int .i64 x46_4, .int .u8 x46_5, .int .u8 x46_6, .int .u8 x46_7] ⟨c_, 0, none⟩ 0 w1 fun w2 =>
    LdI .i64 ⟨c_, 0, none⟩ w2 fun x47_0 =>
    LdI .i64 ⟨c_, 1, none⟩ w2 fun x47_1 =>
    LdI .u8 ⟨c_, 2, none⟩ w2 fun x47_2 =>
    LdI .u8 ⟨c_, 3, none⟩ w2 fun x47_3 =>
    LdI .i64 ⟨c_, 4, none⟩ w2 fun x47_4 =>
    LdI .u8 ⟨c_, 5, none⟩ w2 fun x47_5 =>
    LdI .u8 ⟨c_, 6, none⟩ w2 fun x47_6 =>
    LdI .u8 ⟨c_, 7, none⟩ w2 fun x47_7 =>
    kv_keyOf.Call x47_0 x47_1 x47_2 x47_3 x47_4 x47_5 x47_6 x47_7 w2 fun r48 w3 =>
    kv_appendStr.Call b_b b_l b_c r48 w3 fun r51_b r51_l r51_c w4 =>
    LdI .i64 ⟨c_, 0, none⟩ w4 fun x52_0 =>
    LdI .i64 ⟨c_, 1, none⟩ w4 fun x52_1 =>
    LdI .u8 ⟨c_, 2, none⟩ w4 fun x52_2 =>
    LdI .u8 ⟨c_, 3, none⟩ w4 fun x52_3 =>
    LdI .i64 ⟨c_, 4, none⟩ w4 fun x52_4 =>
    LdI .u8 ⟨c_, 5, none⟩ w4 fun x52_5 =>
    LdI .u8 ⟨c_, 6, none⟩ w4 fun x52_6 =>
    LdI .u8 ⟨c_, 7, none⟩ w4 fun x52_7 =>
    kv_valOf.Call x52_0 x52_1 x52_2 x52_3 x52_4 x52_5 x52_6 x52_7 w4 fun r53 w5 =>
    kv_appendStr.Call r51_b r51_l r51_c r53 w5 fun r56_b r56_l r56_c w6 =>
    N1 k r56_b r56_l r56_c at0 (IntKind.i64.wrap (j + (1 : Int))) w6) (
    kv_KV_Snapshot.L2 k b_b b_l b_c (0 : Int) w  R)
theorem kv_KV_Snapshot.B1_eq (k b_b : Option Addr) (b_l b_c at0 : Nat) (j : Int) (t35 : Bool) (w : World) (N1 : Option Addr → Option Addr → Nat → Nat → Nat → Int → World → Prop)  (R : ByteArray → World → Prop) (sL2 : Option Addr → Option Addr → Nat → Nat → Int → World → Prop) :
    (
  Bm t35 (
    (0 ≤ j ∧ j < ((4 : Nat) : Int)) ∧
    LdI .i64 (Addr.add ⟨at0, 0, none⟩ (j.toNat * 1)) w.drew fun x41 =>
    Pn k fun a =>
    (0 ≤ x41 ∧ x41 < ((8 : Nat) : Int)) ∧
    LdI .i64 (Addr.add a (x41.toNat * 8)) w.drew fun x46_0 =>
    LdI .i64 ((Addr.add a (x41.toNat * 8)).add 1) w.drew fun x46_1 =>
    LdI .u8 ((Addr.add a (x41.toNat * 8)).add 2) w.drew fun x46_2 =>
    LdI .u8 ((Addr.add a (x41.toNat * 8)).add 3) w.drew fun x46_3 =>
    LdI .i64 ((Addr.add a (x41.toNat * 8)).add 4) w.drew fun x46_4 =>
    LdI .u8 ((Addr.add a (x41.toNat * 8)).add 5) w.drew fun x46_5 =>
    LdI .u8 ((Addr.add a (x41.toNat * 8)).add 6) w.drew fun x46_6 =>
    LdI .u8 ((Addr.add a (x41.toNat * 8)).add 7) w.drew fun x46_7 =>
    New (.cells #[.int .i64 (0 : Int), .int .i64 (0 : Int), .int .u8 (0 : Int), .int .u8 (0 : Int), .int .i64 (0 : Int), .int .u8 (0 : Int), .int .u8 (0 : Int), .int .u8 (0 : Int)] 42) w.drew fun c_ w1 =>
    w1.cell? (Addr.add a (x41.toNat * 8)) = some (.int .i64 x46_0) ∧
    w1.cell? ((Addr.add a (x41.toNat * 8)).add 1) = some (.int .i64 x46_1) ∧
    w1.cell? ((Addr.add a (x41.toNat * 8)).add 2) = some (.int .u8 x46_2) ∧
    w1.cell? ((Addr.add a (x41.toNat * 8)).add 3) = some (.int .u8 x46_3) ∧
    w1.cell? ((Addr.add a (x41.toNat * 8)).add 4) = some (.int .i64 x46_4) ∧
    w1.cell? ((Addr.add a (x41.toNat * 8)).add 5) = some (.int .u8 x46_5) ∧
    w1.cell? ((Addr.add a (x41.toNat * 8)).add 6) = some (.int .u8 x46_6) ∧
    w1.cell? ((Addr.add a (x41.toNat * 8)).add 7) = some (.int .u8 x46_7) ∧
    w1.cell? (Addr.add ⟨at0, 0, none⟩ (j.toNat * 1)) = some (.int .i64 x41) ∧
    Sts [.int .i64 x46_0, .int .i64 x46_1, .int .u8 x46_2, .int .u8 x46_3, .int .i64 x46_4, .int .u8 x46_5, .int .u8 x46_6, .int .u8 x46_7] ⟨c_, 0, none⟩ 0 w1 fun w2 =>
    LdI .i64 ⟨c_, 0, none⟩ w2 fun x47_0 =>
    LdI .i64 ⟨c_, 1, none⟩ w2 fun x47_1 =>
    LdI .u8 ⟨c_, 2, none⟩ w2 fun x47_2 =>
    LdI .u8 ⟨c_, 3, none⟩ w2 fun x47_3 =>
    LdI .i64 ⟨c_, 4, none⟩ w2 fun x47_4 =>
    LdI .u8 ⟨c_, 5, none⟩ w2 fun x47_5 =>
    LdI .u8 ⟨c_, 6, none⟩ w2 fun x47_6 =>
    LdI .u8 ⟨c_, 7, none⟩ w2 fun x47_7 =>
    kv_keyOf.Call x47_0 x47_1 x47_2 x47_3 x47_4 x47_5 x47_6 x47_7 w2 fun r48 w3 =>
    kv_appendStr.Call b_b b_l b_c r48 w3 fun r51_b r51_l r51_c w4 =>
    LdI .i64 ⟨c_, 0, none⟩ w4 fun x52_0 =>
    LdI .i64 ⟨c_, 1, none⟩ w4 fun x52_1 =>
    LdI .u8 ⟨c_, 2, none⟩ w4 fun x52_2 =>
    LdI .u8 ⟨c_, 3, none⟩ w4 fun x52_3 =>
    LdI .i64 ⟨c_, 4, none⟩ w4 fun x52_4 =>
    LdI .u8 ⟨c_, 5, none⟩ w4 fun x52_5 =>
    LdI .u8 ⟨c_, 6, none⟩ w4 fun x52_6 =>
    LdI .u8 ⟨c_, 7, none⟩ w4 fun x52_7 =>
    kv_valOf.Call x52_0 x52_1 x52_2 x52_3 x52_4 x52_5 x52_6 x52_7 w4 fun r53 w5 =>
    kv_appendStr.Call r51_b r51_l r51_c r53 w5 fun r56_b r56_l r56_c w6 =>
    N1 k r56_b r56_l r56_c at0 (IntKind.i64.wrap (j + (1 : Int))) w6) (
    sL2 k b_b b_l b_c (0 : Int) w)) = kstep Try.prog 89 Try.f12.results.toList (Try.f12.body.getD .skip) (kv_KV_Snapshot.RV R) (kvc Try.prog 89 Try.f12.results.toList (Try.f12.body.getD .skip) (kv_KV_Snapshot.RV R) [([(0, [1, 1, 1, 1, 0, 1, 0, 0]), (2, [1, 1, 1, 1, 0, 1, 0, 0]), (1, [0]), (0, [1, 1, 1, 1, 1])], fun σ w => dP (slotOf σ 0) fun k_ => dL (slotOf σ 3) fun b_b_ b_l_ b_c_ => dK (slotOf σ 4) fun at0_ => dI .i64 (slotOf σ 5) fun j_ => N1 k_ b_b_ b_l_ b_c_ at0_ j_ w),
    ([(0, [1, 1, 1, 1, 1, 0, 1, 0, 0]), (2, [1, 1, 1, 1, 1, 0, 1, 0, 0]), (1, [2]), (0, [1, 1, 1, 1, 1, 1])], fun σ w => dP (slotOf σ 0) fun k_ => dL (slotOf σ 3) fun b_b_ b_l_ b_c_ => dI .i64 (slotOf σ 9) fun c_ => sL2 k_ b_b_ b_l_ b_c_ c_ w)] 2000) [(0, [1, 1, 1, 1, 0, 1, 0, 0, 0, 1]), (0, [1, 1, 1, 1, 0, 1, 0, 0, 1]), (2, [1, 1, 1, 1, 0, 1, 0, 0]), (1, [0]), (0, [1, 1, 1, 1, 1])] [(0, .pointer k), (3, .slice b_b b_l b_c), (4, .pointer (some ⟨at0, 0, none⟩)), (5, .int .i64 j), (35, .bool t35)] w := by kernel_rfl
theorem kv_KV_Snapshot.B1_sound {R : ByteArray → World → Prop} {N1 : Option Addr → Option Addr → Nat → Nat → Nat → Int → World → Prop} (hN1 : ∀ k b_b b_l b_c at0 j w, N1 k b_b b_l b_c at0 j w → KW Try.prog 12 89 (kv_KV_Snapshot.RV R) ([(0, [1, 1, 1, 1, 0, 1, 0, 0]), (2, [1, 1, 1, 1, 0, 1, 0, 0]), (1, [0]), (0, [1, 1, 1, 1, 1])].map (toItem (Try.f12.body.getD .skip))) [(0, .pointer k), (3, .slice b_b b_l b_c), (4, .pointer (some ⟨at0, 0, none⟩)), (5, .int .i64 j)] w) (k b_b : Option Addr) (b_l b_c at0 : Nat) (j : Int) (t35 : Bool) (w : World) (h : kv_KV_Snapshot.B1 k b_b b_l b_c at0 j t35 w N1  R) :
    KW Try.prog 12 89 (kv_KV_Snapshot.RV R) ([(0, [1, 1, 1, 1, 0, 1, 0, 0, 0, 1]), (0, [1, 1, 1, 1, 0, 1, 0, 0, 1]), (2, [1, 1, 1, 1, 0, 1, 0, 0]), (1, [0]), (0, [1, 1, 1, 1, 1])].map (toItem (Try.f12.body.getD .skip))) [(0, .pointer k), (3, .slice b_b b_l b_c), (4, .pointer (some ⟨at0, 0, none⟩)), (5, .int .i64 j), (35, .bool t35)] w := by
  exact block_spec Try.func12 Try.mixed (stops_cons (fun σ w h => by
      obtain ⟨k_, e0, h⟩ := dP_elim h
      obtain ⟨b_b_, b_l_, b_c_, e1, h⟩ := dL_elim h
      obtain ⟨at0_, e2, h⟩ := dK_elim h
      obtain ⟨j_, e3, h⟩ := dI_elim h
      exact (hN1 k_ b_b_ b_l_ b_c_ at0_ j_ w h).weaken (Sub.cons (Sub.cons (Sub.cons (Sub.cons (Sub.nil _) e3) e2) e1) e0)) (stops_cons (fun σ w h => by
      obtain ⟨k_, e0, h⟩ := dP_elim h
      obtain ⟨b_b_, b_l_, b_c_, e1, h⟩ := dL_elim h
      obtain ⟨c_, e2, h⟩ := dI_elim h
      exact (kv_KV_Snapshot.L2_sound  k_ b_b_ b_l_ b_c_ c_ w h).weaken (Sub.cons (Sub.cons (Sub.cons (Sub.nil _) e2) e1) e0)) stops_nil)) (Eq.mp (kv_KV_Snapshot.B1_eq k b_b b_l b_c at0 j t35 w N1  R (fun k_ b_b_ b_l_ b_c_ c_ w => kv_KV_Snapshot.L2 k_ b_b_ b_l_ b_c_ c_ w  R)) h)
def kv_KV_Snapshot.L1b (k b_b : Option Addr) (b_l b_c at0 : Nat) (j : Int) (w : World)  (N1 : Option Addr → Option Addr → Nat → Nat → Nat → Int → World → Prop) (R : ByteArray → World → Prop) : Prop :=
  Pn k fun a =>
  LdI .i64 (a.add 64) w fun x30 =>
  Bm (decide (j < x30)) (
    kv_KV_Snapshot.B1 k b_b b_l b_c at0 j (decide (j < (4 : Int))) w N1 R) (
    kv_KV_Snapshot.B1 k b_b b_l b_c at0 j false w N1 R)
theorem kv_KV_Snapshot.L1b_eq (k b_b : Option Addr) (b_l b_c at0 : Nat) (j : Int) (w : World)  (N1 : Option Addr → Option Addr → Nat → Nat → Nat → Int → World → Prop) (R : ByteArray → World → Prop) (sB1 : Option Addr → Option Addr → Nat → Nat → Nat → Int → Bool → World → Prop) :
    (
  Pn k fun a =>
  LdI .i64 (a.add 64) w fun x30 =>
  Bm (decide (j < x30)) (
    sB1 k b_b b_l b_c at0 j (decide (j < (4 : Int))) w) (
    sB1 k b_b b_l b_c at0 j false w)) = kstep Try.prog 89 Try.f12.results.toList (Try.f12.body.getD .skip) (kv_KV_Snapshot.RV R) (kvc Try.prog 89 Try.f12.results.toList (Try.f12.body.getD .skip) (kv_KV_Snapshot.RV R) [([(0, [1, 1, 1, 1, 0, 1, 0, 0, 0, 1]), (0, [1, 1, 1, 1, 0, 1, 0, 0, 1]), (2, [1, 1, 1, 1, 0, 1, 0, 0]), (1, [0]), (0, [1, 1, 1, 1, 1])], fun σ w => dP (slotOf σ 0) fun k_ => dL (slotOf σ 3) fun b_b_ b_l_ b_c_ => dK (slotOf σ 4) fun at0_ => dI .i64 (slotOf σ 5) fun j_ => dB (slotOf σ 35) fun t35_ => sB1 k_ b_b_ b_l_ b_c_ at0_ j_ t35_ w)] 2000) [(0, [1, 1, 1, 1, 0, 1, 0, 0]), (2, [1, 1, 1, 1, 0, 1, 0, 0]), (1, [0]), (0, [1, 1, 1, 1, 1])] [(0, .pointer k), (3, .slice b_b b_l b_c), (4, .pointer (some ⟨at0, 0, none⟩)), (5, .int .i64 j)] w := by kernel_rfl
theorem kv_KV_Snapshot.L1b_sound {R : ByteArray → World → Prop} {N1 : Option Addr → Option Addr → Nat → Nat → Nat → Int → World → Prop} (hN1 : ∀ k b_b b_l b_c at0 j w, N1 k b_b b_l b_c at0 j w → KW Try.prog 12 89 (kv_KV_Snapshot.RV R) ([(0, [1, 1, 1, 1, 0, 1, 0, 0]), (2, [1, 1, 1, 1, 0, 1, 0, 0]), (1, [0]), (0, [1, 1, 1, 1, 1])].map (toItem (Try.f12.body.getD .skip))) [(0, .pointer k), (3, .slice b_b b_l b_c), (4, .pointer (some ⟨at0, 0, none⟩)), (5, .int .i64 j)] w) (k b_b : Option Addr) (b_l b_c at0 : Nat) (j : Int) (w : World) (h : kv_KV_Snapshot.L1b k b_b b_l b_c at0 j w  N1 R) :
    KW Try.prog 12 89 (kv_KV_Snapshot.RV R) ([(0, [1, 1, 1, 1, 0, 1, 0, 0]), (2, [1, 1, 1, 1, 0, 1, 0, 0]), (1, [0]), (0, [1, 1, 1, 1, 1])].map (toItem (Try.f12.body.getD .skip))) [(0, .pointer k), (3, .slice b_b b_l b_c), (4, .pointer (some ⟨at0, 0, none⟩)), (5, .int .i64 j)] w := by
  exact block_spec Try.func12 Try.mixed (stops_cons (fun σ w h => by
      obtain ⟨k_, e0, h⟩ := dP_elim h
      obtain ⟨b_b_, b_l_, b_c_, e1, h⟩ := dL_elim h
      obtain ⟨at0_, e2, h⟩ := dK_elim h
      obtain ⟨j_, e3, h⟩ := dI_elim h
      obtain ⟨t35_, e4, h⟩ := dB_elim h
      exact (kv_KV_Snapshot.B1_sound hN1 k_ b_b_ b_l_ b_c_ at0_ j_ t35_ w h).weaken (Sub.cons (Sub.cons (Sub.cons (Sub.cons (Sub.cons (Sub.nil _) e4) e3) e2) e1) e0)) stops_nil) (Eq.mp (kv_KV_Snapshot.L1b_eq k b_b b_l b_c at0 j w  N1 R (fun k_ b_b_ b_l_ b_c_ at0_ j_ t35_ w => kv_KV_Snapshot.B1 k_ b_b_ b_l_ b_c_ at0_ j_ t35_ w N1 R)) h)
def kv_KV_Snapshot.L1 (k b_b : Option Addr) (b_l b_c at0 : Nat) (j : Int) (w : World)  (R : ByteArray → World → Prop) : Prop :=
  ∃ (I : Nat → Option Addr → Option Addr → Nat → Nat → Nat → Int → World → Prop) (m : Nat), I m k b_b b_l b_c at0 j w ∧ ∀ m k b_b b_l b_c at0 j w, I m k b_b b_l b_c at0 j w → kv_KV_Snapshot.L1b k b_b b_l b_c at0 j w  (fun k' b_b' b_l' b_c' at0' j' w' => ∃ m', m' < m ∧ I m' k' b_b' b_l' b_c' at0' j' w') R
theorem kv_KV_Snapshot.L1_sound {R : ByteArray → World → Prop}  (k b_b : Option Addr) (b_l b_c at0 : Nat) (j : Int) (w : World) (h : kv_KV_Snapshot.L1 k b_b b_l b_c at0 j w  R) :
    KW Try.prog 12 89 (kv_KV_Snapshot.RV R) ([(0, [1, 1, 1, 1, 0, 1, 0, 0]), (2, [1, 1, 1, 1, 0, 1, 0, 0]), (1, [0]), (0, [1, 1, 1, 1, 1])].map (toItem (Try.f12.body.getD .skip))) [(0, .pointer k), (3, .slice b_b b_l b_c), (4, .pointer (some ⟨at0, 0, none⟩)), (5, .int .i64 j)] w := by
  obtain ⟨I, m, hBase, hr⟩ := h
  refine KW.loop (fun m σ w => ∃ (k b_b : Option Addr) (b_l b_c at0 : Nat) (j : Int), σ = [(0, .pointer k), (3, .slice b_b b_l b_c), (4, .pointer (some ⟨at0, 0, none⟩)), (5, .int .i64 j)] ∧ I m k b_b b_l b_c at0 j w) ?_ m _ w ⟨k, b_b, b_l, b_c, at0, j, rfl, hBase⟩
  rintro m ih σ w ⟨k, b_b, b_l, b_c, at0, j, rfl, hI⟩
  exact kv_KV_Snapshot.L1b_sound  (N1 := fun k' b_b' b_l' b_c' at0' j' w' => ∃ m', m' < m ∧ I m' k' b_b' b_l' b_c' at0' j' w') (fun k' b_b' b_l' b_c' at0' j' w' hx => by obtain ⟨m', hlt, hI'⟩ := hx; exact ih m' hlt _ w' ⟨k', b_b', b_l', b_c', at0', j', rfl, hI'⟩) k b_b b_l b_c at0 j w (hr m k b_b b_l b_c at0 j w hI)
def kv_KV_Snapshot.B0 (k : Option Addr) (w : World)   (R : ByteArray → World → Prop) : Prop :=
  Make 5 (.int .u8 (0 : Int)) 1 1 (0 : Int) (128 : Int) w fun b11 w1 =>
  Pn k fun a =>
  LdI .i64 (a.add 64) w1 fun x17 =>
  New (.cells #[.int .u8 (IntKind.u8.wrap x17)] 5) w1 fun b19 w2 =>
  Append 5 (.int .u8 (0 : Int)) 1 1 (some ⟨b11, 0, none⟩) 0 128 (some ⟨b19, 0, none⟩) 1 w2 fun b20 c20 w3 =>
  Pn k fun a_1 =>
  kv_table_sorted.Call (some a_1) w3 fun r24_0 r24_1 r24_2 r24_3 w4 =>
  New (.cells #[.int .i64 (0 : Int), .int .i64 (0 : Int), .int .i64 (0 : Int), .int .i64 (0 : Int)] 61) w4 fun at0_ w5 =>
  Sts [.int .i64 r24_0, .int .i64 r24_1, .int .i64 r24_2, .int .i64 r24_3] ⟨at0_, 0, none⟩ 0 w5 fun w6 =>
  kv_KV_Snapshot.L1 k b20 (0 + 1) c20 at0_ (0 : Int) w6  R
theorem kv_KV_Snapshot.B0_eq (k : Option Addr) (w : World)   (R : ByteArray → World → Prop) (sL1 : Option Addr → Option Addr → Nat → Nat → Nat → Int → World → Prop) :
    (
  Make 5 (.int .u8 (0 : Int)) 1 1 (0 : Int) (128 : Int) w fun b11 w1 =>
  Pn k fun a =>
  LdI .i64 (a.add 64) w1 fun x17 =>
  New (.cells #[.int .u8 (IntKind.u8.wrap x17)] 5) w1 fun b19 w2 =>
  Append 5 (.int .u8 (0 : Int)) 1 1 (some ⟨b11, 0, none⟩) 0 128 (some ⟨b19, 0, none⟩) 1 w2 fun b20 c20 w3 =>
  Pn k fun a_1 =>
  kv_table_sorted.Call (some a_1) w3 fun r24_0 r24_1 r24_2 r24_3 w4 =>
  New (.cells #[.int .i64 (0 : Int), .int .i64 (0 : Int), .int .i64 (0 : Int), .int .i64 (0 : Int)] 61) w4 fun at0_ w5 =>
  Sts [.int .i64 r24_0, .int .i64 r24_1, .int .i64 r24_2, .int .i64 r24_3] ⟨at0_, 0, none⟩ 0 w5 fun w6 =>
  sL1 k b20 (0 + 1) c20 at0_ (0 : Int) w6) = kstep Try.prog 89 Try.f12.results.toList (Try.f12.body.getD .skip) (kv_KV_Snapshot.RV R) (kvc Try.prog 89 Try.f12.results.toList (Try.f12.body.getD .skip) (kv_KV_Snapshot.RV R) [([(0, [1, 1, 1, 1, 0, 1, 0, 0]), (2, [1, 1, 1, 1, 0, 1, 0, 0]), (1, [0]), (0, [1, 1, 1, 1, 1])], fun σ w => dP (slotOf σ 0) fun k_ => dL (slotOf σ 3) fun b_b_ b_l_ b_c_ => dK (slotOf σ 4) fun at0_ => dI .i64 (slotOf σ 5) fun j_ => sL1 k_ b_b_ b_l_ b_c_ at0_ j_ w)] 2000) [(0, [])] [(0, .pointer k)] w := by kernel_rfl
theorem kv_KV_Snapshot.B0_sound {R : ByteArray → World → Prop}  (k : Option Addr) (w : World) (h : kv_KV_Snapshot.B0 k w   R) :
    KW Try.prog 12 89 (kv_KV_Snapshot.RV R) ([(0, [])].map (toItem (Try.f12.body.getD .skip))) [(0, .pointer k)] w := by
  exact block_spec Try.func12 Try.mixed (stops_cons (fun σ w h => by
      obtain ⟨k_, e0, h⟩ := dP_elim h
      obtain ⟨b_b_, b_l_, b_c_, e1, h⟩ := dL_elim h
      obtain ⟨at0_, e2, h⟩ := dK_elim h
      obtain ⟨j_, e3, h⟩ := dI_elim h
      exact (kv_KV_Snapshot.L1_sound  k_ b_b_ b_l_ b_c_ at0_ j_ w h).weaken (Sub.cons (Sub.cons (Sub.cons (Sub.cons (Sub.nil _) e3) e2) e1) e0)) stops_nil) (Eq.mp (kv_KV_Snapshot.B0_eq k w   R (fun k_ b_b_ b_l_ b_c_ at0_ j_ w => kv_KV_Snapshot.L1 k_ b_b_ b_l_ b_c_ at0_ j_ w  R)) h)
theorem kv_KV_Snapshot.sound (k : Option Addr) (w : World) (R : ByteArray → World → Prop) (h : kv_KV_Snapshot.B0 k w R) : kv_KV_Snapshot.Call k w R := by
  have hc := calls_of_block (args := #[.pointer k]) Try.func12 (body := (Try.f12.body.getD .skip)) (by kernel_rfl) (by kernel_rfl) (args_slot _) (kv_KV_Snapshot.B0_sound k w h)
  exact hc.mono fun e w' he => by
    obtain ⟨v, rfl, hv⟩ := he
    exact kv_KV_Snapshot.RV_elim hv
def kvlaw_Nums.L1b (x : Option Addr) (t2 n : Nat) (c : Int) (w : World)  (N1 : Option Addr → Nat → Nat → Int → World → Prop) (R : Int → Int → Int → World → Prop) : Prop :=
  Bm (decide (c < (3 : Int))) (
    kv_KV_Sess.Call x c w fun r13_0 r13_1_0 r13_1_1 w1 =>
    (0 ≤ c ∧ c < ((3 : Nat) : Int)) ∧
    Sts [.int .i64 r13_0] (Addr.add ⟨n, 0, none⟩ (c.toNat * 1)) 0 w1 fun w2 =>
    N1 x t2 n (IntKind.i64.wrap (c + (1 : Int))) w2) (
    LdI .i64 ⟨n, 0, none⟩ w fun x17_0 =>
    LdI .i64 ⟨n, 1, none⟩ w fun x17_1 =>
    LdI .i64 ⟨n, 2, none⟩ w fun x17_2 =>
    Sts [.int .i64 x17_0, .int .i64 x17_1, .int .i64 x17_2] ⟨t2, 0, none⟩ 0 w fun w3 =>
    LdI .i64 ⟨t2, 0, none⟩ w3 fun r_0 =>
    LdI .i64 ⟨t2, 1, none⟩ w3 fun r_1 =>
    LdI .i64 ⟨t2, 2, none⟩ w3 fun r_2 =>
    R r_0 r_1 r_2 w3)
theorem kvlaw_Nums.L1b_eq (x : Option Addr) (t2 n : Nat) (c : Int) (w : World)  (N1 : Option Addr → Nat → Nat → Int → World → Prop) (R : Int → Int → Int → World → Prop)  :
    (
  Bm (decide (c < (3 : Int))) (
    kv_KV_Sess.Call x c w fun r13_0 r13_1_0 r13_1_1 w1 =>
    (0 ≤ c ∧ c < ((3 : Nat) : Int)) ∧
    Sts [.int .i64 r13_0] (Addr.add ⟨n, 0, none⟩ (c.toNat * 1)) 0 w1 fun w2 =>
    N1 x t2 n (IntKind.i64.wrap (c + (1 : Int))) w2) (
    LdI .i64 ⟨n, 0, none⟩ w fun x17_0 =>
    LdI .i64 ⟨n, 1, none⟩ w fun x17_1 =>
    LdI .i64 ⟨n, 2, none⟩ w fun x17_2 =>
    Sts [.int .i64 x17_0, .int .i64 x17_1, .int .i64 x17_2] ⟨t2, 0, none⟩ 0 w fun w3 =>
    LdI .i64 ⟨t2, 0, none⟩ w3 fun r_0 =>
    LdI .i64 ⟨t2, 1, none⟩ w3 fun r_1 =>
    LdI .i64 ⟨t2, 2, none⟩ w3 fun r_2 =>
    R r_0 r_1 r_2 w3)) = kstep Try.prog 18 Try.f13.results.toList (Try.f13.body.getD .skip) (kvlaw_Nums.RV R) (kvc Try.prog 18 Try.f13.results.toList (Try.f13.body.getD .skip) (kvlaw_Nums.RV R) [([(0, [1, 1, 0, 1, 0, 0]), (2, [1, 1, 0, 1, 0, 0]), (1, [0]), (0, [1, 1, 1])], fun σ w => dP (slotOf σ 0) fun x_ => dK (slotOf σ 2) fun t2_ => dK (slotOf σ 3) fun n_ => dI .i64 (slotOf σ 4) fun c_ => N1 x_ t2_ n_ c_ w)] 2000) [(0, [1, 1, 0, 1, 0, 0]), (2, [1, 1, 0, 1, 0, 0]), (1, [0]), (0, [1, 1, 1])] [(0, .pointer x), (2, .pointer (some ⟨t2, 0, none⟩)), (3, .pointer (some ⟨n, 0, none⟩)), (4, .int .i64 c)] w := by kernel_rfl
theorem kvlaw_Nums.L1b_sound {R : Int → Int → Int → World → Prop} {N1 : Option Addr → Nat → Nat → Int → World → Prop} (hN1 : ∀ x t2 n c w, N1 x t2 n c w → KW Try.prog 13 18 (kvlaw_Nums.RV R) ([(0, [1, 1, 0, 1, 0, 0]), (2, [1, 1, 0, 1, 0, 0]), (1, [0]), (0, [1, 1, 1])].map (toItem (Try.f13.body.getD .skip))) [(0, .pointer x), (2, .pointer (some ⟨t2, 0, none⟩)), (3, .pointer (some ⟨n, 0, none⟩)), (4, .int .i64 c)] w) (x : Option Addr) (t2 n : Nat) (c : Int) (w : World) (h : kvlaw_Nums.L1b x t2 n c w  N1 R) :
    KW Try.prog 13 18 (kvlaw_Nums.RV R) ([(0, [1, 1, 0, 1, 0, 0]), (2, [1, 1, 0, 1, 0, 0]), (1, [0]), (0, [1, 1, 1])].map (toItem (Try.f13.body.getD .skip))) [(0, .pointer x), (2, .pointer (some ⟨t2, 0, none⟩)), (3, .pointer (some ⟨n, 0, none⟩)), (4, .int .i64 c)] w := by
  exact block_spec Try.func13 Try.mixed (stops_cons (fun σ w h => by
      obtain ⟨x_, e0, h⟩ := dP_elim h
      obtain ⟨t2_, e1, h⟩ := dK_elim h
      obtain ⟨n_, e2, h⟩ := dK_elim h
      obtain ⟨c_, e3, h⟩ := dI_elim h
      exact (hN1 x_ t2_ n_ c_ w h).weaken (Sub.cons (Sub.cons (Sub.cons (Sub.cons (Sub.nil _) e3) e2) e1) e0)) stops_nil) (Eq.mp (kvlaw_Nums.L1b_eq x t2 n c w  N1 R ) h)
def kvlaw_Nums.L1 (x : Option Addr) (t2 n : Nat) (c : Int) (w : World)  (R : Int → Int → Int → World → Prop) : Prop :=
  ∃ (I : Nat → Option Addr → Nat → Nat → Int → World → Prop) (m : Nat), I m x t2 n c w ∧ ∀ m x t2 n c w, I m x t2 n c w → kvlaw_Nums.L1b x t2 n c w  (fun x' t2' n' c' w' => ∃ m', m' < m ∧ I m' x' t2' n' c' w') R
theorem kvlaw_Nums.L1_sound {R : Int → Int → Int → World → Prop}  (x : Option Addr) (t2 n : Nat) (c : Int) (w : World) (h : kvlaw_Nums.L1 x t2 n c w  R) :
    KW Try.prog 13 18 (kvlaw_Nums.RV R) ([(0, [1, 1, 0, 1, 0, 0]), (2, [1, 1, 0, 1, 0, 0]), (1, [0]), (0, [1, 1, 1])].map (toItem (Try.f13.body.getD .skip))) [(0, .pointer x), (2, .pointer (some ⟨t2, 0, none⟩)), (3, .pointer (some ⟨n, 0, none⟩)), (4, .int .i64 c)] w := by
  obtain ⟨I, m, hBase, hr⟩ := h
  refine KW.loop (fun m σ w => ∃ (x : Option Addr) (t2 n : Nat) (c : Int), σ = [(0, .pointer x), (2, .pointer (some ⟨t2, 0, none⟩)), (3, .pointer (some ⟨n, 0, none⟩)), (4, .int .i64 c)] ∧ I m x t2 n c w) ?_ m _ w ⟨x, t2, n, c, rfl, hBase⟩
  rintro m ih σ w ⟨x, t2, n, c, rfl, hI⟩
  exact kvlaw_Nums.L1b_sound  (N1 := fun x' t2' n' c' w' => ∃ m', m' < m ∧ I m' x' t2' n' c' w') (fun x' t2' n' c' w' hx => by obtain ⟨m', hlt, hI'⟩ := hx; exact ih m' hlt _ w' ⟨x', t2', n', c', rfl, hI'⟩) x t2 n c w (hr m x t2 n c w hI)
def kvlaw_Nums.B0 (x : Option Addr) (w : World)   (R : Int → Int → Int → World → Prop) : Prop :=
  New (.cells #[.int .i64 (0 : Int), .int .i64 (0 : Int), .int .i64 (0 : Int)] 34) w fun b2 w1 =>
  New (.cells #[.int .i64 (0 : Int), .int .i64 (0 : Int), .int .i64 (0 : Int)] 34) w1 fun n_ w2 =>
  kvlaw_Nums.L1 x b2 n_ (0 : Int) w2  R
theorem kvlaw_Nums.B0_eq (x : Option Addr) (w : World)   (R : Int → Int → Int → World → Prop) (sL1 : Option Addr → Nat → Nat → Int → World → Prop) :
    (
  New (.cells #[.int .i64 (0 : Int), .int .i64 (0 : Int), .int .i64 (0 : Int)] 34) w fun b2 w1 =>
  New (.cells #[.int .i64 (0 : Int), .int .i64 (0 : Int), .int .i64 (0 : Int)] 34) w1 fun n_ w2 =>
  sL1 x b2 n_ (0 : Int) w2) = kstep Try.prog 18 Try.f13.results.toList (Try.f13.body.getD .skip) (kvlaw_Nums.RV R) (kvc Try.prog 18 Try.f13.results.toList (Try.f13.body.getD .skip) (kvlaw_Nums.RV R) [([(0, [1, 1, 0, 1, 0, 0]), (2, [1, 1, 0, 1, 0, 0]), (1, [0]), (0, [1, 1, 1])], fun σ w => dP (slotOf σ 0) fun x_ => dK (slotOf σ 2) fun t2_ => dK (slotOf σ 3) fun n_ => dI .i64 (slotOf σ 4) fun c_ => sL1 x_ t2_ n_ c_ w)] 2000) [(0, [])] [(0, .pointer x)] w := by kernel_rfl
theorem kvlaw_Nums.B0_sound {R : Int → Int → Int → World → Prop}  (x : Option Addr) (w : World) (h : kvlaw_Nums.B0 x w   R) :
    KW Try.prog 13 18 (kvlaw_Nums.RV R) ([(0, [])].map (toItem (Try.f13.body.getD .skip))) [(0, .pointer x)] w := by
  exact block_spec Try.func13 Try.mixed (stops_cons (fun σ w h => by
      obtain ⟨x_, e0, h⟩ := dP_elim h
      obtain ⟨t2_, e1, h⟩ := dK_elim h
      obtain ⟨n_, e2, h⟩ := dK_elim h
      obtain ⟨c_, e3, h⟩ := dI_elim h
      exact (kvlaw_Nums.L1_sound  x_ t2_ n_ c_ w h).weaken (Sub.cons (Sub.cons (Sub.cons (Sub.cons (Sub.nil _) e3) e2) e1) e0)) stops_nil) (Eq.mp (kvlaw_Nums.B0_eq x w   R (fun x_ t2_ n_ c_ w => kvlaw_Nums.L1 x_ t2_ n_ c_ w  R)) h)
theorem kvlaw_Nums.sound (x : Option Addr) (w : World) (R : Int → Int → Int → World → Prop) (h : kvlaw_Nums.B0 x w R) : kvlaw_Nums.Call x w R := by
  have hc := calls_of_block (args := #[.pointer x]) Try.func13 (body := (Try.f13.body.getD .skip)) (by kernel_rfl) (by kernel_rfl) (args_slot _) (kvlaw_Nums.B0_sound x w h)
  exact hc.mono fun e w' he => by
    obtain ⟨v, rfl, hv⟩ := he
    exact kvlaw_Nums.RV_elim hv
def kvm_KV_Snapshot.L2b (k b_b : Option Addr) (b_l b_c : Nat) (c : Int) (w : World)  (N2 : Option Addr → Option Addr → Nat → Nat → Int → World → Prop) (R : ByteArray → World → Prop) : Prop :=
  Bm (decide (c < (3 : Int))) (
    Pn k fun a =>
    (0 ≤ c ∧ c < ((3 : Nat) : Int)) ∧
    LdI .i64 (Addr.add (a.add 9) (c.toNat * 1)) w fun x49 =>
    api_PutU64.Call b_b b_l b_c x49 w fun r50_b r50_l r50_c w1 =>
    Pn k fun a_1 =>
    (0 ≤ c ∧ c < ((3 : Nat) : Int)) ∧
    LdI .i64 (Addr.add (a_1.add 12) (c.toNat * 2)) w1 fun x58 =>
    New (.cells #[.int .u8 (IntKind.u8.wrap x58)] 5) w1 fun b60 w2 =>
    Append 5 (.int .u8 (0 : Int)) 1 1 r50_b r50_l r50_c (some ⟨b60, 0, none⟩) 1 w2 fun b61 c61 w3 =>
    Pn k fun a_2 =>
    (0 ≤ c ∧ c < ((3 : Nat) : Int)) ∧
    LdS ((Addr.add (a_2.add 12) (c.toNat * 2)).add 1) w3 fun x69 =>
    kvm_str.Call b61 (r50_l + 1) c61 x69 w3 fun r70_b r70_l r70_c w4 =>
    N2 k r70_b r70_l r70_c (IntKind.i64.wrap (c + (1 : Int))) w4) (
    ToStr b_b b_l w fun s72 =>
    R s72 w)
theorem kvm_KV_Snapshot.L2b_eq (k b_b : Option Addr) (b_l b_c : Nat) (c : Int) (w : World)  (N2 : Option Addr → Option Addr → Nat → Nat → Int → World → Prop) (R : ByteArray → World → Prop)  :
    (
  Bm (decide (c < (3 : Int))) (
    Pn k fun a =>
    (0 ≤ c ∧ c < ((3 : Nat) : Int)) ∧
    LdI .i64 (Addr.add (a.add 9) (c.toNat * 1)) w fun x49 =>
    api_PutU64.Call b_b b_l b_c x49 w fun r50_b r50_l r50_c w1 =>
    Pn k fun a_1 =>
    (0 ≤ c ∧ c < ((3 : Nat) : Int)) ∧
    LdI .i64 (Addr.add (a_1.add 12) (c.toNat * 2)) w1 fun x58 =>
    New (.cells #[.int .u8 (IntKind.u8.wrap x58)] 5) w1 fun b60 w2 =>
    Append 5 (.int .u8 (0 : Int)) 1 1 r50_b r50_l r50_c (some ⟨b60, 0, none⟩) 1 w2 fun b61 c61 w3 =>
    Pn k fun a_2 =>
    (0 ≤ c ∧ c < ((3 : Nat) : Int)) ∧
    LdS ((Addr.add (a_2.add 12) (c.toNat * 2)).add 1) w3 fun x69 =>
    kvm_str.Call b61 (r50_l + 1) c61 x69 w3 fun r70_b r70_l r70_c w4 =>
    N2 k r70_b r70_l r70_c (IntKind.i64.wrap (c + (1 : Int))) w4) (
    ToStr b_b b_l w fun s72 =>
    R s72 w)) = kstep Try.prog 73 Try.f14.results.toList (Try.f14.body.getD .skip) (kvm_KV_Snapshot.RV R) (kvc Try.prog 73 Try.f14.results.toList (Try.f14.body.getD .skip) (kvm_KV_Snapshot.RV R) [([(0, [1, 1, 1, 1, 0, 1, 0, 0]), (2, [1, 1, 1, 1, 0, 1, 0, 0]), (1, [2]), (0, [1, 1, 1, 1, 1])], fun σ w => dP (slotOf σ 0) fun k_ => dL (slotOf σ 3) fun b_b_ b_l_ b_c_ => dI .i64 (slotOf σ 5) fun c_ => N2 k_ b_b_ b_l_ b_c_ c_ w)] 2000) [(0, [1, 1, 1, 1, 0, 1, 0, 0]), (2, [1, 1, 1, 1, 0, 1, 0, 0]), (1, [2]), (0, [1, 1, 1, 1, 1])] [(0, .pointer k), (3, .slice b_b b_l b_c), (5, .int .i64 c)] w := by kernel_rfl
theorem kvm_KV_Snapshot.L2b_sound {R : ByteArray → World → Prop} {N2 : Option Addr → Option Addr → Nat → Nat → Int → World → Prop} (hN2 : ∀ k b_b b_l b_c c w, N2 k b_b b_l b_c c w → KW Try.prog 14 73 (kvm_KV_Snapshot.RV R) ([(0, [1, 1, 1, 1, 0, 1, 0, 0]), (2, [1, 1, 1, 1, 0, 1, 0, 0]), (1, [2]), (0, [1, 1, 1, 1, 1])].map (toItem (Try.f14.body.getD .skip))) [(0, .pointer k), (3, .slice b_b b_l b_c), (5, .int .i64 c)] w) (k b_b : Option Addr) (b_l b_c : Nat) (c : Int) (w : World) (h : kvm_KV_Snapshot.L2b k b_b b_l b_c c w  N2 R) :
    KW Try.prog 14 73 (kvm_KV_Snapshot.RV R) ([(0, [1, 1, 1, 1, 0, 1, 0, 0]), (2, [1, 1, 1, 1, 0, 1, 0, 0]), (1, [2]), (0, [1, 1, 1, 1, 1])].map (toItem (Try.f14.body.getD .skip))) [(0, .pointer k), (3, .slice b_b b_l b_c), (5, .int .i64 c)] w := by
  exact block_spec Try.func14 Try.mixed (stops_cons (fun σ w h => by
      obtain ⟨k_, e0, h⟩ := dP_elim h
      obtain ⟨b_b_, b_l_, b_c_, e1, h⟩ := dL_elim h
      obtain ⟨c_, e2, h⟩ := dI_elim h
      exact (hN2 k_ b_b_ b_l_ b_c_ c_ w h).weaken (Sub.cons (Sub.cons (Sub.cons (Sub.nil _) e2) e1) e0)) stops_nil) (Eq.mp (kvm_KV_Snapshot.L2b_eq k b_b b_l b_c c w  N2 R ) h)
def kvm_KV_Snapshot.L2 (k b_b : Option Addr) (b_l b_c : Nat) (c : Int) (w : World)  (R : ByteArray → World → Prop) : Prop :=
  ∃ (I : Nat → Option Addr → Option Addr → Nat → Nat → Int → World → Prop) (m : Nat), I m k b_b b_l b_c c w ∧ ∀ m k b_b b_l b_c c w, I m k b_b b_l b_c c w → kvm_KV_Snapshot.L2b k b_b b_l b_c c w  (fun k' b_b' b_l' b_c' c' w' => ∃ m', m' < m ∧ I m' k' b_b' b_l' b_c' c' w') R
theorem kvm_KV_Snapshot.L2_sound {R : ByteArray → World → Prop}  (k b_b : Option Addr) (b_l b_c : Nat) (c : Int) (w : World) (h : kvm_KV_Snapshot.L2 k b_b b_l b_c c w  R) :
    KW Try.prog 14 73 (kvm_KV_Snapshot.RV R) ([(0, [1, 1, 1, 1, 0, 1, 0, 0]), (2, [1, 1, 1, 1, 0, 1, 0, 0]), (1, [2]), (0, [1, 1, 1, 1, 1])].map (toItem (Try.f14.body.getD .skip))) [(0, .pointer k), (3, .slice b_b b_l b_c), (5, .int .i64 c)] w := by
  obtain ⟨I, m, hBase, hr⟩ := h
  refine KW.loop (fun m σ w => ∃ (k b_b : Option Addr) (b_l b_c : Nat) (c : Int), σ = [(0, .pointer k), (3, .slice b_b b_l b_c), (5, .int .i64 c)] ∧ I m k b_b b_l b_c c w) ?_ m _ w ⟨k, b_b, b_l, b_c, c, rfl, hBase⟩
  rintro m ih σ w ⟨k, b_b, b_l, b_c, c, rfl, hI⟩
  exact kvm_KV_Snapshot.L2b_sound  (N2 := fun k' b_b' b_l' b_c' c' w' => ∃ m', m' < m ∧ I m' k' b_b' b_l' b_c' c' w') (fun k' b_b' b_l' b_c' c' w' hx => by obtain ⟨m', hlt, hI'⟩ := hx; exact ih m' hlt _ w' ⟨k', b_b', b_l', b_c', c', rfl, hI'⟩) k b_b b_l b_c c w (hr m k b_b b_l b_c c w hI)
def kvm_KV_Snapshot.L1b (k b_b : Option Addr) (b_l b_c : Nat) (i : Int) (w : World)  (N1 : Option Addr → Option Addr → Nat → Nat → Int → World → Prop) (R : ByteArray → World → Prop) : Prop :=
  Pn k fun a =>
  LdI .i64 a w fun x19 =>
  Bm (decide (i < x19)) (
    Pn k fun a_1 =>
    (0 ≤ i ∧ i < ((4 : Nat) : Int)) ∧
    LdS (Addr.add (a_1.add 1) (i.toNat * 1)) w fun x29 =>
    kvm_str.Call b_b b_l b_c x29 w fun r30_b r30_l r30_c w1 =>
    Pn k fun a_2 =>
    (0 ≤ i ∧ i < ((4 : Nat) : Int)) ∧
    LdS (Addr.add (a_2.add 5) (i.toNat * 1)) w1 fun x37 =>
    kvm_str.Call r30_b r30_l r30_c x37 w1 fun r38_b r38_l r38_c w2 =>
    N1 k r38_b r38_l r38_c (IntKind.i64.wrap (i + (1 : Int))) w2) (
    kvm_KV_Snapshot.L2 k b_b b_l b_c (0 : Int) w  R)
theorem kvm_KV_Snapshot.L1b_eq (k b_b : Option Addr) (b_l b_c : Nat) (i : Int) (w : World)  (N1 : Option Addr → Option Addr → Nat → Nat → Int → World → Prop) (R : ByteArray → World → Prop) (sL2 : Option Addr → Option Addr → Nat → Nat → Int → World → Prop) :
    (
  Pn k fun a =>
  LdI .i64 a w fun x19 =>
  Bm (decide (i < x19)) (
    Pn k fun a_1 =>
    (0 ≤ i ∧ i < ((4 : Nat) : Int)) ∧
    LdS (Addr.add (a_1.add 1) (i.toNat * 1)) w fun x29 =>
    kvm_str.Call b_b b_l b_c x29 w fun r30_b r30_l r30_c w1 =>
    Pn k fun a_2 =>
    (0 ≤ i ∧ i < ((4 : Nat) : Int)) ∧
    LdS (Addr.add (a_2.add 5) (i.toNat * 1)) w1 fun x37 =>
    kvm_str.Call r30_b r30_l r30_c x37 w1 fun r38_b r38_l r38_c w2 =>
    N1 k r38_b r38_l r38_c (IntKind.i64.wrap (i + (1 : Int))) w2) (
    sL2 k b_b b_l b_c (0 : Int) w)) = kstep Try.prog 73 Try.f14.results.toList (Try.f14.body.getD .skip) (kvm_KV_Snapshot.RV R) (kvc Try.prog 73 Try.f14.results.toList (Try.f14.body.getD .skip) (kvm_KV_Snapshot.RV R) [([(0, [1, 1, 1, 0, 1, 0, 0]), (2, [1, 1, 1, 0, 1, 0, 0]), (1, [0]), (0, [1, 1, 1, 1])], fun σ w => dP (slotOf σ 0) fun k_ => dL (slotOf σ 3) fun b_b_ b_l_ b_c_ => dI .i64 (slotOf σ 4) fun i_ => N1 k_ b_b_ b_l_ b_c_ i_ w),
    ([(0, [1, 1, 1, 1, 0, 1, 0, 0]), (2, [1, 1, 1, 1, 0, 1, 0, 0]), (1, [2]), (0, [1, 1, 1, 1, 1])], fun σ w => dP (slotOf σ 0) fun k_ => dL (slotOf σ 3) fun b_b_ b_l_ b_c_ => dI .i64 (slotOf σ 5) fun c_ => sL2 k_ b_b_ b_l_ b_c_ c_ w)] 2000) [(0, [1, 1, 1, 0, 1, 0, 0]), (2, [1, 1, 1, 0, 1, 0, 0]), (1, [0]), (0, [1, 1, 1, 1])] [(0, .pointer k), (3, .slice b_b b_l b_c), (4, .int .i64 i)] w := by kernel_rfl
theorem kvm_KV_Snapshot.L1b_sound {R : ByteArray → World → Prop} {N1 : Option Addr → Option Addr → Nat → Nat → Int → World → Prop} (hN1 : ∀ k b_b b_l b_c i w, N1 k b_b b_l b_c i w → KW Try.prog 14 73 (kvm_KV_Snapshot.RV R) ([(0, [1, 1, 1, 0, 1, 0, 0]), (2, [1, 1, 1, 0, 1, 0, 0]), (1, [0]), (0, [1, 1, 1, 1])].map (toItem (Try.f14.body.getD .skip))) [(0, .pointer k), (3, .slice b_b b_l b_c), (4, .int .i64 i)] w) (k b_b : Option Addr) (b_l b_c : Nat) (i : Int) (w : World) (h : kvm_KV_Snapshot.L1b k b_b b_l b_c i w  N1 R) :
    KW Try.prog 14 73 (kvm_KV_Snapshot.RV R) ([(0, [1, 1, 1, 0, 1, 0, 0]), (2, [1, 1, 1, 0, 1, 0, 0]), (1, [0]), (0, [1, 1, 1, 1])].map (toItem (Try.f14.body.getD .skip))) [(0, .pointer k), (3, .slice b_b b_l b_c), (4, .int .i64 i)] w := by
  exact block_spec Try.func14 Try.mixed (stops_cons (fun σ w h => by
      obtain ⟨k_, e0, h⟩ := dP_elim h
      obtain ⟨b_b_, b_l_, b_c_, e1, h⟩ := dL_elim h
      obtain ⟨i_, e2, h⟩ := dI_elim h
      exact (hN1 k_ b_b_ b_l_ b_c_ i_ w h).weaken (Sub.cons (Sub.cons (Sub.cons (Sub.nil _) e2) e1) e0)) (stops_cons (fun σ w h => by
      obtain ⟨k_, e0, h⟩ := dP_elim h
      obtain ⟨b_b_, b_l_, b_c_, e1, h⟩ := dL_elim h
      obtain ⟨c_, e2, h⟩ := dI_elim h
      exact (kvm_KV_Snapshot.L2_sound  k_ b_b_ b_l_ b_c_ c_ w h).weaken (Sub.cons (Sub.cons (Sub.cons (Sub.nil _) e2) e1) e0)) stops_nil)) (Eq.mp (kvm_KV_Snapshot.L1b_eq k b_b b_l b_c i w  N1 R (fun k_ b_b_ b_l_ b_c_ c_ w => kvm_KV_Snapshot.L2 k_ b_b_ b_l_ b_c_ c_ w  R)) h)
def kvm_KV_Snapshot.L1 (k b_b : Option Addr) (b_l b_c : Nat) (i : Int) (w : World)  (R : ByteArray → World → Prop) : Prop :=
  ∃ (I : Nat → Option Addr → Option Addr → Nat → Nat → Int → World → Prop) (m : Nat), I m k b_b b_l b_c i w ∧ ∀ m k b_b b_l b_c i w, I m k b_b b_l b_c i w → kvm_KV_Snapshot.L1b k b_b b_l b_c i w  (fun k' b_b' b_l' b_c' i' w' => ∃ m', m' < m ∧ I m' k' b_b' b_l' b_c' i' w') R
theorem kvm_KV_Snapshot.L1_sound {R : ByteArray → World → Prop}  (k b_b : Option Addr) (b_l b_c : Nat) (i : Int) (w : World) (h : kvm_KV_Snapshot.L1 k b_b b_l b_c i w  R) :
    KW Try.prog 14 73 (kvm_KV_Snapshot.RV R) ([(0, [1, 1, 1, 0, 1, 0, 0]), (2, [1, 1, 1, 0, 1, 0, 0]), (1, [0]), (0, [1, 1, 1, 1])].map (toItem (Try.f14.body.getD .skip))) [(0, .pointer k), (3, .slice b_b b_l b_c), (4, .int .i64 i)] w := by
  obtain ⟨I, m, hBase, hr⟩ := h
  refine KW.loop (fun m σ w => ∃ (k b_b : Option Addr) (b_l b_c : Nat) (i : Int), σ = [(0, .pointer k), (3, .slice b_b b_l b_c), (4, .int .i64 i)] ∧ I m k b_b b_l b_c i w) ?_ m _ w ⟨k, b_b, b_l, b_c, i, rfl, hBase⟩
  rintro m ih σ w ⟨k, b_b, b_l, b_c, i, rfl, hI⟩
  exact kvm_KV_Snapshot.L1b_sound  (N1 := fun k' b_b' b_l' b_c' i' w' => ∃ m', m' < m ∧ I m' k' b_b' b_l' b_c' i' w') (fun k' b_b' b_l' b_c' i' w' hx => by obtain ⟨m', hlt, hI'⟩ := hx; exact ih m' hlt _ w' ⟨k', b_b', b_l', b_c', i', rfl, hI'⟩) k b_b b_l b_c i w (hr m k b_b b_l b_c i w hI)
def kvm_KV_Snapshot.B0 (k : Option Addr) (w : World)   (R : ByteArray → World → Prop) : Prop :=
  Make 5 (.int .u8 (0 : Int)) 1 1 (0 : Int) (128 : Int) w fun b6 w1 =>
  Pn k fun a =>
  LdI .i64 a w1 fun x11 =>
  New (.cells #[.int .u8 (IntKind.u8.wrap x11)] 5) w1 fun b13 w2 =>
  Append 5 (.int .u8 (0 : Int)) 1 1 (some ⟨b6, 0, none⟩) 0 128 (some ⟨b13, 0, none⟩) 1 w2 fun b14 c14 w3 =>
  kvm_KV_Snapshot.L1 k b14 (0 + 1) c14 (0 : Int) w3  R
theorem kvm_KV_Snapshot.B0_eq (k : Option Addr) (w : World)   (R : ByteArray → World → Prop) (sL1 : Option Addr → Option Addr → Nat → Nat → Int → World → Prop) :
    (
  Make 5 (.int .u8 (0 : Int)) 1 1 (0 : Int) (128 : Int) w fun b6 w1 =>
  Pn k fun a =>
  LdI .i64 a w1 fun x11 =>
  New (.cells #[.int .u8 (IntKind.u8.wrap x11)] 5) w1 fun b13 w2 =>
  Append 5 (.int .u8 (0 : Int)) 1 1 (some ⟨b6, 0, none⟩) 0 128 (some ⟨b13, 0, none⟩) 1 w2 fun b14 c14 w3 =>
  sL1 k b14 (0 + 1) c14 (0 : Int) w3) = kstep Try.prog 73 Try.f14.results.toList (Try.f14.body.getD .skip) (kvm_KV_Snapshot.RV R) (kvc Try.prog 73 Try.f14.results.toList (Try.f14.body.getD .skip) (kvm_KV_Snapshot.RV R) [([(0, [1, 1, 1, 0, 1, 0, 0]), (2, [1, 1, 1, 0, 1, 0, 0]), (1, [0]), (0, [1, 1, 1, 1])], fun σ w => dP (slotOf σ 0) fun k_ => dL (slotOf σ 3) fun b_b_ b_l_ b_c_ => dI .i64 (slotOf σ 4) fun i_ => sL1 k_ b_b_ b_l_ b_c_ i_ w)] 2000) [(0, [])] [(0, .pointer k)] w := by kernel_rfl
theorem kvm_KV_Snapshot.B0_sound {R : ByteArray → World → Prop}  (k : Option Addr) (w : World) (h : kvm_KV_Snapshot.B0 k w   R) :
    KW Try.prog 14 73 (kvm_KV_Snapshot.RV R) ([(0, [])].map (toItem (Try.f14.body.getD .skip))) [(0, .pointer k)] w := by
  exact block_spec Try.func14 Try.mixed (stops_cons (fun σ w h => by
      obtain ⟨k_, e0, h⟩ := dP_elim h
      obtain ⟨b_b_, b_l_, b_c_, e1, h⟩ := dL_elim h
      obtain ⟨i_, e2, h⟩ := dI_elim h
      exact (kvm_KV_Snapshot.L1_sound  k_ b_b_ b_l_ b_c_ i_ w h).weaken (Sub.cons (Sub.cons (Sub.cons (Sub.nil _) e2) e1) e0)) stops_nil) (Eq.mp (kvm_KV_Snapshot.B0_eq k w   R (fun k_ b_b_ b_l_ b_c_ i_ w => kvm_KV_Snapshot.L1 k_ b_b_ b_l_ b_c_ i_ w  R)) h)
theorem kvm_KV_Snapshot.sound (k : Option Addr) (w : World) (R : ByteArray → World → Prop) (h : kvm_KV_Snapshot.B0 k w R) : kvm_KV_Snapshot.Call k w R := by
  have hc := calls_of_block (args := #[.pointer k]) Try.func14 (body := (Try.f14.body.getD .skip)) (by kernel_rfl) (by kernel_rfl) (args_slot _) (kvm_KV_Snapshot.B0_sound k w h)
  exact hc.mono fun e w' he => by
    obtain ⟨v, rfl, hv⟩ := he
    exact kvm_KV_Snapshot.RV_elim hv
def kvlaw_SameRestore.B0 (x m0 : Option Addr) (s : ByteArray) (w : World)   (R : Bool → World → Prop) : Prop :=
  kv_KV_Restore.Call x s w fun r11 w1 =>
  kvm_KV_Restore.Call m0 s w1 fun r14 w2 =>
  R (r11 == r14) w2
theorem kvlaw_SameRestore.B0_eq (x m0 : Option Addr) (s : ByteArray) (w : World)   (R : Bool → World → Prop)  :
    (
  kv_KV_Restore.Call x s w fun r11 w1 =>
  kvm_KV_Restore.Call m0 s w1 fun r14 w2 =>
  R (r11 == r14) w2) = kstep Try.prog 18 Try.f15.results.toList (Try.f15.body.getD .skip) (kvlaw_SameRestore.RV R) (kvc Try.prog 18 Try.f15.results.toList (Try.f15.body.getD .skip) (kvlaw_SameRestore.RV R) [] 2000) [(0, [])] [(0, .pointer x), (1, .pointer m0), (2, .string s)] w := by kernel_rfl
theorem kvlaw_SameRestore.B0_sound {R : Bool → World → Prop}  (x m0 : Option Addr) (s : ByteArray) (w : World) (h : kvlaw_SameRestore.B0 x m0 s w   R) :
    KW Try.prog 15 18 (kvlaw_SameRestore.RV R) ([(0, [])].map (toItem (Try.f15.body.getD .skip))) [(0, .pointer x), (1, .pointer m0), (2, .string s)] w := by
  exact block_spec Try.func15 Try.mixed stops_nil (Eq.mp (kvlaw_SameRestore.B0_eq x m0 s w   R ) h)
theorem kvlaw_SameRestore.sound (x m0 : Option Addr) (s : ByteArray) (w : World) (R : Bool → World → Prop) (h : kvlaw_SameRestore.B0 x m0 s w R) : kvlaw_SameRestore.Call x m0 s w R := by
  have hc := calls_of_block (args := #[.pointer x, .pointer m0, .string s]) Try.func15 (body := (Try.f15.body.getD .skip)) (by kernel_rfl) (by kernel_rfl) (args_slot _) (kvlaw_SameRestore.B0_sound x m0 s w h)
  exact hc.mono fun e w' he => by
    obtain ⟨v, rfl, hv⟩ := he
    exact kvlaw_SameRestore.RV_elim hv
def kvlaw_Play.B0 (x m0 : Option Addr) (o_0 o_1 o_2 o_3 : Int) (o_4 o_5 : ByteArray) (w : World)   (R : Bool → World → Prop) : Prop :=
  New (.cells #[.int .i64 o_0, .int .i64 o_1, .int .i64 o_2, .int .i64 o_3, .string o_4, .string o_5] 33) w fun o_ w1 =>
  LdI .i64 ⟨o_, 0, none⟩ w1 fun x10 =>
  Bm (x10 == (1 : Int)) (
    LdS ⟨o_, 4, none⟩ w1 fun x16 =>
    kvlaw_SameApply.Call x m0 x16 w1 fun r17 w2 =>
    R r17 w2) (
    Bm (x10 == (2 : Int)) (
      LdI .i64 ⟨o_, 0, none⟩ w1 fun x20_0 =>
      LdI .i64 ⟨o_, 1, none⟩ w1 fun x20_1 =>
      LdI .i64 ⟨o_, 2, none⟩ w1 fun x20_2 =>
      LdI .i64 ⟨o_, 3, none⟩ w1 fun x20_3 =>
      LdS ⟨o_, 4, none⟩ w1 fun x20_4 =>
      LdS ⟨o_, 5, none⟩ w1 fun x20_5 =>
      kvlaw_CmdOf.Call x20_0 x20_1 x20_2 x20_3 x20_4 x20_5 w1 fun r21_0 r21_1 r21_2 r21_3 r21_4 r21_5 w3 =>
      New (.cells #[.int .i64 (0 : Int), .int .i64 (0 : Int), .int .i64 (0 : Int), .string (ByteArray.mk #[]), .string (ByteArray.mk #[]), .string (ByteArray.mk #[])] 71) w3 fun c_ w4 =>
      Sts [.int .i64 r21_0, .int .i64 r21_1, .int .i64 r21_2, .string r21_3, .string r21_4, .string r21_5] ⟨c_, 0, none⟩ 0 w4 fun w5 =>
      LdI .i64 ⟨c_, 0, none⟩ w5 fun x22_0 =>
      LdI .i64 ⟨c_, 1, none⟩ w5 fun x22_1 =>
      LdI .i64 ⟨c_, 2, none⟩ w5 fun x22_2 =>
      LdS ⟨c_, 3, none⟩ w5 fun x22_3 =>
      LdS ⟨c_, 4, none⟩ w5 fun x22_4 =>
      LdS ⟨c_, 5, none⟩ w5 fun x22_5 =>
      api_EncodeCmd.Call x22_0 x22_1 x22_2 x22_3 x22_4 x22_5 w5 fun r23 w6 =>
      kvlaw_SameApply.Call x m0 r23 w6 fun r27 w7 =>
      R r27 w7) (
      Bm (x10 == (3 : Int)) (
        LdS ⟨o_, 4, none⟩ w1 fun x33 =>
        kvlaw_SameRestore.Call x m0 x33 w1 fun r34 w8 =>
        R r34 w8) (
        Bm (x10 == (5 : Int)) (
          LdS ⟨o_, 4, none⟩ w1 fun x40 =>
          kvlaw_SameVal.Call x m0 x40 w1 fun r41 w9 =>
          R r41 w9) (
          Bm (x10 == (6 : Int)) (
            LdI .i64 ⟨o_, 1, none⟩ w1 fun x47 =>
            kvlaw_SameKeyAt.Call x m0 x47 w1 fun r48 w10 =>
            R r48 w10) (
            Bm (x10 == (7 : Int)) (
              LdI .i64 ⟨o_, 1, none⟩ w1 fun x54 =>
              kvlaw_SameSess.Call x m0 x54 w1 fun r55 w11 =>
              R r55 w11) (
              Bm (x10 == (21 : Int)) (
                kvlaw_SameLen.Call x m0 w1 fun r60 w12 =>
                R r60 w12) (
                Bm (x10 == (22 : Int)) (
                  kvlaw_SameSnapshot.Call x m0 w1 fun r65 w13 =>
                  R r65 w13) (
                  Bm (x10 == (23 : Int)) (
                    kvlaw_Sound.Call x w1 fun r69 w14 =>
                    R r69 w14) (
                    R true w1)))))))))
theorem kvlaw_Play.B0_eq (x m0 : Option Addr) (o_0 o_1 o_2 o_3 : Int) (o_4 o_5 : ByteArray) (w : World)   (R : Bool → World → Prop)  :
    (
  New (.cells #[.int .i64 o_0, .int .i64 o_1, .int .i64 o_2, .int .i64 o_3, .string o_4, .string o_5] 33) w fun o_ w1 =>
  LdI .i64 ⟨o_, 0, none⟩ w1 fun x10 =>
  Bm (x10 == (1 : Int)) (
    LdS ⟨o_, 4, none⟩ w1 fun x16 =>
    kvlaw_SameApply.Call x m0 x16 w1 fun r17 w2 =>
    R r17 w2) (
    Bm (x10 == (2 : Int)) (
      LdI .i64 ⟨o_, 0, none⟩ w1 fun x20_0 =>
      LdI .i64 ⟨o_, 1, none⟩ w1 fun x20_1 =>
      LdI .i64 ⟨o_, 2, none⟩ w1 fun x20_2 =>
      LdI .i64 ⟨o_, 3, none⟩ w1 fun x20_3 =>
      LdS ⟨o_, 4, none⟩ w1 fun x20_4 =>
      LdS ⟨o_, 5, none⟩ w1 fun x20_5 =>
      kvlaw_CmdOf.Call x20_0 x20_1 x20_2 x20_3 x20_4 x20_5 w1 fun r21_0 r21_1 r21_2 r21_3 r21_4 r21_5 w3 =>
      New (.cells #[.int .i64 (0 : Int), .int .i64 (0 : Int), .int .i64 (0 : Int), .string (ByteArray.mk #[]), .string (ByteArray.mk #[]), .string (ByteArray.mk #[])] 71) w3 fun c_ w4 =>
      Sts [.int .i64 r21_0, .int .i64 r21_1, .int .i64 r21_2, .string r21_3, .string r21_4, .string r21_5] ⟨c_, 0, none⟩ 0 w4 fun w5 =>
      LdI .i64 ⟨c_, 0, none⟩ w5 fun x22_0 =>
      LdI .i64 ⟨c_, 1, none⟩ w5 fun x22_1 =>
      LdI .i64 ⟨c_, 2, none⟩ w5 fun x22_2 =>
      LdS ⟨c_, 3, none⟩ w5 fun x22_3 =>
      LdS ⟨c_, 4, none⟩ w5 fun x22_4 =>
      LdS ⟨c_, 5, none⟩ w5 fun x22_5 =>
      api_EncodeCmd.Call x22_0 x22_1 x22_2 x22_3 x22_4 x22_5 w5 fun r23 w6 =>
      kvlaw_SameApply.Call x m0 r23 w6 fun r27 w7 =>
      R r27 w7) (
      Bm (x10 == (3 : Int)) (
        LdS ⟨o_, 4, none⟩ w1 fun x33 =>
        kvlaw_SameRestore.Call x m0 x33 w1 fun r34 w8 =>
        R r34 w8) (
        Bm (x10 == (5 : Int)) (
          LdS ⟨o_, 4, none⟩ w1 fun x40 =>
          kvlaw_SameVal.Call x m0 x40 w1 fun r41 w9 =>
          R r41 w9) (
          Bm (x10 == (6 : Int)) (
            LdI .i64 ⟨o_, 1, none⟩ w1 fun x47 =>
            kvlaw_SameKeyAt.Call x m0 x47 w1 fun r48 w10 =>
            R r48 w10) (
            Bm (x10 == (7 : Int)) (
              LdI .i64 ⟨o_, 1, none⟩ w1 fun x54 =>
              kvlaw_SameSess.Call x m0 x54 w1 fun r55 w11 =>
              R r55 w11) (
              Bm (x10 == (21 : Int)) (
                kvlaw_SameLen.Call x m0 w1 fun r60 w12 =>
                R r60 w12) (
                Bm (x10 == (22 : Int)) (
                  kvlaw_SameSnapshot.Call x m0 w1 fun r65 w13 =>
                  R r65 w13) (
                  Bm (x10 == (23 : Int)) (
                    kvlaw_Sound.Call x w1 fun r69 w14 =>
                    R r69 w14) (
                    R true w1)))))))))) = kstep Try.prog 70 Try.f16.results.toList (Try.f16.body.getD .skip) (kvlaw_Play.RV R) (kvc Try.prog 70 Try.f16.results.toList (Try.f16.body.getD .skip) (kvlaw_Play.RV R) [] 2000) [(0, [])] [(0, .pointer x), (1, .pointer m0), (2, .agg #[.int .i64 o_0, .int .i64 o_1, .int .i64 o_2, .int .i64 o_3, .string o_4, .string o_5])] w := by kernel_rfl
theorem kvlaw_Play.B0_sound {R : Bool → World → Prop}  (x m0 : Option Addr) (o_0 o_1 o_2 o_3 : Int) (o_4 o_5 : ByteArray) (w : World) (h : kvlaw_Play.B0 x m0 o_0 o_1 o_2 o_3 o_4 o_5 w   R) :
    KW Try.prog 16 70 (kvlaw_Play.RV R) ([(0, [])].map (toItem (Try.f16.body.getD .skip))) [(0, .pointer x), (1, .pointer m0), (2, .agg #[.int .i64 o_0, .int .i64 o_1, .int .i64 o_2, .int .i64 o_3, .string o_4, .string o_5])] w := by
  exact block_spec Try.func16 Try.mixed stops_nil (Eq.mp (kvlaw_Play.B0_eq x m0 o_0 o_1 o_2 o_3 o_4 o_5 w   R ) h)
theorem kvlaw_Play.sound (x m0 : Option Addr) (o_0 o_1 o_2 o_3 : Int) (o_4 o_5 : ByteArray) (w : World) (R : Bool → World → Prop) (h : kvlaw_Play.B0 x m0 o_0 o_1 o_2 o_3 o_4 o_5 w R) : kvlaw_Play.Call x m0 o_0 o_1 o_2 o_3 o_4 o_5 w R := by
  have hc := calls_of_block (args := #[.pointer x, .pointer m0, .agg #[.int .i64 o_0, .int .i64 o_1, .int .i64 o_2, .int .i64 o_3, .string o_4, .string o_5]]) Try.func16 (body := (Try.f16.body.getD .skip)) (by kernel_rfl) (by kernel_rfl) (args_slot _) (kvlaw_Play.B0_sound x m0 o_0 o_1 o_2 o_3 o_4 o_5 w h)
  exact hc.mono fun e w' he => by
    obtain ⟨v, rfl, hv⟩ := he
    exact kvlaw_Play.RV_elim hv
def kvlaw_Lemma.B2 (was : ByteArray) (nums : Nat) (now data : ByteArray) (w : World)   (R : Bool → World → Prop) : Prop :=
  api_DecodeCmd.Call data w fun r57_0_0 r57_0_1 r57_0_2 r57_0_3 r57_0_4 r57_0_5 r57_1 w1 =>
  New (.cells #[.int .i64 (0 : Int), .int .i64 (0 : Int), .int .i64 (0 : Int), .string (ByteArray.mk #[]), .string (ByteArray.mk #[]), .string (ByteArray.mk #[])] 71) w1 fun c_ w2 =>
  Sts [.int .i64 r57_0_0, .int .i64 r57_0_1, .int .i64 r57_0_2, .string r57_0_3, .string r57_0_4, .string r57_0_5] ⟨c_, 0, none⟩ 0 w2 fun w3 =>
  Bm (r57_1 != (0 : Int)) (
    R (now.toList == was.toList) w3) (
    LdI .i64 ⟨c_, 2, none⟩ w3.drew fun x66 =>
    LdI .i64 ⟨c_, 1, none⟩ w3.drew fun x68 =>
    (0 ≤ x68 ∧ x68 < ((3 : Nat) : Int)) ∧
    LdI .i64 (Addr.add ⟨nums, 0, none⟩ (x68.toNat * 1)) w3.drew fun x70 =>
    Bm (decide (x66 ≤ x70)) (
      R (now.toList == was.toList) w3.drew) (
      R true w3.drew))
theorem kvlaw_Lemma.B2_eq (was : ByteArray) (nums : Nat) (now data : ByteArray) (w : World)   (R : Bool → World → Prop)  :
    (
  api_DecodeCmd.Call data w fun r57_0_0 r57_0_1 r57_0_2 r57_0_3 r57_0_4 r57_0_5 r57_1 w1 =>
  New (.cells #[.int .i64 (0 : Int), .int .i64 (0 : Int), .int .i64 (0 : Int), .string (ByteArray.mk #[]), .string (ByteArray.mk #[]), .string (ByteArray.mk #[])] 71) w1 fun c_ w2 =>
  Sts [.int .i64 r57_0_0, .int .i64 r57_0_1, .int .i64 r57_0_2, .string r57_0_3, .string r57_0_4, .string r57_0_5] ⟨c_, 0, none⟩ 0 w2 fun w3 =>
  Bm (r57_1 != (0 : Int)) (
    R (now.toList == was.toList) w3) (
    LdI .i64 ⟨c_, 2, none⟩ w3.drew fun x66 =>
    LdI .i64 ⟨c_, 1, none⟩ w3.drew fun x68 =>
    (0 ≤ x68 ∧ x68 < ((3 : Nat) : Int)) ∧
    LdI .i64 (Addr.add ⟨nums, 0, none⟩ (x68.toNat * 1)) w3.drew fun x70 =>
    Bm (decide (x66 ≤ x70)) (
      R (now.toList == was.toList) w3.drew) (
      R true w3.drew))) = kstep Try.prog 75 Try.f17.results.toList (Try.f17.body.getD .skip) (kvlaw_Lemma.RV R) (kvc Try.prog 75 Try.f17.results.toList (Try.f17.body.getD .skip) (kvlaw_Lemma.RV R) [] 2000) [(0, [1, 1, 1, 1, 1, 1])] [(2, .string was), (7, .pointer (some ⟨nums, 0, none⟩)), (9, .string now), (12, .string data)] w := by kernel_rfl
theorem kvlaw_Lemma.B2_sound {R : Bool → World → Prop}  (was : ByteArray) (nums : Nat) (now data : ByteArray) (w : World) (h : kvlaw_Lemma.B2 was nums now data w   R) :
    KW Try.prog 17 75 (kvlaw_Lemma.RV R) ([(0, [1, 1, 1, 1, 1, 1])].map (toItem (Try.f17.body.getD .skip))) [(2, .string was), (7, .pointer (some ⟨nums, 0, none⟩)), (9, .string now), (12, .string data)] w := by
  exact block_spec Try.func17 Try.mixed stops_nil (Eq.mp (kvlaw_Lemma.B2_eq was nums now data w   R ) h)
def kvlaw_Lemma.B1 (was : ByteArray) (o nums : Nat) (now : ByteArray) (t42 : Bool) (w : World)   (R : Bool → World → Prop) : Prop :=
  Bm t42 (
    R (now.toList == was.toList) w) (
    LdS ⟨o, 4, none⟩ w fun x47 =>
    LdI .i64 ⟨o, 0, none⟩ w fun x49 =>
    Bm (x49 == (2 : Int)) (
      LdI .i64 ⟨o, 0, none⟩ w fun x51_0 =>
      LdI .i64 ⟨o, 1, none⟩ w fun x51_1 =>
      LdI .i64 ⟨o, 2, none⟩ w fun x51_2 =>
      LdI .i64 ⟨o, 3, none⟩ w fun x51_3 =>
      LdS ⟨o, 4, none⟩ w fun x51_4 =>
      LdS ⟨o, 5, none⟩ w fun x51_5 =>
      kvlaw_CmdOf.Call x51_0 x51_1 x51_2 x51_3 x51_4 x51_5 w fun r52_0 r52_1 r52_2 r52_3 r52_4 r52_5 w1 =>
      New (.cells #[.int .i64 (0 : Int), .int .i64 (0 : Int), .int .i64 (0 : Int), .string (ByteArray.mk #[]), .string (ByteArray.mk #[]), .string (ByteArray.mk #[])] 71) w1 fun c_ w2 =>
      Sts [.int .i64 r52_0, .int .i64 r52_1, .int .i64 r52_2, .string r52_3, .string r52_4, .string r52_5] ⟨c_, 0, none⟩ 0 w2 fun w3 =>
      LdI .i64 ⟨c_, 0, none⟩ w3 fun x53_0 =>
      LdI .i64 ⟨c_, 1, none⟩ w3 fun x53_1 =>
      LdI .i64 ⟨c_, 2, none⟩ w3 fun x53_2 =>
      LdS ⟨c_, 3, none⟩ w3 fun x53_3 =>
      LdS ⟨c_, 4, none⟩ w3 fun x53_4 =>
      LdS ⟨c_, 5, none⟩ w3 fun x53_5 =>
      api_EncodeCmd.Call x53_0 x53_1 x53_2 x53_3 x53_4 x53_5 w3 fun r54 w4 =>
      kvlaw_Lemma.B2 was nums now r54 w4  R) (
      kvlaw_Lemma.B2 was nums now x47 w  R))
theorem kvlaw_Lemma.B1_eq (was : ByteArray) (o nums : Nat) (now : ByteArray) (t42 : Bool) (w : World)   (R : Bool → World → Prop) (sB2 : ByteArray → Nat → ByteArray → ByteArray → World → Prop) :
    (
  Bm t42 (
    R (now.toList == was.toList) w) (
    LdS ⟨o, 4, none⟩ w fun x47 =>
    LdI .i64 ⟨o, 0, none⟩ w fun x49 =>
    Bm (x49 == (2 : Int)) (
      LdI .i64 ⟨o, 0, none⟩ w fun x51_0 =>
      LdI .i64 ⟨o, 1, none⟩ w fun x51_1 =>
      LdI .i64 ⟨o, 2, none⟩ w fun x51_2 =>
      LdI .i64 ⟨o, 3, none⟩ w fun x51_3 =>
      LdS ⟨o, 4, none⟩ w fun x51_4 =>
      LdS ⟨o, 5, none⟩ w fun x51_5 =>
      kvlaw_CmdOf.Call x51_0 x51_1 x51_2 x51_3 x51_4 x51_5 w fun r52_0 r52_1 r52_2 r52_3 r52_4 r52_5 w1 =>
      New (.cells #[.int .i64 (0 : Int), .int .i64 (0 : Int), .int .i64 (0 : Int), .string (ByteArray.mk #[]), .string (ByteArray.mk #[]), .string (ByteArray.mk #[])] 71) w1 fun c_ w2 =>
      Sts [.int .i64 r52_0, .int .i64 r52_1, .int .i64 r52_2, .string r52_3, .string r52_4, .string r52_5] ⟨c_, 0, none⟩ 0 w2 fun w3 =>
      LdI .i64 ⟨c_, 0, none⟩ w3 fun x53_0 =>
      LdI .i64 ⟨c_, 1, none⟩ w3 fun x53_1 =>
      LdI .i64 ⟨c_, 2, none⟩ w3 fun x53_2 =>
      LdS ⟨c_, 3, none⟩ w3 fun x53_3 =>
      LdS ⟨c_, 4, none⟩ w3 fun x53_4 =>
      LdS ⟨c_, 5, none⟩ w3 fun x53_5 =>
      api_EncodeCmd.Call x53_0 x53_1 x53_2 x53_3 x53_4 x53_5 w3 fun r54 w4 =>
      sB2 was nums now r54 w4) (
      sB2 was nums now x47 w))) = kstep Try.prog 75 Try.f17.results.toList (Try.f17.body.getD .skip) (kvlaw_Lemma.RV R) (kvc Try.prog 75 Try.f17.results.toList (Try.f17.body.getD .skip) (kvlaw_Lemma.RV R) [([(0, [1, 1, 1, 1, 1, 1])], fun σ w => dS (slotOf σ 2) fun was_ => dK (slotOf σ 7) fun nums_ => dS (slotOf σ 9) fun now_ => dS (slotOf σ 12) fun data_ => sB2 was_ nums_ now_ data_ w)] 2000) [(0, [1, 1, 1, 0, 1]), (0, [1, 1, 1, 1])] [(2, .string was), (5, .pointer (some ⟨o, 0, none⟩)), (7, .pointer (some ⟨nums, 0, none⟩)), (9, .string now), (42, .bool t42)] w := by kernel_rfl
theorem kvlaw_Lemma.B1_sound {R : Bool → World → Prop}  (was : ByteArray) (o nums : Nat) (now : ByteArray) (t42 : Bool) (w : World) (h : kvlaw_Lemma.B1 was o nums now t42 w   R) :
    KW Try.prog 17 75 (kvlaw_Lemma.RV R) ([(0, [1, 1, 1, 0, 1]), (0, [1, 1, 1, 1])].map (toItem (Try.f17.body.getD .skip))) [(2, .string was), (5, .pointer (some ⟨o, 0, none⟩)), (7, .pointer (some ⟨nums, 0, none⟩)), (9, .string now), (42, .bool t42)] w := by
  exact block_spec Try.func17 Try.mixed (stops_cons (fun σ w h => by
      obtain ⟨was_, e0, h⟩ := dS_elim h
      obtain ⟨nums_, e1, h⟩ := dK_elim h
      obtain ⟨now_, e2, h⟩ := dS_elim h
      obtain ⟨data_, e3, h⟩ := dS_elim h
      exact (kvlaw_Lemma.B2_sound  was_ nums_ now_ data_ w h).weaken (Sub.cons (Sub.cons (Sub.cons (Sub.cons (Sub.nil _) e3) e2) e1) e0)) stops_nil) (Eq.mp (kvlaw_Lemma.B1_eq was o nums now t42 w   R (fun was_ nums_ now_ data_ w => kvlaw_Lemma.B2 was_ nums_ now_ data_ w  R)) h)
def kvlaw_Lemma.B0 (x : Option Addr) (o_0 o_1 o_2 o_3 : Int) (o_4 o_5 was : ByteArray) (nums_0 nums_1 nums_2 : Int) (w : World)   (R : Bool → World → Prop) : Prop :=
  New (.cells #[.int .i64 o_0, .int .i64 o_1, .int .i64 o_2, .int .i64 o_3, .string o_4, .string o_5] 33) w fun o_ w1 =>
  New (.cells #[.int .i64 nums_0, .int .i64 nums_1, .int .i64 nums_2] 34) w1 fun nums_ w2 =>
  kv_KV_Snapshot.Call x w2 fun r17 w3 =>
  LdI .i64 ⟨o_, 0, none⟩ w3 fun x19 =>
  Bm (x19 == (3 : Int)) (
    kv_New.Call  w3 fun r21 w4 =>
    LdS ⟨o_, 4, none⟩ w4 fun x24 =>
    kv_KV_Restore.Call r21 x24 w4 fun r25 w5 =>
    Bm (r25 == (0 : Int)) (
      LdS ⟨o_, 4, none⟩ w5 fun x30 =>
      R (r17.toList == x30.toList) w5) (
      R (r17.toList == was.toList) w5)) (
    LdI .i64 ⟨o_, 0, none⟩ w3 fun x36 =>
    Bm (x36 != (1 : Int)) (
      LdI .i64 ⟨o_, 0, none⟩ w3 fun x40 =>
      kvlaw_Lemma.B1 was o_ nums_ r17 (x40 != (2 : Int)) w3  R) (
      kvlaw_Lemma.B1 was o_ nums_ r17 false w3  R))
theorem kvlaw_Lemma.B0_eq (x : Option Addr) (o_0 o_1 o_2 o_3 : Int) (o_4 o_5 was : ByteArray) (nums_0 nums_1 nums_2 : Int) (w : World)   (R : Bool → World → Prop) (sB1 : ByteArray → Nat → Nat → ByteArray → Bool → World → Prop) :
    (
  New (.cells #[.int .i64 o_0, .int .i64 o_1, .int .i64 o_2, .int .i64 o_3, .string o_4, .string o_5] 33) w fun o_ w1 =>
  New (.cells #[.int .i64 nums_0, .int .i64 nums_1, .int .i64 nums_2] 34) w1 fun nums_ w2 =>
  kv_KV_Snapshot.Call x w2 fun r17 w3 =>
  LdI .i64 ⟨o_, 0, none⟩ w3 fun x19 =>
  Bm (x19 == (3 : Int)) (
    kv_New.Call  w3 fun r21 w4 =>
    LdS ⟨o_, 4, none⟩ w4 fun x24 =>
    kv_KV_Restore.Call r21 x24 w4 fun r25 w5 =>
    Bm (r25 == (0 : Int)) (
      LdS ⟨o_, 4, none⟩ w5 fun x30 =>
      R (r17.toList == x30.toList) w5) (
      R (r17.toList == was.toList) w5)) (
    LdI .i64 ⟨o_, 0, none⟩ w3 fun x36 =>
    Bm (x36 != (1 : Int)) (
      LdI .i64 ⟨o_, 0, none⟩ w3 fun x40 =>
      sB1 was o_ nums_ r17 (x40 != (2 : Int)) w3) (
      sB1 was o_ nums_ r17 false w3))) = kstep Try.prog 75 Try.f17.results.toList (Try.f17.body.getD .skip) (kvlaw_Lemma.RV R) (kvc Try.prog 75 Try.f17.results.toList (Try.f17.body.getD .skip) (kvlaw_Lemma.RV R) [([(0, [1, 1, 1, 0, 1]), (0, [1, 1, 1, 1])], fun σ w => dS (slotOf σ 2) fun was_ => dK (slotOf σ 5) fun o_ => dK (slotOf σ 7) fun nums_ => dS (slotOf σ 9) fun now_ => dB (slotOf σ 42) fun t42_ => sB1 was_ o_ nums_ now_ t42_ w)] 2000) [(0, [])] [(0, .pointer x), (1, .agg #[.int .i64 o_0, .int .i64 o_1, .int .i64 o_2, .int .i64 o_3, .string o_4, .string o_5]), (2, .string was), (3, .agg #[.int .i64 nums_0, .int .i64 nums_1, .int .i64 nums_2])] w := by kernel_rfl
theorem kvlaw_Lemma.B0_sound {R : Bool → World → Prop}  (x : Option Addr) (o_0 o_1 o_2 o_3 : Int) (o_4 o_5 was : ByteArray) (nums_0 nums_1 nums_2 : Int) (w : World) (h : kvlaw_Lemma.B0 x o_0 o_1 o_2 o_3 o_4 o_5 was nums_0 nums_1 nums_2 w   R) :
    KW Try.prog 17 75 (kvlaw_Lemma.RV R) ([(0, [])].map (toItem (Try.f17.body.getD .skip))) [(0, .pointer x), (1, .agg #[.int .i64 o_0, .int .i64 o_1, .int .i64 o_2, .int .i64 o_3, .string o_4, .string o_5]), (2, .string was), (3, .agg #[.int .i64 nums_0, .int .i64 nums_1, .int .i64 nums_2])] w := by
  exact block_spec Try.func17 Try.mixed (stops_cons (fun σ w h => by
      obtain ⟨was_, e0, h⟩ := dS_elim h
      obtain ⟨o_, e1, h⟩ := dK_elim h
      obtain ⟨nums_, e2, h⟩ := dK_elim h
      obtain ⟨now_, e3, h⟩ := dS_elim h
      obtain ⟨t42_, e4, h⟩ := dB_elim h
      exact (kvlaw_Lemma.B1_sound  was_ o_ nums_ now_ t42_ w h).weaken (Sub.cons (Sub.cons (Sub.cons (Sub.cons (Sub.cons (Sub.nil _) e4) e3) e2) e1) e0)) stops_nil) (Eq.mp (kvlaw_Lemma.B0_eq x o_0 o_1 o_2 o_3 o_4 o_5 was nums_0 nums_1 nums_2 w   R (fun was_ o_ nums_ now_ t42_ w => kvlaw_Lemma.B1 was_ o_ nums_ now_ t42_ w  R)) h)
theorem kvlaw_Lemma.sound (x : Option Addr) (o_0 o_1 o_2 o_3 : Int) (o_4 o_5 was : ByteArray) (nums_0 nums_1 nums_2 : Int) (w : World) (R : Bool → World → Prop) (h : kvlaw_Lemma.B0 x o_0 o_1 o_2 o_3 o_4 o_5 was nums_0 nums_1 nums_2 w R) : kvlaw_Lemma.Call x o_0 o_1 o_2 o_3 o_4 o_5 was nums_0 nums_1 nums_2 w R := by
  have hc := calls_of_block (args := #[.pointer x, .agg #[.int .i64 o_0, .int .i64 o_1, .int .i64 o_2, .int .i64 o_3, .string o_4, .string o_5], .string was, .agg #[.int .i64 nums_0, .int .i64 nums_1, .int .i64 nums_2]]) Try.func17 (body := (Try.f17.body.getD .skip)) (by kernel_rfl) (by kernel_rfl) (args_slot _) (kvlaw_Lemma.B0_sound x o_0 o_1 o_2 o_3 o_4 o_5 was nums_0 nums_1 nums_2 w h)
  exact hc.mono fun e w' he => by
    obtain ⟨v, rfl, hv⟩ := he
    exact kvlaw_Lemma.RV_elim hv
end Go.Proofs.Qxb6500429a
