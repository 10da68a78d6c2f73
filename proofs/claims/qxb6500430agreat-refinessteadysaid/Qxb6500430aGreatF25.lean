import Derived.Test.Qxb6500430aGreatSig
set_option maxRecDepth 100000
set_option linter.unusedVariables false
open Go.Vc
namespace Go.Proofs.Qxb6500430aGreat
def kv_keyOf.B1 (c : Nat) (b_b : Option Addr) (b_l b_c : Nat) (i : Int) (t13 : Bool) (w : World) (N1 : Nat → Option Addr → Nat → Nat → Int → World → Prop)  (R : ByteArray → World → Prop) : Prop :=
  Bm t13 (
    (0 ≤ i ∧ i < ((2 : Nat) : Int)) ∧
    LdI .u8 (Addr.add ⟨c, 2, none⟩ (i.toNat * 1)) w fun x20 =>
    New (.cells #[.int .u8 x20] 5) w fun b21 w1 =>
    Append 5 (.int .u8 (0 : Int)) 1 1 b_b b_l b_c (some ⟨b21, 0, none⟩) 1 w1 fun b22 c22 w2 =>
    N1 c b22 (b_l + 1) c22 (IntKind.i64.wrap (i + (1 : Int))) w2) (
    ToStr b_b b_l w fun s24 =>
    R s24 w)
theorem kv_keyOf.B1_eq (c : Nat) (b_b : Option Addr) (b_l b_c : Nat) (i : Int) (t13 : Bool) (w : World) (N1 : Nat → Option Addr → Nat → Nat → Int → World → Prop)  (R : ByteArray → World → Prop)  :
    (
  Bm t13 (
    (0 ≤ i ∧ i < ((2 : Nat) : Int)) ∧
    LdI .u8 (Addr.add ⟨c, 2, none⟩ (i.toNat * 1)) w fun x20 =>
    New (.cells #[.int .u8 x20] 5) w fun b21 w1 =>
    Append 5 (.int .u8 (0 : Int)) 1 1 b_b b_l b_c (some ⟨b21, 0, none⟩) 1 w1 fun b22 c22 w2 =>
    N1 c b22 (b_l + 1) c22 (IntKind.i64.wrap (i + (1 : Int))) w2) (
    ToStr b_b b_l w fun s24 =>
    R s24 w)) = kstep Tryz.prog 25 Tryz.f253.results.toList (Tryz.f253.body.getD .skip) (kv_keyOf.RV R) (kvc Tryz.prog 25 Tryz.f253.results.toList (Tryz.f253.body.getD .skip) (kv_keyOf.RV R) [([(0, [1, 1, 0, 1, 0, 0]), (2, [1, 1, 0, 1, 0, 0]), (1, [0]), (0, [1, 1, 1])], fun σ w => dK (slotOf σ 1) fun c_ => dL (slotOf σ 3) fun b_b_ b_l_ b_c_ => dI .i64 (slotOf σ 4) fun i_ => N1 c_ b_b_ b_l_ b_c_ i_ w)] 2000) [(0, [1, 1, 0, 1, 0, 0, 0, 1]), (0, [1, 1, 0, 1, 0, 0, 1]), (2, [1, 1, 0, 1, 0, 0]), (1, [0]), (0, [1, 1, 1])] [(1, .pointer (some ⟨c, 0, none⟩)), (3, .slice b_b b_l b_c), (4, .int .i64 i), (13, .bool t13)] w := by kernel_rfl
theorem kv_keyOf.B1_sound {R : ByteArray → World → Prop} {N1 : Nat → Option Addr → Nat → Nat → Int → World → Prop} (hN1 : ∀ c b_b b_l b_c i w, N1 c b_b b_l b_c i w → KW Tryz.prog 253 25 (kv_keyOf.RV R) ([(0, [1, 1, 0, 1, 0, 0]), (2, [1, 1, 0, 1, 0, 0]), (1, [0]), (0, [1, 1, 1])].map (toItem (Tryz.f253.body.getD .skip))) [(1, .pointer (some ⟨c, 0, none⟩)), (3, .slice b_b b_l b_c), (4, .int .i64 i)] w) (c : Nat) (b_b : Option Addr) (b_l b_c : Nat) (i : Int) (t13 : Bool) (w : World) (h : kv_keyOf.B1 c b_b b_l b_c i t13 w N1  R) :
    KW Tryz.prog 253 25 (kv_keyOf.RV R) ([(0, [1, 1, 0, 1, 0, 0, 0, 1]), (0, [1, 1, 0, 1, 0, 0, 1]), (2, [1, 1, 0, 1, 0, 0]), (1, [0]), (0, [1, 1, 1])].map (toItem (Tryz.f253.body.getD .skip))) [(1, .pointer (some ⟨c, 0, none⟩)), (3, .slice b_b b_l b_c), (4, .int .i64 i), (13, .bool t13)] w := by
  exact block_spec Tryz.func253 Tryz.mixed (stops_cons (fun σ w h => by
      obtain ⟨c_, e0, h⟩ := dK_elim h
      obtain ⟨b_b_, b_l_, b_c_, e1, h⟩ := dL_elim h
      obtain ⟨i_, e2, h⟩ := dI_elim h
      exact (hN1 c_ b_b_ b_l_ b_c_ i_ w h).weaken (Sub.cons (Sub.cons (Sub.cons (Sub.nil _) e2) e1) e0)) stops_nil) (Eq.mp (kv_keyOf.B1_eq c b_b b_l b_c i t13 w N1  R ) h)
def kv_keyOf.L1b (c : Nat) (b_b : Option Addr) (b_l b_c : Nat) (i : Int) (w : World)  (N1 : Nat → Option Addr → Nat → Nat → Int → World → Prop) (R : ByteArray → World → Prop) : Prop :=
  LdI .i64 ⟨c, 1, none⟩ w fun x8 =>
  Bm (decide (i < x8)) (
    kv_keyOf.B1 c b_b b_l b_c i (decide (i < (2 : Int))) w N1 R) (
    kv_keyOf.B1 c b_b b_l b_c i false w N1 R)
theorem kv_keyOf.L1b_eq (c : Nat) (b_b : Option Addr) (b_l b_c : Nat) (i : Int) (w : World)  (N1 : Nat → Option Addr → Nat → Nat → Int → World → Prop) (R : ByteArray → World → Prop) (sB1 : Nat → Option Addr → Nat → Nat → Int → Bool → World → Prop) :
    (
  LdI .i64 ⟨c, 1, none⟩ w fun x8 =>
  Bm (decide (i < x8)) (
    sB1 c b_b b_l b_c i (decide (i < (2 : Int))) w) (
    sB1 c b_b b_l b_c i false w)) = kstep Tryz.prog 25 Tryz.f253.results.toList (Tryz.f253.body.getD .skip) (kv_keyOf.RV R) (kvc Tryz.prog 25 Tryz.f253.results.toList (Tryz.f253.body.getD .skip) (kv_keyOf.RV R) [([(0, [1, 1, 0, 1, 0, 0, 0, 1]), (0, [1, 1, 0, 1, 0, 0, 1]), (2, [1, 1, 0, 1, 0, 0]), (1, [0]), (0, [1, 1, 1])], fun σ w => dK (slotOf σ 1) fun c_ => dL (slotOf σ 3) fun b_b_ b_l_ b_c_ => dI .i64 (slotOf σ 4) fun i_ => dB (slotOf σ 13) fun t13_ => sB1 c_ b_b_ b_l_ b_c_ i_ t13_ w)] 2000) [(0, [1, 1, 0, 1, 0, 0]), (2, [1, 1, 0, 1, 0, 0]), (1, [0]), (0, [1, 1, 1])] [(1, .pointer (some ⟨c, 0, none⟩)), (3, .slice b_b b_l b_c), (4, .int .i64 i)] w := by kernel_rfl
theorem kv_keyOf.L1b_sound {R : ByteArray → World → Prop} {N1 : Nat → Option Addr → Nat → Nat → Int → World → Prop} (hN1 : ∀ c b_b b_l b_c i w, N1 c b_b b_l b_c i w → KW Tryz.prog 253 25 (kv_keyOf.RV R) ([(0, [1, 1, 0, 1, 0, 0]), (2, [1, 1, 0, 1, 0, 0]), (1, [0]), (0, [1, 1, 1])].map (toItem (Tryz.f253.body.getD .skip))) [(1, .pointer (some ⟨c, 0, none⟩)), (3, .slice b_b b_l b_c), (4, .int .i64 i)] w) (c : Nat) (b_b : Option Addr) (b_l b_c : Nat) (i : Int) (w : World) (h : kv_keyOf.L1b c b_b b_l b_c i w  N1 R) :
    KW Tryz.prog 253 25 (kv_keyOf.RV R) ([(0, [1, 1, 0, 1, 0, 0]), (2, [1, 1, 0, 1, 0, 0]), (1, [0]), (0, [1, 1, 1])].map (toItem (Tryz.f253.body.getD .skip))) [(1, .pointer (some ⟨c, 0, none⟩)), (3, .slice b_b b_l b_c), (4, .int .i64 i)] w := by
  exact block_spec Tryz.func253 Tryz.mixed (stops_cons (fun σ w h => by
      obtain ⟨c_, e0, h⟩ := dK_elim h
      obtain ⟨b_b_, b_l_, b_c_, e1, h⟩ := dL_elim h
      obtain ⟨i_, e2, h⟩ := dI_elim h
      obtain ⟨t13_, e3, h⟩ := dB_elim h
      exact (kv_keyOf.B1_sound hN1 c_ b_b_ b_l_ b_c_ i_ t13_ w h).weaken (Sub.cons (Sub.cons (Sub.cons (Sub.cons (Sub.nil _) e3) e2) e1) e0)) stops_nil) (Eq.mp (kv_keyOf.L1b_eq c b_b b_l b_c i w  N1 R (fun c_ b_b_ b_l_ b_c_ i_ t13_ w => kv_keyOf.B1 c_ b_b_ b_l_ b_c_ i_ t13_ w N1 R)) h)
def kv_keyOf.L1 (c : Nat) (b_b : Option Addr) (b_l b_c : Nat) (i : Int) (w : World)  (R : ByteArray → World → Prop) : Prop :=
  ∃ (I : Nat → Nat → Option Addr → Nat → Nat → Int → World → Prop) (m : Nat), I m c b_b b_l b_c i w ∧ ∀ m c b_b b_l b_c i w, I m c b_b b_l b_c i w → kv_keyOf.L1b c b_b b_l b_c i w  (fun c' b_b' b_l' b_c' i' w' => ∃ m', m' < m ∧ I m' c' b_b' b_l' b_c' i' w') R
theorem kv_keyOf.L1_sound {R : ByteArray → World → Prop}  (c : Nat) (b_b : Option Addr) (b_l b_c : Nat) (i : Int) (w : World) (h : kv_keyOf.L1 c b_b b_l b_c i w  R) :
    KW Tryz.prog 253 25 (kv_keyOf.RV R) ([(0, [1, 1, 0, 1, 0, 0]), (2, [1, 1, 0, 1, 0, 0]), (1, [0]), (0, [1, 1, 1])].map (toItem (Tryz.f253.body.getD .skip))) [(1, .pointer (some ⟨c, 0, none⟩)), (3, .slice b_b b_l b_c), (4, .int .i64 i)] w := by
  obtain ⟨I, m, hBase, hr⟩ := h
  refine KW.loop (fun m σ w => ∃ (c : Nat) (b_b : Option Addr) (b_l b_c : Nat) (i : Int), σ = [(1, .pointer (some ⟨c, 0, none⟩)), (3, .slice b_b b_l b_c), (4, .int .i64 i)] ∧ I m c b_b b_l b_c i w) ?_ m _ w ⟨c, b_b, b_l, b_c, i, rfl, hBase⟩
  rintro m ih σ w ⟨c, b_b, b_l, b_c, i, rfl, hI⟩
  exact kv_keyOf.L1b_sound  (N1 := fun c' b_b' b_l' b_c' i' w' => ∃ m', m' < m ∧ I m' c' b_b' b_l' b_c' i' w') (fun c' b_b' b_l' b_c' i' w' hx => by obtain ⟨m', hlt, hI'⟩ := hx; exact ih m' hlt _ w' ⟨c', b_b', b_l', b_c', i', rfl, hI'⟩) c b_b b_l b_c i w (hr m c b_b b_l b_c i w hI)
def kv_keyOf.B0 (c_0 c_1 c_2 c_3 c_4 c_5 c_6 c_7 : Int) (w : World)   (R : ByteArray → World → Prop) : Prop :=
  New (.cells #[.int .i64 c_0, .int .i64 c_1, .int .u8 c_2, .int .u8 c_3, .int .i64 c_4, .int .u8 c_5, .int .u8 c_6, .int .u8 c_7] 66) w fun c_ w1 =>
  Make 5 (.int .u8 (0 : Int)) 1 1 (0 : Int) (2 : Int) w1 fun b5 w2 =>
  kv_keyOf.L1 c_ (some ⟨b5, 0, none⟩) 0 2 (0 : Int) w2  R
theorem kv_keyOf.B0_eq (c_0 c_1 c_2 c_3 c_4 c_5 c_6 c_7 : Int) (w : World)   (R : ByteArray → World → Prop) (sL1 : Nat → Option Addr → Nat → Nat → Int → World → Prop) :
    (
  New (.cells #[.int .i64 c_0, .int .i64 c_1, .int .u8 c_2, .int .u8 c_3, .int .i64 c_4, .int .u8 c_5, .int .u8 c_6, .int .u8 c_7] 66) w fun c_ w1 =>
  Make 5 (.int .u8 (0 : Int)) 1 1 (0 : Int) (2 : Int) w1 fun b5 w2 =>
  sL1 c_ (some ⟨b5, 0, none⟩) 0 2 (0 : Int) w2) = kstep Tryz.prog 25 Tryz.f253.results.toList (Tryz.f253.body.getD .skip) (kv_keyOf.RV R) (kvc Tryz.prog 25 Tryz.f253.results.toList (Tryz.f253.body.getD .skip) (kv_keyOf.RV R) [([(0, [1, 1, 0, 1, 0, 0]), (2, [1, 1, 0, 1, 0, 0]), (1, [0]), (0, [1, 1, 1])], fun σ w => dK (slotOf σ 1) fun c_ => dL (slotOf σ 3) fun b_b_ b_l_ b_c_ => dI .i64 (slotOf σ 4) fun i_ => sL1 c_ b_b_ b_l_ b_c_ i_ w)] 2000) [(0, [])] [(0, .agg #[.int .i64 c_0, .int .i64 c_1, .int .u8 c_2, .int .u8 c_3, .int .i64 c_4, .int .u8 c_5, .int .u8 c_6, .int .u8 c_7])] w := by kernel_rfl
theorem kv_keyOf.B0_sound {R : ByteArray → World → Prop}  (c_0 c_1 c_2 c_3 c_4 c_5 c_6 c_7 : Int) (w : World) (h : kv_keyOf.B0 c_0 c_1 c_2 c_3 c_4 c_5 c_6 c_7 w   R) :
    KW Tryz.prog 253 25 (kv_keyOf.RV R) ([(0, [])].map (toItem (Tryz.f253.body.getD .skip))) [(0, .agg #[.int .i64 c_0, .int .i64 c_1, .int .u8 c_2, .int .u8 c_3, .int .i64 c_4, .int .u8 c_5, .int .u8 c_6, .int .u8 c_7])] w := by
  exact block_spec Tryz.func253 Tryz.mixed (stops_cons (fun σ w h => by
      obtain ⟨c_, e0, h⟩ := dK_elim h
      obtain ⟨b_b_, b_l_, b_c_, e1, h⟩ := dL_elim h
      obtain ⟨i_, e2, h⟩ := dI_elim h
      exact (kv_keyOf.L1_sound  c_ b_b_ b_l_ b_c_ i_ w h).weaken (Sub.cons (Sub.cons (Sub.cons (Sub.nil _) e2) e1) e0)) stops_nil) (Eq.mp (kv_keyOf.B0_eq c_0 c_1 c_2 c_3 c_4 c_5 c_6 c_7 w   R (fun c_ b_b_ b_l_ b_c_ i_ w => kv_keyOf.L1 c_ b_b_ b_l_ b_c_ i_ w  R)) h)
theorem kv_keyOf.sound (c_0 c_1 c_2 c_3 c_4 c_5 c_6 c_7 : Int) (w : World) (R : ByteArray → World → Prop) (h : kv_keyOf.B0 c_0 c_1 c_2 c_3 c_4 c_5 c_6 c_7 w R) : kv_keyOf.Call c_0 c_1 c_2 c_3 c_4 c_5 c_6 c_7 w R := by
  have hc := calls_of_block (args := #[.agg #[.int .i64 c_0, .int .i64 c_1, .int .u8 c_2, .int .u8 c_3, .int .i64 c_4, .int .u8 c_5, .int .u8 c_6, .int .u8 c_7]]) Tryz.func253 (body := (Tryz.f253.body.getD .skip)) (by kernel_rfl) (by kernel_rfl) (args_slot _) (kv_keyOf.B0_sound c_0 c_1 c_2 c_3 c_4 c_5 c_6 c_7 w h)
  exact hc.mono fun e w' he => by
    obtain ⟨v, rfl, hv⟩ := he
    exact kv_keyOf.RV_elim hv
def kv_ansOf.B1 (s t2 : Nat) (b_b : Option Addr) (b_l b_c : Nat) (i : Int) (t13 : Bool) (w : World) (N1 : Nat → Nat → Option Addr → Nat → Nat → Int → World → Prop)  (R : Int → ByteArray → World → Prop) : Prop :=
  Bm t13 (
    (0 ≤ i ∧ i < ((3 : Nat) : Int)) ∧
    LdI .u8 (Addr.add ⟨s, 3, none⟩ (i.toNat * 1)) w fun x20 =>
    New (.cells #[.int .u8 x20] 5) w fun b21 w1 =>
    Append 5 (.int .u8 (0 : Int)) 1 1 b_b b_l b_c (some ⟨b21, 0, none⟩) 1 w1 fun b22 c22 w2 =>
    N1 s t2 b22 (b_l + 1) c22 (IntKind.i64.wrap (i + (1 : Int))) w2) (
    LdI .i64 ⟨s, 1, none⟩ w fun x24 =>
    ToStr b_b b_l w fun s26 =>
    Sts [.int .i64 x24, .string s26] ⟨t2, 0, none⟩ 0 w fun w3 =>
    LdI .i64 ⟨t2, 0, none⟩ w3 fun r_0 =>
    LdS ⟨t2, 1, none⟩ w3 fun r_1 =>
    R r_0 r_1 w3)
theorem kv_ansOf.B1_eq (s t2 : Nat) (b_b : Option Addr) (b_l b_c : Nat) (i : Int) (t13 : Bool) (w : World) (N1 : Nat → Nat → Option Addr → Nat → Nat → Int → World → Prop)  (R : Int → ByteArray → World → Prop)  :
    (
  Bm t13 (
    (0 ≤ i ∧ i < ((3 : Nat) : Int)) ∧
    LdI .u8 (Addr.add ⟨s, 3, none⟩ (i.toNat * 1)) w fun x20 =>
    New (.cells #[.int .u8 x20] 5) w fun b21 w1 =>
    Append 5 (.int .u8 (0 : Int)) 1 1 b_b b_l b_c (some ⟨b21, 0, none⟩) 1 w1 fun b22 c22 w2 =>
    N1 s t2 b22 (b_l + 1) c22 (IntKind.i64.wrap (i + (1 : Int))) w2) (
    LdI .i64 ⟨s, 1, none⟩ w fun x24 =>
    ToStr b_b b_l w fun s26 =>
    Sts [.int .i64 x24, .string s26] ⟨t2, 0, none⟩ 0 w fun w3 =>
    LdI .i64 ⟨t2, 0, none⟩ w3 fun r_0 =>
    LdS ⟨t2, 1, none⟩ w3 fun r_1 =>
    R r_0 r_1 w3)) = kstep Tryz.prog 28 Tryz.f254.results.toList (Tryz.f254.body.getD .skip) (kv_ansOf.RV R) (kvc Tryz.prog 28 Tryz.f254.results.toList (Tryz.f254.body.getD .skip) (kv_ansOf.RV R) [([(0, [1, 1, 0, 1, 0, 0]), (2, [1, 1, 0, 1, 0, 0]), (1, [0]), (0, [1, 1, 1])], fun σ w => dK (slotOf σ 1) fun s_ => dK (slotOf σ 2) fun t2_ => dL (slotOf σ 3) fun b_b_ b_l_ b_c_ => dI .i64 (slotOf σ 4) fun i_ => N1 s_ t2_ b_b_ b_l_ b_c_ i_ w)] 2000) [(0, [1, 1, 0, 1, 0, 0, 0, 1]), (0, [1, 1, 0, 1, 0, 0, 1]), (2, [1, 1, 0, 1, 0, 0]), (1, [0]), (0, [1, 1, 1])] [(1, .pointer (some ⟨s, 0, none⟩)), (2, .pointer (some ⟨t2, 0, none⟩)), (3, .slice b_b b_l b_c), (4, .int .i64 i), (13, .bool t13)] w := by kernel_rfl
theorem kv_ansOf.B1_sound {R : Int → ByteArray → World → Prop} {N1 : Nat → Nat → Option Addr → Nat → Nat → Int → World → Prop} (hN1 : ∀ s t2 b_b b_l b_c i w, N1 s t2 b_b b_l b_c i w → KW Tryz.prog 254 28 (kv_ansOf.RV R) ([(0, [1, 1, 0, 1, 0, 0]), (2, [1, 1, 0, 1, 0, 0]), (1, [0]), (0, [1, 1, 1])].map (toItem (Tryz.f254.body.getD .skip))) [(1, .pointer (some ⟨s, 0, none⟩)), (2, .pointer (some ⟨t2, 0, none⟩)), (3, .slice b_b b_l b_c), (4, .int .i64 i)] w) (s t2 : Nat) (b_b : Option Addr) (b_l b_c : Nat) (i : Int) (t13 : Bool) (w : World) (h : kv_ansOf.B1 s t2 b_b b_l b_c i t13 w N1  R) :
    KW Tryz.prog 254 28 (kv_ansOf.RV R) ([(0, [1, 1, 0, 1, 0, 0, 0, 1]), (0, [1, 1, 0, 1, 0, 0, 1]), (2, [1, 1, 0, 1, 0, 0]), (1, [0]), (0, [1, 1, 1])].map (toItem (Tryz.f254.body.getD .skip))) [(1, .pointer (some ⟨s, 0, none⟩)), (2, .pointer (some ⟨t2, 0, none⟩)), (3, .slice b_b b_l b_c), (4, .int .i64 i), (13, .bool t13)] w := by
  exact block_spec Tryz.func254 Tryz.mixed (stops_cons (fun σ w h => by
      obtain ⟨s_, e0, h⟩ := dK_elim h
      obtain ⟨t2_, e1, h⟩ := dK_elim h
      obtain ⟨b_b_, b_l_, b_c_, e2, h⟩ := dL_elim h
      obtain ⟨i_, e3, h⟩ := dI_elim h
      exact (hN1 s_ t2_ b_b_ b_l_ b_c_ i_ w h).weaken (Sub.cons (Sub.cons (Sub.cons (Sub.cons (Sub.nil _) e3) e2) e1) e0)) stops_nil) (Eq.mp (kv_ansOf.B1_eq s t2 b_b b_l b_c i t13 w N1  R ) h)
def kv_ansOf.L1b (s t2 : Nat) (b_b : Option Addr) (b_l b_c : Nat) (i : Int) (w : World)  (N1 : Nat → Nat → Option Addr → Nat → Nat → Int → World → Prop) (R : Int → ByteArray → World → Prop) : Prop :=
  LdI .i64 ⟨s, 2, none⟩ w fun x8 =>
  Bm (decide (i < x8)) (
    kv_ansOf.B1 s t2 b_b b_l b_c i (decide (i < (3 : Int))) w N1 R) (
    kv_ansOf.B1 s t2 b_b b_l b_c i false w N1 R)
theorem kv_ansOf.L1b_eq (s t2 : Nat) (b_b : Option Addr) (b_l b_c : Nat) (i : Int) (w : World)  (N1 : Nat → Nat → Option Addr → Nat → Nat → Int → World → Prop) (R : Int → ByteArray → World → Prop) (sB1 : Nat → Nat → Option Addr → Nat → Nat → Int → Bool → World → Prop) :
    (
  LdI .i64 ⟨s, 2, none⟩ w fun x8 =>
  Bm (decide (i < x8)) (
    sB1 s t2 b_b b_l b_c i (decide (i < (3 : Int))) w) (
    sB1 s t2 b_b b_l b_c i false w)) = kstep Tryz.prog 28 Tryz.f254.results.toList (Tryz.f254.body.getD .skip) (kv_ansOf.RV R) (kvc Tryz.prog 28 Tryz.f254.results.toList (Tryz.f254.body.getD .skip) (kv_ansOf.RV R) [([(0, [1, 1, 0, 1, 0, 0, 0, 1]), (0, [1, 1, 0, 1, 0, 0, 1]), (2, [1, 1, 0, 1, 0, 0]), (1, [0]), (0, [1, 1, 1])], fun σ w => dK (slotOf σ 1) fun s_ => dK (slotOf σ 2) fun t2_ => dL (slotOf σ 3) fun b_b_ b_l_ b_c_ => dI .i64 (slotOf σ 4) fun i_ => dB (slotOf σ 13) fun t13_ => sB1 s_ t2_ b_b_ b_l_ b_c_ i_ t13_ w)] 2000) [(0, [1, 1, 0, 1, 0, 0]), (2, [1, 1, 0, 1, 0, 0]), (1, [0]), (0, [1, 1, 1])] [(1, .pointer (some ⟨s, 0, none⟩)), (2, .pointer (some ⟨t2, 0, none⟩)), (3, .slice b_b b_l b_c), (4, .int .i64 i)] w := by kernel_rfl
theorem kv_ansOf.L1b_sound {R : Int → ByteArray → World → Prop} {N1 : Nat → Nat → Option Addr → Nat → Nat → Int → World → Prop} (hN1 : ∀ s t2 b_b b_l b_c i w, N1 s t2 b_b b_l b_c i w → KW Tryz.prog 254 28 (kv_ansOf.RV R) ([(0, [1, 1, 0, 1, 0, 0]), (2, [1, 1, 0, 1, 0, 0]), (1, [0]), (0, [1, 1, 1])].map (toItem (Tryz.f254.body.getD .skip))) [(1, .pointer (some ⟨s, 0, none⟩)), (2, .pointer (some ⟨t2, 0, none⟩)), (3, .slice b_b b_l b_c), (4, .int .i64 i)] w) (s t2 : Nat) (b_b : Option Addr) (b_l b_c : Nat) (i : Int) (w : World) (h : kv_ansOf.L1b s t2 b_b b_l b_c i w  N1 R) :
    KW Tryz.prog 254 28 (kv_ansOf.RV R) ([(0, [1, 1, 0, 1, 0, 0]), (2, [1, 1, 0, 1, 0, 0]), (1, [0]), (0, [1, 1, 1])].map (toItem (Tryz.f254.body.getD .skip))) [(1, .pointer (some ⟨s, 0, none⟩)), (2, .pointer (some ⟨t2, 0, none⟩)), (3, .slice b_b b_l b_c), (4, .int .i64 i)] w := by
  exact block_spec Tryz.func254 Tryz.mixed (stops_cons (fun σ w h => by
      obtain ⟨s_, e0, h⟩ := dK_elim h
      obtain ⟨t2_, e1, h⟩ := dK_elim h
      obtain ⟨b_b_, b_l_, b_c_, e2, h⟩ := dL_elim h
      obtain ⟨i_, e3, h⟩ := dI_elim h
      obtain ⟨t13_, e4, h⟩ := dB_elim h
      exact (kv_ansOf.B1_sound hN1 s_ t2_ b_b_ b_l_ b_c_ i_ t13_ w h).weaken (Sub.cons (Sub.cons (Sub.cons (Sub.cons (Sub.cons (Sub.nil _) e4) e3) e2) e1) e0)) stops_nil) (Eq.mp (kv_ansOf.L1b_eq s t2 b_b b_l b_c i w  N1 R (fun s_ t2_ b_b_ b_l_ b_c_ i_ t13_ w => kv_ansOf.B1 s_ t2_ b_b_ b_l_ b_c_ i_ t13_ w N1 R)) h)
def kv_ansOf.L1 (s t2 : Nat) (b_b : Option Addr) (b_l b_c : Nat) (i : Int) (w : World)  (R : Int → ByteArray → World → Prop) : Prop :=
  ∃ (I : Nat → Nat → Nat → Option Addr → Nat → Nat → Int → World → Prop) (m : Nat), I m s t2 b_b b_l b_c i w ∧ ∀ m s t2 b_b b_l b_c i w, I m s t2 b_b b_l b_c i w → kv_ansOf.L1b s t2 b_b b_l b_c i w  (fun s' t2' b_b' b_l' b_c' i' w' => ∃ m', m' < m ∧ I m' s' t2' b_b' b_l' b_c' i' w') R
theorem kv_ansOf.L1_sound {R : Int → ByteArray → World → Prop}  (s t2 : Nat) (b_b : Option Addr) (b_l b_c : Nat) (i : Int) (w : World) (h : kv_ansOf.L1 s t2 b_b b_l b_c i w  R) :
    KW Tryz.prog 254 28 (kv_ansOf.RV R) ([(0, [1, 1, 0, 1, 0, 0]), (2, [1, 1, 0, 1, 0, 0]), (1, [0]), (0, [1, 1, 1])].map (toItem (Tryz.f254.body.getD .skip))) [(1, .pointer (some ⟨s, 0, none⟩)), (2, .pointer (some ⟨t2, 0, none⟩)), (3, .slice b_b b_l b_c), (4, .int .i64 i)] w := by
  obtain ⟨I, m, hBase, hr⟩ := h
  refine KW.loop (fun m σ w => ∃ (s t2 : Nat) (b_b : Option Addr) (b_l b_c : Nat) (i : Int), σ = [(1, .pointer (some ⟨s, 0, none⟩)), (2, .pointer (some ⟨t2, 0, none⟩)), (3, .slice b_b b_l b_c), (4, .int .i64 i)] ∧ I m s t2 b_b b_l b_c i w) ?_ m _ w ⟨s, t2, b_b, b_l, b_c, i, rfl, hBase⟩
  rintro m ih σ w ⟨s, t2, b_b, b_l, b_c, i, rfl, hI⟩
  exact kv_ansOf.L1b_sound  (N1 := fun s' t2' b_b' b_l' b_c' i' w' => ∃ m', m' < m ∧ I m' s' t2' b_b' b_l' b_c' i' w') (fun s' t2' b_b' b_l' b_c' i' w' hx => by obtain ⟨m', hlt, hI'⟩ := hx; exact ih m' hlt _ w' ⟨s', t2', b_b', b_l', b_c', i', rfl, hI'⟩) s t2 b_b b_l b_c i w (hr m s t2 b_b b_l b_c i w hI)
def kv_ansOf.B0 (s_0 s_1 s_2 s_3 s_4 s_5 : Int) (w : World)   (R : Int → ByteArray → World → Prop) : Prop :=
  New (.cells #[.int .i64 s_0, .int .i64 s_1, .int .i64 s_2, .int .u8 s_3, .int .u8 s_4, .int .u8 s_5] 71) w fun s_ w1 =>
  New (.cells #[.int .i64 (0 : Int), .string (ByteArray.mk #[])] 93) w1 fun b2 w2 =>
  Make 5 (.int .u8 (0 : Int)) 1 1 (0 : Int) (3 : Int) w2 fun b5 w3 =>
  kv_ansOf.L1 s_ b2 (some ⟨b5, 0, none⟩) 0 3 (0 : Int) w3  R
theorem kv_ansOf.B0_eq (s_0 s_1 s_2 s_3 s_4 s_5 : Int) (w : World)   (R : Int → ByteArray → World → Prop) (sL1 : Nat → Nat → Option Addr → Nat → Nat → Int → World → Prop) :
    (
  New (.cells #[.int .i64 s_0, .int .i64 s_1, .int .i64 s_2, .int .u8 s_3, .int .u8 s_4, .int .u8 s_5] 71) w fun s_ w1 =>
  New (.cells #[.int .i64 (0 : Int), .string (ByteArray.mk #[])] 93) w1 fun b2 w2 =>
  Make 5 (.int .u8 (0 : Int)) 1 1 (0 : Int) (3 : Int) w2 fun b5 w3 =>
  sL1 s_ b2 (some ⟨b5, 0, none⟩) 0 3 (0 : Int) w3) = kstep Tryz.prog 28 Tryz.f254.results.toList (Tryz.f254.body.getD .skip) (kv_ansOf.RV R) (kvc Tryz.prog 28 Tryz.f254.results.toList (Tryz.f254.body.getD .skip) (kv_ansOf.RV R) [([(0, [1, 1, 0, 1, 0, 0]), (2, [1, 1, 0, 1, 0, 0]), (1, [0]), (0, [1, 1, 1])], fun σ w => dK (slotOf σ 1) fun s_ => dK (slotOf σ 2) fun t2_ => dL (slotOf σ 3) fun b_b_ b_l_ b_c_ => dI .i64 (slotOf σ 4) fun i_ => sL1 s_ t2_ b_b_ b_l_ b_c_ i_ w)] 2000) [(0, [])] [(0, .agg #[.int .i64 s_0, .int .i64 s_1, .int .i64 s_2, .int .u8 s_3, .int .u8 s_4, .int .u8 s_5])] w := by kernel_rfl
theorem kv_ansOf.B0_sound {R : Int → ByteArray → World → Prop}  (s_0 s_1 s_2 s_3 s_4 s_5 : Int) (w : World) (h : kv_ansOf.B0 s_0 s_1 s_2 s_3 s_4 s_5 w   R) :
    KW Tryz.prog 254 28 (kv_ansOf.RV R) ([(0, [])].map (toItem (Tryz.f254.body.getD .skip))) [(0, .agg #[.int .i64 s_0, .int .i64 s_1, .int .i64 s_2, .int .u8 s_3, .int .u8 s_4, .int .u8 s_5])] w := by
  exact block_spec Tryz.func254 Tryz.mixed (stops_cons (fun σ w h => by
      obtain ⟨s_, e0, h⟩ := dK_elim h
      obtain ⟨t2_, e1, h⟩ := dK_elim h
      obtain ⟨b_b_, b_l_, b_c_, e2, h⟩ := dL_elim h
      obtain ⟨i_, e3, h⟩ := dI_elim h
      exact (kv_ansOf.L1_sound  s_ t2_ b_b_ b_l_ b_c_ i_ w h).weaken (Sub.cons (Sub.cons (Sub.cons (Sub.cons (Sub.nil _) e3) e2) e1) e0)) stops_nil) (Eq.mp (kv_ansOf.B0_eq s_0 s_1 s_2 s_3 s_4 s_5 w   R (fun s_ t2_ b_b_ b_l_ b_c_ i_ w => kv_ansOf.L1 s_ t2_ b_b_ b_l_ b_c_ i_ w  R)) h)
theorem kv_ansOf.sound (s_0 s_1 s_2 s_3 s_4 s_5 : Int) (w : World) (R : Int → ByteArray → World → Prop) (h : kv_ansOf.B0 s_0 s_1 s_2 s_3 s_4 s_5 w R) : kv_ansOf.Call s_0 s_1 s_2 s_3 s_4 s_5 w R := by
  have hc := calls_of_block (args := #[.agg #[.int .i64 s_0, .int .i64 s_1, .int .i64 s_2, .int .u8 s_3, .int .u8 s_4, .int .u8 s_5]]) Tryz.func254 (body := (Tryz.f254.body.getD .skip)) (by kernel_rfl) (by kernel_rfl) (args_slot _) (kv_ansOf.B0_sound s_0 s_1 s_2 s_3 s_4 s_5 w h)
  exact hc.mono fun e w' he => by
    obtain ⟨v, rfl, hv⟩ := he
    exact kv_ansOf.RV_elim hv
def node_fits.L1b (m0 : Nat) (i : Int) (w : World)  (N1 : Nat → Int → World → Prop) (R : Bool → World → Prop) : Prop :=
  LdL ⟨m0, 8, none⟩ w fun x58_b x58_l x58_c =>
  Bm (decide (i < ((x58_l : Nat) : Int))) (
    LdL ⟨m0, 8, none⟩ w fun x64_b x64_l x64_c =>
    Pn x64_b fun a =>
    (0 ≤ i ∧ i < ((x64_l : Nat) : Int)) ∧
    LdI .i64 (Addr.add a (i.toNat * 2)) w fun x68 =>
    node_narrow.Call x68 w fun r69 w1 =>
    Bm (!r69) (
      R false w1) (
      LdL ⟨m0, 8, none⟩ w1 fun x72_b x72_l x72_c =>
      Pn x72_b fun a_1 =>
      (0 ≤ i ∧ i < ((x72_l : Nat) : Int)) ∧
      LdS ((Addr.add a_1 (i.toNat * 2)).add 1) w1 fun x76 =>
      Bm (decide (((x76.size : Nat) : Int) > (24 : Int))) (
        R false w1) (
        N1 m0 (IntKind.i64.wrap (i + (1 : Int))) w1))) (
    R true w)
theorem node_fits.L1b_eq (m0 : Nat) (i : Int) (w : World)  (N1 : Nat → Int → World → Prop) (R : Bool → World → Prop)  :
    (
  LdL ⟨m0, 8, none⟩ w fun x58_b x58_l x58_c =>
  Bm (decide (i < ((x58_l : Nat) : Int))) (
    LdL ⟨m0, 8, none⟩ w fun x64_b x64_l x64_c =>
    Pn x64_b fun a =>
    (0 ≤ i ∧ i < ((x64_l : Nat) : Int)) ∧
    LdI .i64 (Addr.add a (i.toNat * 2)) w fun x68 =>
    node_narrow.Call x68 w fun r69 w1 =>
    Bm (!r69) (
      R false w1) (
      LdL ⟨m0, 8, none⟩ w1 fun x72_b x72_l x72_c =>
      Pn x72_b fun a_1 =>
      (0 ≤ i ∧ i < ((x72_l : Nat) : Int)) ∧
      LdS ((Addr.add a_1 (i.toNat * 2)).add 1) w1 fun x76 =>
      Bm (decide (((x76.size : Nat) : Int) > (24 : Int))) (
        R false w1) (
        N1 m0 (IntKind.i64.wrap (i + (1 : Int))) w1))) (
    R true w)) = kstep Tryz.prog 79 Tryz.f255.results.toList (Tryz.f255.body.getD .skip) (node_fits.RV R) (kvc Tryz.prog 79 Tryz.f255.results.toList (Tryz.f255.body.getD .skip) (node_fits.RV R) [([(0, [1, 1, 1, 1, 1, 1, 1, 1, 0, 1, 0, 0]), (2, [1, 1, 1, 1, 1, 1, 1, 1, 0, 1, 0, 0]), (1, [0]), (0, [1, 1, 1, 1, 1, 1, 1, 1, 1])], fun σ w => dK (slotOf σ 1) fun m0_ => dI .i64 (slotOf σ 3) fun i_ => N1 m0_ i_ w)] 2000) [(0, [1, 1, 1, 1, 1, 1, 1, 1, 0, 1, 0, 0]), (2, [1, 1, 1, 1, 1, 1, 1, 1, 0, 1, 0, 0]), (1, [0]), (0, [1, 1, 1, 1, 1, 1, 1, 1, 1])] [(1, .pointer (some ⟨m0, 0, none⟩)), (3, .int .i64 i)] w := by kernel_rfl
theorem node_fits.L1b_sound {R : Bool → World → Prop} {N1 : Nat → Int → World → Prop} (hN1 : ∀ m0 i w, N1 m0 i w → KW Tryz.prog 255 79 (node_fits.RV R) ([(0, [1, 1, 1, 1, 1, 1, 1, 1, 0, 1, 0, 0]), (2, [1, 1, 1, 1, 1, 1, 1, 1, 0, 1, 0, 0]), (1, [0]), (0, [1, 1, 1, 1, 1, 1, 1, 1, 1])].map (toItem (Tryz.f255.body.getD .skip))) [(1, .pointer (some ⟨m0, 0, none⟩)), (3, .int .i64 i)] w) (m0 : Nat) (i : Int) (w : World) (h : node_fits.L1b m0 i w  N1 R) :
    KW Tryz.prog 255 79 (node_fits.RV R) ([(0, [1, 1, 1, 1, 1, 1, 1, 1, 0, 1, 0, 0]), (2, [1, 1, 1, 1, 1, 1, 1, 1, 0, 1, 0, 0]), (1, [0]), (0, [1, 1, 1, 1, 1, 1, 1, 1, 1])].map (toItem (Tryz.f255.body.getD .skip))) [(1, .pointer (some ⟨m0, 0, none⟩)), (3, .int .i64 i)] w := by
  exact block_spec Tryz.func255 Tryz.mixed (stops_cons (fun σ w h => by
      obtain ⟨m0_, e0, h⟩ := dK_elim h
      obtain ⟨i_, e1, h⟩ := dI_elim h
      exact (hN1 m0_ i_ w h).weaken (Sub.cons (Sub.cons (Sub.nil _) e1) e0)) stops_nil) (Eq.mp (node_fits.L1b_eq m0 i w  N1 R ) h)
def node_fits.L1 (m0 : Nat) (i : Int) (w : World)  (R : Bool → World → Prop) : Prop :=
  ∃ (I : Nat → Nat → Int → World → Prop) (m : Nat), I m m0 i w ∧ ∀ m m0 i w, I m m0 i w → node_fits.L1b m0 i w  (fun m0' i' w' => ∃ m', m' < m ∧ I m' m0' i' w') R
theorem node_fits.L1_sound {R : Bool → World → Prop}  (m0 : Nat) (i : Int) (w : World) (h : node_fits.L1 m0 i w  R) :
    KW Tryz.prog 255 79 (node_fits.RV R) ([(0, [1, 1, 1, 1, 1, 1, 1, 1, 0, 1, 0, 0]), (2, [1, 1, 1, 1, 1, 1, 1, 1, 0, 1, 0, 0]), (1, [0]), (0, [1, 1, 1, 1, 1, 1, 1, 1, 1])].map (toItem (Tryz.f255.body.getD .skip))) [(1, .pointer (some ⟨m0, 0, none⟩)), (3, .int .i64 i)] w := by
  obtain ⟨I, m, hBase, hr⟩ := h
  refine KW.loop (fun m σ w => ∃ (m0 : Nat) (i : Int), σ = [(1, .pointer (some ⟨m0, 0, none⟩)), (3, .int .i64 i)] ∧ I m m0 i w) ?_ m _ w ⟨m0, i, rfl, hBase⟩
  rintro m ih σ w ⟨m0, i, rfl, hI⟩
  exact node_fits.L1b_sound  (N1 := fun m0' i' w' => ∃ m', m' < m ∧ I m' m0' i' w') (fun m0' i' w' hx => by obtain ⟨m', hlt, hI'⟩ := hx; exact ih m' hlt _ w' ⟨m0', i', rfl, hI'⟩) m0 i w (hr m m0 i w hI)
def node_fits.B3 (m0 : Nat) (t55 : Bool) (w : World)   (R : Bool → World → Prop) : Prop :=
  Bm t55 (
    R false w) (
    node_fits.L1 m0 (0 : Int) w  R)
theorem node_fits.B3_eq (m0 : Nat) (t55 : Bool) (w : World)   (R : Bool → World → Prop) (sL1 : Nat → Int → World → Prop) :
    (
  Bm t55 (
    R false w) (
    sL1 m0 (0 : Int) w)) = kstep Tryz.prog 79 Tryz.f255.results.toList (Tryz.f255.body.getD .skip) (node_fits.RV R) (kvc Tryz.prog 79 Tryz.f255.results.toList (Tryz.f255.body.getD .skip) (node_fits.RV R) [([(0, [1, 1, 1, 1, 1, 1, 1, 1, 0, 1, 0, 0]), (2, [1, 1, 1, 1, 1, 1, 1, 1, 0, 1, 0, 0]), (1, [0]), (0, [1, 1, 1, 1, 1, 1, 1, 1, 1])], fun σ w => dK (slotOf σ 1) fun m0_ => dI .i64 (slotOf σ 3) fun i_ => sL1 m0_ i_ w)] 2000) [(0, [1, 1, 1, 1, 1, 1, 1, 0, 1]), (0, [1, 1, 1, 1, 1, 1, 1, 1])] [(1, .pointer (some ⟨m0, 0, none⟩)), (55, .bool t55)] w := by kernel_rfl
theorem node_fits.B3_sound {R : Bool → World → Prop}  (m0 : Nat) (t55 : Bool) (w : World) (h : node_fits.B3 m0 t55 w   R) :
    KW Tryz.prog 255 79 (node_fits.RV R) ([(0, [1, 1, 1, 1, 1, 1, 1, 0, 1]), (0, [1, 1, 1, 1, 1, 1, 1, 1])].map (toItem (Tryz.f255.body.getD .skip))) [(1, .pointer (some ⟨m0, 0, none⟩)), (55, .bool t55)] w := by
  exact block_spec Tryz.func255 Tryz.mixed (stops_cons (fun σ w h => by
      obtain ⟨m0_, e0, h⟩ := dK_elim h
      obtain ⟨i_, e1, h⟩ := dI_elim h
      exact (node_fits.L1_sound  m0_ i_ w h).weaken (Sub.cons (Sub.cons (Sub.nil _) e1) e0)) stops_nil) (Eq.mp (node_fits.B3_eq m0 t55 w   R (fun m0_ i_ w => node_fits.L1 m0_ i_ w  R)) h)
def node_fits.B2 (m0 : Nat) (t29 : Bool) (w : World)   (R : Bool → World → Prop) : Prop :=
  Bm t29 (
    R false w) (
    LdI .i64 ⟨m0, 3, none⟩ w fun x31 =>
    node_narrow.Call x31 w fun r32 w1 =>
    Bm (!r32) (
      R false w1) (
      LdI .i64 ⟨m0, 4, none⟩ w1 fun x35 =>
      node_narrow.Call x35 w1 fun r36 w2 =>
      Bm (!r36) (
        R false w2) (
        LdI .i64 ⟨m0, 5, none⟩ w2 fun x39 =>
        node_narrow.Call x39 w2 fun r40 w3 =>
        Bm (!r40) (
          R false w3) (
          LdI .i64 ⟨m0, 6, none⟩ w3 fun x43 =>
          node_narrow.Call x43 w3 fun r44 w4 =>
          Bm (!r44) (
            R false w4) (
            LdL ⟨m0, 8, none⟩ w4 fun x47_b x47_l x47_c =>
            Bm (decide (((x47_l : Nat) : Int) > (2 : Int))) (
              node_fits.B3 m0 true w4  R) (
              LdS ⟨m0, 9, none⟩ w4 fun x52 =>
              node_fits.B3 m0 (decide (((x52.size : Nat) : Int) > (128 : Int))) w4  R))))))
theorem node_fits.B2_eq (m0 : Nat) (t29 : Bool) (w : World)   (R : Bool → World → Prop) (sB3 : Nat → Bool → World → Prop) :
    (
  Bm t29 (
    R false w) (
    LdI .i64 ⟨m0, 3, none⟩ w fun x31 =>
    node_narrow.Call x31 w fun r32 w1 =>
    Bm (!r32) (
      R false w1) (
      LdI .i64 ⟨m0, 4, none⟩ w1 fun x35 =>
      node_narrow.Call x35 w1 fun r36 w2 =>
      Bm (!r36) (
        R false w2) (
        LdI .i64 ⟨m0, 5, none⟩ w2 fun x39 =>
        node_narrow.Call x39 w2 fun r40 w3 =>
        Bm (!r40) (
          R false w3) (
          LdI .i64 ⟨m0, 6, none⟩ w3 fun x43 =>
          node_narrow.Call x43 w3 fun r44 w4 =>
          Bm (!r44) (
            R false w4) (
            LdL ⟨m0, 8, none⟩ w4 fun x47_b x47_l x47_c =>
            Bm (decide (((x47_l : Nat) : Int) > (2 : Int))) (
              sB3 m0 true w4) (
              LdS ⟨m0, 9, none⟩ w4 fun x52 =>
              sB3 m0 (decide (((x52.size : Nat) : Int) > (128 : Int))) w4))))))) = kstep Tryz.prog 79 Tryz.f255.results.toList (Tryz.f255.body.getD .skip) (node_fits.RV R) (kvc Tryz.prog 79 Tryz.f255.results.toList (Tryz.f255.body.getD .skip) (node_fits.RV R) [([(0, [1, 1, 1, 1, 1, 1, 1, 0, 1]), (0, [1, 1, 1, 1, 1, 1, 1, 1])], fun σ w => dK (slotOf σ 1) fun m0_ => dB (slotOf σ 55) fun t55_ => sB3 m0_ t55_ w)] 2000) [(0, [1, 1, 0, 1]), (0, [1, 1, 1])] [(1, .pointer (some ⟨m0, 0, none⟩)), (29, .bool t29)] w := by kernel_rfl
theorem node_fits.B2_sound {R : Bool → World → Prop}  (m0 : Nat) (t29 : Bool) (w : World) (h : node_fits.B2 m0 t29 w   R) :
    KW Tryz.prog 255 79 (node_fits.RV R) ([(0, [1, 1, 0, 1]), (0, [1, 1, 1])].map (toItem (Tryz.f255.body.getD .skip))) [(1, .pointer (some ⟨m0, 0, none⟩)), (29, .bool t29)] w := by
  exact block_spec Tryz.func255 Tryz.mixed (stops_cons (fun σ w h => by
      obtain ⟨m0_, e0, h⟩ := dK_elim h
      obtain ⟨t55_, e1, h⟩ := dB_elim h
      exact (node_fits.B3_sound  m0_ t55_ w h).weaken (Sub.cons (Sub.cons (Sub.nil _) e1) e0)) stops_nil) (Eq.mp (node_fits.B2_eq m0 t29 w   R (fun m0_ t55_ w => node_fits.B3 m0_ t55_ w  R)) h)
def node_fits.B1 (m0 : Nat) (t11 : Bool) (w : World)   (R : Bool → World → Prop) : Prop :=
  Bm t11 (
    R false w) (
    LdI .i64 ⟨m0, 1, none⟩ w fun x13 =>
    Bm (decide (x13 < (0 : Int))) (
      node_fits.B2 m0 true w  R) (
      LdI .i64 ⟨m0, 1, none⟩ w fun x17 =>
      Bm (decide (x17 ≥ (3 : Int))) (
        node_fits.B2 m0 true w  R) (
        LdI .i64 ⟨m0, 2, none⟩ w fun x22 =>
        Bm (decide (x22 < (0 : Int))) (
          node_fits.B2 m0 true w  R) (
          LdI .i64 ⟨m0, 2, none⟩ w fun x27 =>
          node_fits.B2 m0 (decide (x27 ≥ (3 : Int))) w  R))))
theorem node_fits.B1_eq (m0 : Nat) (t11 : Bool) (w : World)   (R : Bool → World → Prop) (sB2 : Nat → Bool → World → Prop) :
    (
  Bm t11 (
    R false w) (
    LdI .i64 ⟨m0, 1, none⟩ w fun x13 =>
    Bm (decide (x13 < (0 : Int))) (
      sB2 m0 true w) (
      LdI .i64 ⟨m0, 1, none⟩ w fun x17 =>
      Bm (decide (x17 ≥ (3 : Int))) (
        sB2 m0 true w) (
        LdI .i64 ⟨m0, 2, none⟩ w fun x22 =>
        Bm (decide (x22 < (0 : Int))) (
          sB2 m0 true w) (
          LdI .i64 ⟨m0, 2, none⟩ w fun x27 =>
          sB2 m0 (decide (x27 ≥ (3 : Int))) w))))) = kstep Tryz.prog 79 Tryz.f255.results.toList (Tryz.f255.body.getD .skip) (node_fits.RV R) (kvc Tryz.prog 79 Tryz.f255.results.toList (Tryz.f255.body.getD .skip) (node_fits.RV R) [([(0, [1, 1, 0, 1]), (0, [1, 1, 1])], fun σ w => dK (slotOf σ 1) fun m0_ => dB (slotOf σ 29) fun t29_ => sB2 m0_ t29_ w)] 2000) [(0, [1, 0, 1]), (0, [1, 1])] [(1, .pointer (some ⟨m0, 0, none⟩)), (11, .bool t11)] w := by kernel_rfl
theorem node_fits.B1_sound {R : Bool → World → Prop}  (m0 : Nat) (t11 : Bool) (w : World) (h : node_fits.B1 m0 t11 w   R) :
    KW Tryz.prog 255 79 (node_fits.RV R) ([(0, [1, 0, 1]), (0, [1, 1])].map (toItem (Tryz.f255.body.getD .skip))) [(1, .pointer (some ⟨m0, 0, none⟩)), (11, .bool t11)] w := by
  exact block_spec Tryz.func255 Tryz.mixed (stops_cons (fun σ w h => by
      obtain ⟨m0_, e0, h⟩ := dK_elim h
      obtain ⟨t29_, e1, h⟩ := dB_elim h
      exact (node_fits.B2_sound  m0_ t29_ w h).weaken (Sub.cons (Sub.cons (Sub.nil _) e1) e0)) stops_nil) (Eq.mp (node_fits.B1_eq m0 t11 w   R (fun m0_ t29_ w => node_fits.B2 m0_ t29_ w  R)) h)
def node_fits.B0 (m0_0 m0_1 m0_2 m0_3 m0_4 m0_5 m0_6 : Int) (m0_7 : Bool) (m0_8_b : Option Addr) (m0_8_l m0_8_c : Nat) (m0_9 : ByteArray) (w : World)   (R : Bool → World → Prop) : Prop :=
  New (.cells #[.int .i64 m0_0, .int .i64 m0_1, .int .i64 m0_2, .int .i64 m0_3, .int .i64 m0_4, .int .i64 m0_5, .int .i64 m0_6, .bool m0_7, .slice m0_8_b m0_8_l m0_8_c, .string m0_9] 101) w fun m0_ w1 =>
  LdI .i64 ⟨m0_, 0, none⟩ w1 fun x5 =>
  Bm (decide (x5 < (1 : Int))) (
    node_fits.B1 m0_ true w1  R) (
    LdI .i64 ⟨m0_, 0, none⟩ w1 fun x9 =>
    node_fits.B1 m0_ (decide (x9 > (5 : Int))) w1  R)
theorem node_fits.B0_eq (m0_0 m0_1 m0_2 m0_3 m0_4 m0_5 m0_6 : Int) (m0_7 : Bool) (m0_8_b : Option Addr) (m0_8_l m0_8_c : Nat) (m0_9 : ByteArray) (w : World)   (R : Bool → World → Prop) (sB1 : Nat → Bool → World → Prop) :
    (
  New (.cells #[.int .i64 m0_0, .int .i64 m0_1, .int .i64 m0_2, .int .i64 m0_3, .int .i64 m0_4, .int .i64 m0_5, .int .i64 m0_6, .bool m0_7, .slice m0_8_b m0_8_l m0_8_c, .string m0_9] 101) w fun m0_ w1 =>
  LdI .i64 ⟨m0_, 0, none⟩ w1 fun x5 =>
  Bm (decide (x5 < (1 : Int))) (
    sB1 m0_ true w1) (
    LdI .i64 ⟨m0_, 0, none⟩ w1 fun x9 =>
    sB1 m0_ (decide (x9 > (5 : Int))) w1)) = kstep Tryz.prog 79 Tryz.f255.results.toList (Tryz.f255.body.getD .skip) (node_fits.RV R) (kvc Tryz.prog 79 Tryz.f255.results.toList (Tryz.f255.body.getD .skip) (node_fits.RV R) [([(0, [1, 0, 1]), (0, [1, 1])], fun σ w => dK (slotOf σ 1) fun m0_ => dB (slotOf σ 11) fun t11_ => sB1 m0_ t11_ w)] 2000) [(0, [])] [(0, .agg #[.int .i64 m0_0, .int .i64 m0_1, .int .i64 m0_2, .int .i64 m0_3, .int .i64 m0_4, .int .i64 m0_5, .int .i64 m0_6, .bool m0_7, .slice m0_8_b m0_8_l m0_8_c, .string m0_9])] w := by kernel_rfl
theorem node_fits.B0_sound {R : Bool → World → Prop}  (m0_0 m0_1 m0_2 m0_3 m0_4 m0_5 m0_6 : Int) (m0_7 : Bool) (m0_8_b : Option Addr) (m0_8_l m0_8_c : Nat) (m0_9 : ByteArray) (w : World) (h : node_fits.B0 m0_0 m0_1 m0_2 m0_3 m0_4 m0_5 m0_6 m0_7 m0_8_b m0_8_l m0_8_c m0_9 w   R) :
    KW Tryz.prog 255 79 (node_fits.RV R) ([(0, [])].map (toItem (Tryz.f255.body.getD .skip))) [(0, .agg #[.int .i64 m0_0, .int .i64 m0_1, .int .i64 m0_2, .int .i64 m0_3, .int .i64 m0_4, .int .i64 m0_5, .int .i64 m0_6, .bool m0_7, .slice m0_8_b m0_8_l m0_8_c, .string m0_9])] w := by
  exact block_spec Tryz.func255 Tryz.mixed (stops_cons (fun σ w h => by
      obtain ⟨m0_, e0, h⟩ := dK_elim h
      obtain ⟨t11_, e1, h⟩ := dB_elim h
      exact (node_fits.B1_sound  m0_ t11_ w h).weaken (Sub.cons (Sub.cons (Sub.nil _) e1) e0)) stops_nil) (Eq.mp (node_fits.B0_eq m0_0 m0_1 m0_2 m0_3 m0_4 m0_5 m0_6 m0_7 m0_8_b m0_8_l m0_8_c m0_9 w   R (fun m0_ t11_ w => node_fits.B1 m0_ t11_ w  R)) h)
theorem node_fits.sound (m0_0 m0_1 m0_2 m0_3 m0_4 m0_5 m0_6 : Int) (m0_7 : Bool) (m0_8_b : Option Addr) (m0_8_l m0_8_c : Nat) (m0_9 : ByteArray) (w : World) (R : Bool → World → Prop) (h : node_fits.B0 m0_0 m0_1 m0_2 m0_3 m0_4 m0_5 m0_6 m0_7 m0_8_b m0_8_l m0_8_c m0_9 w R) : node_fits.Call m0_0 m0_1 m0_2 m0_3 m0_4 m0_5 m0_6 m0_7 m0_8_b m0_8_l m0_8_c m0_9 w R := by
  have hc := calls_of_block (args := #[.agg #[.int .i64 m0_0, .int .i64 m0_1, .int .i64 m0_2, .int .i64 m0_3, .int .i64 m0_4, .int .i64 m0_5, .int .i64 m0_6, .bool m0_7, .slice m0_8_b m0_8_l m0_8_c, .string m0_9]]) Tryz.func255 (body := (Tryz.f255.body.getD .skip)) (by kernel_rfl) (by kernel_rfl) (args_slot _) (node_fits.B0_sound m0_0 m0_1 m0_2 m0_3 m0_4 m0_5 m0_6 m0_7 m0_8_b m0_8_l m0_8_c m0_9 w h)
  exact hc.mono fun e w' he => by
    obtain ⟨v, rfl, hv⟩ := he
    exact node_fits.RV_elim hv
def node_enc_put.B0 (w0 : Option Addr) (b : Int) (w : World)   (R : World → Prop) : Prop :=
  Pn w0 fun a =>
  LdI .i64 (a.add 234) w.drew fun x8 =>
  Pn w0 fun a_1 =>
  (0 ≤ x8 ∧ x8 < ((234 : Nat) : Int)) ∧
  Sts [.int .u8 b] (Addr.add a_1 (x8.toNat * 1)) 0 w.drew fun w1 =>
  Pn w0 fun a_2 =>
  LdI .i64 (a_2.add 234) w1 fun x16 =>
  Pn w0 fun a_3 =>
  Sts [.int .i64 (IntKind.i64.wrap (x16 + (1 : Int)))] (a_3.add 234) 0 w1 fun w2 =>
  Pn w0 fun a_4 =>
  LdI .i64 (a_4.add 235) w2 fun x24 =>
  node_mix.Call x24 b w2 fun r26 w3 =>
  Pn w0 fun a_5 =>
  Sts [.int .i64 r26] (a_5.add 235) 0 w3 fun w4 =>
  R  w4
theorem node_enc_put.B0_eq (w0 : Option Addr) (b : Int) (w : World)   (R : World → Prop)  :
    (
  Pn w0 fun a =>
  LdI .i64 (a.add 234) w.drew fun x8 =>
  Pn w0 fun a_1 =>
  (0 ≤ x8 ∧ x8 < ((234 : Nat) : Int)) ∧
  Sts [.int .u8 b] (Addr.add a_1 (x8.toNat * 1)) 0 w.drew fun w1 =>
  Pn w0 fun a_2 =>
  LdI .i64 (a_2.add 234) w1 fun x16 =>
  Pn w0 fun a_3 =>
  Sts [.int .i64 (IntKind.i64.wrap (x16 + (1 : Int)))] (a_3.add 234) 0 w1 fun w2 =>
  Pn w0 fun a_4 =>
  LdI .i64 (a_4.add 235) w2 fun x24 =>
  node_mix.Call x24 b w2 fun r26 w3 =>
  Pn w0 fun a_5 =>
  Sts [.int .i64 r26] (a_5.add 235) 0 w3 fun w4 =>
  R  w4) = kstep Tryz.prog 29 Tryz.f256.results.toList (Tryz.f256.body.getD .skip) (node_enc_put.RV R) (kvc Tryz.prog 29 Tryz.f256.results.toList (Tryz.f256.body.getD .skip) (node_enc_put.RV R) [] 2000) [(0, [])] [(0, .pointer w0), (1, .int .u8 b)] w := by kernel_rfl
theorem node_enc_put.B0_sound {R : World → Prop}  (w0 : Option Addr) (b : Int) (w : World) (h : node_enc_put.B0 w0 b w   R) :
    KW Tryz.prog 256 29 (node_enc_put.RV R) ([(0, [])].map (toItem (Tryz.f256.body.getD .skip))) [(0, .pointer w0), (1, .int .u8 b)] w := by
  exact block_spec Tryz.func256 Tryz.mixed stops_nil (Eq.mp (node_enc_put.B0_eq w0 b w   R ) h)
theorem node_enc_put.sound (w0 : Option Addr) (b : Int) (w : World) (R : World → Prop) (h : node_enc_put.B0 w0 b w R) : node_enc_put.Call w0 b w R := by
  have hc := calls_of_block (args := #[.pointer w0, .int .u8 b]) Tryz.func256 (body := (Tryz.f256.body.getD .skip)) (by kernel_rfl) (by kernel_rfl) (args_slot _) (node_enc_put.B0_sound w0 b w h)
  exact hc.mono fun e w' he => by
    obtain ⟨v, rfl, hv⟩ := he
    exact node_enc_put.RV_elim hv
def node_enc_num.B0 (w0 : Option Addr) (v : Int) (w : World)   (R : World → Prop) : Prop :=
  0 ≤ (56 : Int) ∧
  node_enc_put.Call w0 (IntKind.u8.wrap ((IntKind.u64.wrap v).fdiv (2 ^ (min (56 : Int).toNat IntKind.u64.bits)))) w fun w1 =>
  0 ≤ (48 : Int) ∧
  node_enc_put.Call w0 (IntKind.u8.wrap ((IntKind.u64.wrap v).fdiv (2 ^ (min (48 : Int).toNat IntKind.u64.bits)))) w1 fun w2 =>
  0 ≤ (40 : Int) ∧
  node_enc_put.Call w0 (IntKind.u8.wrap ((IntKind.u64.wrap v).fdiv (2 ^ (min (40 : Int).toNat IntKind.u64.bits)))) w2 fun w3 =>
  0 ≤ (32 : Int) ∧
  node_enc_put.Call w0 (IntKind.u8.wrap ((IntKind.u64.wrap v).fdiv (2 ^ (min (32 : Int).toNat IntKind.u64.bits)))) w3 fun w4 =>
  0 ≤ (24 : Int) ∧
  node_enc_put.Call w0 (IntKind.u8.wrap ((IntKind.u64.wrap v).fdiv (2 ^ (min (24 : Int).toNat IntKind.u64.bits)))) w4 fun w5 =>
  0 ≤ (16 : Int) ∧
  node_enc_put.Call w0 (IntKind.u8.wrap ((IntKind.u64.wrap v).fdiv (2 ^ (min (16 : Int).toNat IntKind.u64.bits)))) w5 fun w6 =>
  0 ≤ (8 : Int) ∧
  node_enc_put.Call w0 (IntKind.u8.wrap ((IntKind.u64.wrap v).fdiv (2 ^ (min (8 : Int).toNat IntKind.u64.bits)))) w6 fun w7 =>
  node_enc_put.Call w0 (IntKind.u8.wrap (IntKind.u64.wrap v)) w7 fun w8 =>
  R  w8
theorem node_enc_num.B0_eq (w0 : Option Addr) (v : Int) (w : World)   (R : World → Prop)  :
    (
  0 ≤ (56 : Int) ∧
  node_enc_put.Call w0 (IntKind.u8.wrap ((IntKind.u64.wrap v).fdiv (2 ^ (min (56 : Int).toNat IntKind.u64.bits)))) w fun w1 =>
  0 ≤ (48 : Int) ∧
  node_enc_put.Call w0 (IntKind.u8.wrap ((IntKind.u64.wrap v).fdiv (2 ^ (min (48 : Int).toNat IntKind.u64.bits)))) w1 fun w2 =>
  0 ≤ (40 : Int) ∧
  node_enc_put.Call w0 (IntKind.u8.wrap ((IntKind.u64.wrap v).fdiv (2 ^ (min (40 : Int).toNat IntKind.u64.bits)))) w2 fun w3 =>
  0 ≤ (32 : Int) ∧
  node_enc_put.Call w0 (IntKind.u8.wrap ((IntKind.u64.wrap v).fdiv (2 ^ (min (32 : Int).toNat IntKind.u64.bits)))) w3 fun w4 =>
  0 ≤ (24 : Int) ∧
  node_enc_put.Call w0 (IntKind.u8.wrap ((IntKind.u64.wrap v).fdiv (2 ^ (min (24 : Int).toNat IntKind.u64.bits)))) w4 fun w5 =>
  0 ≤ (16 : Int) ∧
  node_enc_put.Call w0 (IntKind.u8.wrap ((IntKind.u64.wrap v).fdiv (2 ^ (min (16 : Int).toNat IntKind.u64.bits)))) w5 fun w6 =>
  0 ≤ (8 : Int) ∧
  node_enc_put.Call w0 (IntKind.u8.wrap ((IntKind.u64.wrap v).fdiv (2 ^ (min (8 : Int).toNat IntKind.u64.bits)))) w6 fun w7 =>
  node_enc_put.Call w0 (IntKind.u8.wrap (IntKind.u64.wrap v)) w7 fun w8 =>
  R  w8) = kstep Tryz.prog 46 Tryz.f257.results.toList (Tryz.f257.body.getD .skip) (node_enc_num.RV R) (kvc Tryz.prog 46 Tryz.f257.results.toList (Tryz.f257.body.getD .skip) (node_enc_num.RV R) [] 2000) [(0, [])] [(0, .pointer w0), (1, .int .i64 v)] w := by kernel_rfl
theorem node_enc_num.B0_sound {R : World → Prop}  (w0 : Option Addr) (v : Int) (w : World) (h : node_enc_num.B0 w0 v w   R) :
    KW Tryz.prog 257 46 (node_enc_num.RV R) ([(0, [])].map (toItem (Tryz.f257.body.getD .skip))) [(0, .pointer w0), (1, .int .i64 v)] w := by
  exact block_spec Tryz.func257 Tryz.mixed stops_nil (Eq.mp (node_enc_num.B0_eq w0 v w   R ) h)
theorem node_enc_num.sound (w0 : Option Addr) (v : Int) (w : World) (R : World → Prop) (h : node_enc_num.B0 w0 v w R) : node_enc_num.Call w0 v w R := by
  have hc := calls_of_block (args := #[.pointer w0, .int .i64 v]) Tryz.func257 (body := (Tryz.f257.body.getD .skip)) (by kernel_rfl) (by kernel_rfl) (args_slot _) (node_enc_num.B0_sound w0 v w h)
  exact hc.mono fun e w' he => by
    obtain ⟨v, rfl, hv⟩ := he
    exact node_enc_num.RV_elim hv
def node_enc_text.L1b (w0 : Option Addr) (s : ByteArray) (i : Int) (w : World)  (N1 : Option Addr → ByteArray → Int → World → Prop) (R : World → Prop) : Prop :=
  Bm (decide (i < ((s.size : Nat) : Int))) (
    (0 ≤ i ∧ i < ((s.size : Nat) : Int)) ∧
    node_enc_put.Call w0 (byteAt s i) w fun w1 =>
    N1 w0 s (IntKind.i64.wrap (i + (1 : Int))) w1) (
    R  w)
theorem node_enc_text.L1b_eq (w0 : Option Addr) (s : ByteArray) (i : Int) (w : World)  (N1 : Option Addr → ByteArray → Int → World → Prop) (R : World → Prop)  :
    (
  Bm (decide (i < ((s.size : Nat) : Int))) (
    (0 ≤ i ∧ i < ((s.size : Nat) : Int)) ∧
    node_enc_put.Call w0 (byteAt s i) w fun w1 =>
    N1 w0 s (IntKind.i64.wrap (i + (1 : Int))) w1) (
    R  w)) = kstep Tryz.prog 21 Tryz.f258.results.toList (Tryz.f258.body.getD .skip) (node_enc_text.RV R) (kvc Tryz.prog 21 Tryz.f258.results.toList (Tryz.f258.body.getD .skip) (node_enc_text.RV R) [([(0, [1, 1, 0, 0]), (2, [1, 1, 0, 0]), (1, [0])], fun σ w => dP (slotOf σ 0) fun w0_ => dS (slotOf σ 1) fun s_ => dI .i64 (slotOf σ 4) fun i_ => N1 w0_ s_ i_ w)] 2000) [(0, [1, 1, 0, 0]), (2, [1, 1, 0, 0]), (1, [0])] [(0, .pointer w0), (1, .string s), (4, .int .i64 i)] w := by kernel_rfl
theorem node_enc_text.L1b_sound {R : World → Prop} {N1 : Option Addr → ByteArray → Int → World → Prop} (hN1 : ∀ w0 s i w, N1 w0 s i w → KW Tryz.prog 258 21 (node_enc_text.RV R) ([(0, [1, 1, 0, 0]), (2, [1, 1, 0, 0]), (1, [0])].map (toItem (Tryz.f258.body.getD .skip))) [(0, .pointer w0), (1, .string s), (4, .int .i64 i)] w) (w0 : Option Addr) (s : ByteArray) (i : Int) (w : World) (h : node_enc_text.L1b w0 s i w  N1 R) :
    KW Tryz.prog 258 21 (node_enc_text.RV R) ([(0, [1, 1, 0, 0]), (2, [1, 1, 0, 0]), (1, [0])].map (toItem (Tryz.f258.body.getD .skip))) [(0, .pointer w0), (1, .string s), (4, .int .i64 i)] w := by
  exact block_spec Tryz.func258 Tryz.mixed (stops_cons (fun σ w h => by
      obtain ⟨w0_, e0, h⟩ := dP_elim h
      obtain ⟨s_, e1, h⟩ := dS_elim h
      obtain ⟨i_, e2, h⟩ := dI_elim h
      exact (hN1 w0_ s_ i_ w h).weaken (Sub.cons (Sub.cons (Sub.cons (Sub.nil _) e2) e1) e0)) stops_nil) (Eq.mp (node_enc_text.L1b_eq w0 s i w  N1 R ) h)
def node_enc_text.L1 (w0 : Option Addr) (s : ByteArray) (i : Int) (w : World)  (R : World → Prop) : Prop :=
  ∃ (I : Nat → Option Addr → ByteArray → Int → World → Prop) (m : Nat), I m w0 s i w ∧ ∀ m w0 s i w, I m w0 s i w → node_enc_text.L1b w0 s i w  (fun w0' s' i' w' => ∃ m', m' < m ∧ I m' w0' s' i' w') R
theorem node_enc_text.L1_sound {R : World → Prop}  (w0 : Option Addr) (s : ByteArray) (i : Int) (w : World) (h : node_enc_text.L1 w0 s i w  R) :
    KW Tryz.prog 258 21 (node_enc_text.RV R) ([(0, [1, 1, 0, 0]), (2, [1, 1, 0, 0]), (1, [0])].map (toItem (Tryz.f258.body.getD .skip))) [(0, .pointer w0), (1, .string s), (4, .int .i64 i)] w := by
  obtain ⟨I, m, hBase, hr⟩ := h
  refine KW.loop (fun m σ w => ∃ (w0 : Option Addr) (s : ByteArray) (i : Int), σ = [(0, .pointer w0), (1, .string s), (4, .int .i64 i)] ∧ I m w0 s i w) ?_ m _ w ⟨w0, s, i, rfl, hBase⟩
  rintro m ih σ w ⟨w0, s, i, rfl, hI⟩
  exact node_enc_text.L1b_sound  (N1 := fun w0' s' i' w' => ∃ m', m' < m ∧ I m' w0' s' i' w') (fun w0' s' i' w' hx => by obtain ⟨m', hlt, hI'⟩ := hx; exact ih m' hlt _ w' ⟨w0', s', i', rfl, hI'⟩) w0 s i w (hr m w0 s i w hI)
def node_enc_text.B0 (w0 : Option Addr) (s : ByteArray) (w : World)   (R : World → Prop) : Prop :=
  node_enc_put.Call w0 (IntKind.u8.wrap ((s.size : Nat) : Int)) w fun w1 =>
  node_enc_text.L1 w0 s (0 : Int) w1  R
theorem node_enc_text.B0_eq (w0 : Option Addr) (s : ByteArray) (w : World)   (R : World → Prop) (sL1 : Option Addr → ByteArray → Int → World → Prop) :
    (
  node_enc_put.Call w0 (IntKind.u8.wrap ((s.size : Nat) : Int)) w fun w1 =>
  sL1 w0 s (0 : Int) w1) = kstep Tryz.prog 21 Tryz.f258.results.toList (Tryz.f258.body.getD .skip) (node_enc_text.RV R) (kvc Tryz.prog 21 Tryz.f258.results.toList (Tryz.f258.body.getD .skip) (node_enc_text.RV R) [([(0, [1, 1, 0, 0]), (2, [1, 1, 0, 0]), (1, [0])], fun σ w => dP (slotOf σ 0) fun w0_ => dS (slotOf σ 1) fun s_ => dI .i64 (slotOf σ 4) fun i_ => sL1 w0_ s_ i_ w)] 2000) [(0, [])] [(0, .pointer w0), (1, .string s)] w := by kernel_rfl
theorem node_enc_text.B0_sound {R : World → Prop}  (w0 : Option Addr) (s : ByteArray) (w : World) (h : node_enc_text.B0 w0 s w   R) :
    KW Tryz.prog 258 21 (node_enc_text.RV R) ([(0, [])].map (toItem (Tryz.f258.body.getD .skip))) [(0, .pointer w0), (1, .string s)] w := by
  exact block_spec Tryz.func258 Tryz.mixed (stops_cons (fun σ w h => by
      obtain ⟨w0_, e0, h⟩ := dP_elim h
      obtain ⟨s_, e1, h⟩ := dS_elim h
      obtain ⟨i_, e2, h⟩ := dI_elim h
      exact (node_enc_text.L1_sound  w0_ s_ i_ w h).weaken (Sub.cons (Sub.cons (Sub.cons (Sub.nil _) e2) e1) e0)) stops_nil) (Eq.mp (node_enc_text.B0_eq w0 s w   R (fun w0_ s_ i_ w => node_enc_text.L1 w0_ s_ i_ w  R)) h)
theorem node_enc_text.sound (w0 : Option Addr) (s : ByteArray) (w : World) (R : World → Prop) (h : node_enc_text.B0 w0 s w R) : node_enc_text.Call w0 s w R := by
  have hc := calls_of_block (args := #[.pointer w0, .string s]) Tryz.func258 (body := (Tryz.f258.body.getD .skip)) (by kernel_rfl) (by kernel_rfl) (args_slot _) (node_enc_text.B0_sound w0 s w h)
  exact hc.mono fun e w' he => by
    obtain ⟨v, rfl, hv⟩ := he
    exact node_enc_text.RV_elim hv
def kv_table_room.B1 (t : Option Addr) (i n : Int) (t20 : Bool) (w : World) (N1 : Option Addr → Int → Int → World → Prop)  (R : Int → World → Prop) : Prop :=
  Bm t20 (
    kv_next.Call i w fun r24 w1 =>
    N1 t r24 (IntKind.i64.wrap (n + (1 : Int))) w1) (
    R i w)
theorem kv_table_room.B1_eq (t : Option Addr) (i n : Int) (t20 : Bool) (w : World) (N1 : Option Addr → Int → Int → World → Prop)  (R : Int → World → Prop)  :
    (
  Bm t20 (
    kv_next.Call i w fun r24 w1 =>
    N1 t r24 (IntKind.i64.wrap (n + (1 : Int))) w1) (
    R i w)) = kstep Tryz.prog 26 Tryz.f259.results.toList (Tryz.f259.body.getD .skip) (kv_table_room.RV R) (kvc Tryz.prog 26 Tryz.f259.results.toList (Tryz.f259.body.getD .skip) (kv_table_room.RV R) [([(0, [1, 1, 0, 1, 0, 0]), (2, [1, 1, 0, 1, 0, 0]), (1, [0]), (0, [1, 1, 1])], fun σ w => dP (slotOf σ 0) fun t_ => dI .i64 (slotOf σ 5) fun i_ => dI .i64 (slotOf σ 6) fun n_ => N1 t_ i_ n_ w)] 2000) [(0, [1, 1, 0, 1, 0, 0, 0, 1]), (0, [1, 1, 0, 1, 0, 0, 1]), (2, [1, 1, 0, 1, 0, 0]), (1, [0]), (0, [1, 1, 1])] [(0, .pointer t), (5, .int .i64 i), (6, .int .i64 n), (20, .bool t20)] w := by kernel_rfl
theorem kv_table_room.B1_sound {R : Int → World → Prop} {N1 : Option Addr → Int → Int → World → Prop} (hN1 : ∀ t i n w, N1 t i n w → KW Tryz.prog 259 26 (kv_table_room.RV R) ([(0, [1, 1, 0, 1, 0, 0]), (2, [1, 1, 0, 1, 0, 0]), (1, [0]), (0, [1, 1, 1])].map (toItem (Tryz.f259.body.getD .skip))) [(0, .pointer t), (5, .int .i64 i), (6, .int .i64 n)] w) (t : Option Addr) (i n : Int) (t20 : Bool) (w : World) (h : kv_table_room.B1 t i n t20 w N1  R) :
    KW Tryz.prog 259 26 (kv_table_room.RV R) ([(0, [1, 1, 0, 1, 0, 0, 0, 1]), (0, [1, 1, 0, 1, 0, 0, 1]), (2, [1, 1, 0, 1, 0, 0]), (1, [0]), (0, [1, 1, 1])].map (toItem (Tryz.f259.body.getD .skip))) [(0, .pointer t), (5, .int .i64 i), (6, .int .i64 n), (20, .bool t20)] w := by
  exact block_spec Tryz.func259 Tryz.mixed (stops_cons (fun σ w h => by
      obtain ⟨t_, e0, h⟩ := dP_elim h
      obtain ⟨i_, e1, h⟩ := dI_elim h
      obtain ⟨n_, e2, h⟩ := dI_elim h
      exact (hN1 t_ i_ n_ w h).weaken (Sub.cons (Sub.cons (Sub.cons (Sub.nil _) e2) e1) e0)) stops_nil) (Eq.mp (kv_table_room.B1_eq t i n t20 w N1  R ) h)
def kv_table_room.L1b (t : Option Addr) (i n : Int) (w : World)  (N1 : Option Addr → Int → Int → World → Prop) (R : Int → World → Prop) : Prop :=
  Bm (decide (n < (8 : Int))) (
    Pn t fun a =>
    (0 ≤ i ∧ i < ((8 : Nat) : Int)) ∧
    LdI .i64 (Addr.add a (i.toNat * 8)) w fun x18 =>
    kv_table_room.B1 t i n (x18 == (1 : Int)) w N1 R) (
    kv_table_room.B1 t i n false w N1 R)
theorem kv_table_room.L1b_eq (t : Option Addr) (i n : Int) (w : World)  (N1 : Option Addr → Int → Int → World → Prop) (R : Int → World → Prop) (sB1 : Option Addr → Int → Int → Bool → World → Prop) :
    (
  Bm (decide (n < (8 : Int))) (
    Pn t fun a =>
    (0 ≤ i ∧ i < ((8 : Nat) : Int)) ∧
    LdI .i64 (Addr.add a (i.toNat * 8)) w fun x18 =>
    sB1 t i n (x18 == (1 : Int)) w) (
    sB1 t i n false w)) = kstep Tryz.prog 26 Tryz.f259.results.toList (Tryz.f259.body.getD .skip) (kv_table_room.RV R) (kvc Tryz.prog 26 Tryz.f259.results.toList (Tryz.f259.body.getD .skip) (kv_table_room.RV R) [([(0, [1, 1, 0, 1, 0, 0, 0, 1]), (0, [1, 1, 0, 1, 0, 0, 1]), (2, [1, 1, 0, 1, 0, 0]), (1, [0]), (0, [1, 1, 1])], fun σ w => dP (slotOf σ 0) fun t_ => dI .i64 (slotOf σ 5) fun i_ => dI .i64 (slotOf σ 6) fun n_ => dB (slotOf σ 20) fun t20_ => sB1 t_ i_ n_ t20_ w)] 2000) [(0, [1, 1, 0, 1, 0, 0]), (2, [1, 1, 0, 1, 0, 0]), (1, [0]), (0, [1, 1, 1])] [(0, .pointer t), (5, .int .i64 i), (6, .int .i64 n)] w := by kernel_rfl
theorem kv_table_room.L1b_sound {R : Int → World → Prop} {N1 : Option Addr → Int → Int → World → Prop} (hN1 : ∀ t i n w, N1 t i n w → KW Tryz.prog 259 26 (kv_table_room.RV R) ([(0, [1, 1, 0, 1, 0, 0]), (2, [1, 1, 0, 1, 0, 0]), (1, [0]), (0, [1, 1, 1])].map (toItem (Tryz.f259.body.getD .skip))) [(0, .pointer t), (5, .int .i64 i), (6, .int .i64 n)] w) (t : Option Addr) (i n : Int) (w : World) (h : kv_table_room.L1b t i n w  N1 R) :
    KW Tryz.prog 259 26 (kv_table_room.RV R) ([(0, [1, 1, 0, 1, 0, 0]), (2, [1, 1, 0, 1, 0, 0]), (1, [0]), (0, [1, 1, 1])].map (toItem (Tryz.f259.body.getD .skip))) [(0, .pointer t), (5, .int .i64 i), (6, .int .i64 n)] w := by
  exact block_spec Tryz.func259 Tryz.mixed (stops_cons (fun σ w h => by
      obtain ⟨t_, e0, h⟩ := dP_elim h
      obtain ⟨i_, e1, h⟩ := dI_elim h
      obtain ⟨n_, e2, h⟩ := dI_elim h
      obtain ⟨t20_, e3, h⟩ := dB_elim h
      exact (kv_table_room.B1_sound hN1 t_ i_ n_ t20_ w h).weaken (Sub.cons (Sub.cons (Sub.cons (Sub.cons (Sub.nil _) e3) e2) e1) e0)) stops_nil) (Eq.mp (kv_table_room.L1b_eq t i n w  N1 R (fun t_ i_ n_ t20_ w => kv_table_room.B1 t_ i_ n_ t20_ w N1 R)) h)
def kv_table_room.L1 (t : Option Addr) (i n : Int) (w : World)  (R : Int → World → Prop) : Prop :=
  ∃ (I : Nat → Option Addr → Int → Int → World → Prop) (m : Nat), I m t i n w ∧ ∀ m t i n w, I m t i n w → kv_table_room.L1b t i n w  (fun t' i' n' w' => ∃ m', m' < m ∧ I m' t' i' n' w') R
theorem kv_table_room.L1_sound {R : Int → World → Prop}  (t : Option Addr) (i n : Int) (w : World) (h : kv_table_room.L1 t i n w  R) :
    KW Tryz.prog 259 26 (kv_table_room.RV R) ([(0, [1, 1, 0, 1, 0, 0]), (2, [1, 1, 0, 1, 0, 0]), (1, [0]), (0, [1, 1, 1])].map (toItem (Tryz.f259.body.getD .skip))) [(0, .pointer t), (5, .int .i64 i), (6, .int .i64 n)] w := by
  obtain ⟨I, m, hBase, hr⟩ := h
  refine KW.loop (fun m σ w => ∃ (t : Option Addr) (i n : Int), σ = [(0, .pointer t), (5, .int .i64 i), (6, .int .i64 n)] ∧ I m t i n w) ?_ m _ w ⟨t, i, n, rfl, hBase⟩
  rintro m ih σ w ⟨t, i, n, rfl, hI⟩
  exact kv_table_room.L1b_sound  (N1 := fun t' i' n' w' => ∃ m', m' < m ∧ I m' t' i' n' w') (fun t' i' n' w' hx => by obtain ⟨m', hlt, hI'⟩ := hx; exact ih m' hlt _ w' ⟨t', i', n', rfl, hI'⟩) t i n w (hr m t i n w hI)
def kv_table_room.B0 (t : Option Addr) (key : ByteArray) (w : World)   (R : Int → World → Prop) : Prop :=
  kv_hash.Call key w fun r8 w1 =>
  kv_table_room.L1 t r8 (0 : Int) w1  R
theorem kv_table_room.B0_eq (t : Option Addr) (key : ByteArray) (w : World)   (R : Int → World → Prop) (sL1 : Option Addr → Int → Int → World → Prop) :
    (
  kv_hash.Call key w fun r8 w1 =>
  sL1 t r8 (0 : Int) w1) = kstep Tryz.prog 26 Tryz.f259.results.toList (Tryz.f259.body.getD .skip) (kv_table_room.RV R) (kvc Tryz.prog 26 Tryz.f259.results.toList (Tryz.f259.body.getD .skip) (kv_table_room.RV R) [([(0, [1, 1, 0, 1, 0, 0]), (2, [1, 1, 0, 1, 0, 0]), (1, [0]), (0, [1, 1, 1])], fun σ w => dP (slotOf σ 0) fun t_ => dI .i64 (slotOf σ 5) fun i_ => dI .i64 (slotOf σ 6) fun n_ => sL1 t_ i_ n_ w)] 2000) [(0, [])] [(0, .pointer t), (1, .string key)] w := by kernel_rfl
theorem kv_table_room.B0_sound {R : Int → World → Prop}  (t : Option Addr) (key : ByteArray) (w : World) (h : kv_table_room.B0 t key w   R) :
    KW Tryz.prog 259 26 (kv_table_room.RV R) ([(0, [])].map (toItem (Tryz.f259.body.getD .skip))) [(0, .pointer t), (1, .string key)] w := by
  exact block_spec Tryz.func259 Tryz.mixed (stops_cons (fun σ w h => by
      obtain ⟨t_, e0, h⟩ := dP_elim h
      obtain ⟨i_, e1, h⟩ := dI_elim h
      obtain ⟨n_, e2, h⟩ := dI_elim h
      exact (kv_table_room.L1_sound  t_ i_ n_ w h).weaken (Sub.cons (Sub.cons (Sub.cons (Sub.nil _) e2) e1) e0)) stops_nil) (Eq.mp (kv_table_room.B0_eq t key w   R (fun t_ i_ n_ w => kv_table_room.L1 t_ i_ n_ w  R)) h)
theorem kv_table_room.sound (t : Option Addr) (key : ByteArray) (w : World) (R : Int → World → Prop) (h : kv_table_room.B0 t key w R) : kv_table_room.Call t key w R := by
  have hc := calls_of_block (args := #[.pointer t, .string key]) Tryz.func259 (body := (Tryz.f259.body.getD .skip)) (by kernel_rfl) (by kernel_rfl) (args_slot _) (kv_table_room.B0_sound t key w h)
  exact hc.mono fun e w' he => by
    obtain ⟨v, rfl, hv⟩ := he
    exact kv_table_room.RV_elim hv
def kv_mkCell.B2 (val : ByteArray) (t4 c : Nat) (i : Int) (t35 : Bool) (w : World) (N2 : ByteArray → Nat → Nat → Int → World → Prop)  (R : Int → Int → Int → Int → Int → Int → Int → Int → World → Prop) : Prop :=
  Bm t35 (
    (0 ≤ i ∧ i < ((val.size : Nat) : Int)) ∧
    (0 ≤ i ∧ i < ((3 : Nat) : Int)) ∧
    Sts [.int .u8 (byteAt val i)] (Addr.add ⟨c, 5, none⟩ (i.toNat * 1)) 0 w fun w1 =>
    Sts [.int .i64 (IntKind.i64.wrap (i + (1 : Int)))] ⟨c, 4, none⟩ 0 w1 fun w2 =>
    N2 val t4 c (IntKind.i64.wrap (i + (1 : Int))) w2) (
    LdI .i64 ⟨c, 0, none⟩ w fun x47_0 =>
    LdI .i64 ⟨c, 1, none⟩ w fun x47_1 =>
    LdI .u8 ⟨c, 2, none⟩ w fun x47_2 =>
    LdI .u8 ⟨c, 3, none⟩ w fun x47_3 =>
    LdI .i64 ⟨c, 4, none⟩ w fun x47_4 =>
    LdI .u8 ⟨c, 5, none⟩ w fun x47_5 =>
    LdI .u8 ⟨c, 6, none⟩ w fun x47_6 =>
    LdI .u8 ⟨c, 7, none⟩ w fun x47_7 =>
    Sts [.int .i64 x47_0, .int .i64 x47_1, .int .u8 x47_2, .int .u8 x47_3, .int .i64 x47_4, .int .u8 x47_5, .int .u8 x47_6, .int .u8 x47_7] ⟨t4, 0, none⟩ 0 w fun w3 =>
    LdI .i64 ⟨t4, 0, none⟩ w3 fun r_0 =>
    LdI .i64 ⟨t4, 1, none⟩ w3 fun r_1 =>
    LdI .u8 ⟨t4, 2, none⟩ w3 fun r_2 =>
    LdI .u8 ⟨t4, 3, none⟩ w3 fun r_3 =>
    LdI .i64 ⟨t4, 4, none⟩ w3 fun r_4 =>
    LdI .u8 ⟨t4, 5, none⟩ w3 fun r_5 =>
    LdI .u8 ⟨t4, 6, none⟩ w3 fun r_6 =>
    LdI .u8 ⟨t4, 7, none⟩ w3 fun r_7 =>
    R r_0 r_1 r_2 r_3 r_4 r_5 r_6 r_7 w3)
theorem kv_mkCell.B2_eq (val : ByteArray) (t4 c : Nat) (i : Int) (t35 : Bool) (w : World) (N2 : ByteArray → Nat → Nat → Int → World → Prop)  (R : Int → Int → Int → Int → Int → Int → Int → Int → World → Prop)  :
    (
  Bm t35 (
    (0 ≤ i ∧ i < ((val.size : Nat) : Int)) ∧
    (0 ≤ i ∧ i < ((3 : Nat) : Int)) ∧
    Sts [.int .u8 (byteAt val i)] (Addr.add ⟨c, 5, none⟩ (i.toNat * 1)) 0 w fun w1 =>
    Sts [.int .i64 (IntKind.i64.wrap (i + (1 : Int)))] ⟨c, 4, none⟩ 0 w1 fun w2 =>
    N2 val t4 c (IntKind.i64.wrap (i + (1 : Int))) w2) (
    LdI .i64 ⟨c, 0, none⟩ w fun x47_0 =>
    LdI .i64 ⟨c, 1, none⟩ w fun x47_1 =>
    LdI .u8 ⟨c, 2, none⟩ w fun x47_2 =>
    LdI .u8 ⟨c, 3, none⟩ w fun x47_3 =>
    LdI .i64 ⟨c, 4, none⟩ w fun x47_4 =>
    LdI .u8 ⟨c, 5, none⟩ w fun x47_5 =>
    LdI .u8 ⟨c, 6, none⟩ w fun x47_6 =>
    LdI .u8 ⟨c, 7, none⟩ w fun x47_7 =>
    Sts [.int .i64 x47_0, .int .i64 x47_1, .int .u8 x47_2, .int .u8 x47_3, .int .i64 x47_4, .int .u8 x47_5, .int .u8 x47_6, .int .u8 x47_7] ⟨t4, 0, none⟩ 0 w fun w3 =>
    LdI .i64 ⟨t4, 0, none⟩ w3 fun r_0 =>
    LdI .i64 ⟨t4, 1, none⟩ w3 fun r_1 =>
    LdI .u8 ⟨t4, 2, none⟩ w3 fun r_2 =>
    LdI .u8 ⟨t4, 3, none⟩ w3 fun r_3 =>
    LdI .i64 ⟨t4, 4, none⟩ w3 fun r_4 =>
    LdI .u8 ⟨t4, 5, none⟩ w3 fun r_5 =>
    LdI .u8 ⟨t4, 6, none⟩ w3 fun r_6 =>
    LdI .u8 ⟨t4, 7, none⟩ w3 fun r_7 =>
    R r_0 r_1 r_2 r_3 r_4 r_5 r_6 r_7 w3)) = kstep Tryz.prog 48 Tryz.f260.results.toList (Tryz.f260.body.getD .skip) (kv_mkCell.RV R) (kvc Tryz.prog 48 Tryz.f260.results.toList (Tryz.f260.body.getD .skip) (kv_mkCell.RV R) [([(0, [1, 1, 1, 0, 1, 0, 0]), (2, [1, 1, 1, 0, 1, 0, 0]), (1, [2]), (0, [1, 1, 1, 1])], fun σ w => dS (slotOf σ 1) fun val_ => dK (slotOf σ 4) fun t4_ => dK (slotOf σ 5) fun c_ => dI .i64 (slotOf σ 7) fun i_ => N2 val_ t4_ c_ i_ w)] 2000) [(0, [1, 1, 1, 0, 1, 0, 0, 0, 1]), (0, [1, 1, 1, 0, 1, 0, 0, 1]), (2, [1, 1, 1, 0, 1, 0, 0]), (1, [2]), (0, [1, 1, 1, 1])] [(1, .string val), (4, .pointer (some ⟨t4, 0, none⟩)), (5, .pointer (some ⟨c, 0, none⟩)), (7, .int .i64 i), (35, .bool t35)] w := by kernel_rfl
theorem kv_mkCell.B2_sound {R : Int → Int → Int → Int → Int → Int → Int → Int → World → Prop} {N2 : ByteArray → Nat → Nat → Int → World → Prop} (hN2 : ∀ val t4 c i w, N2 val t4 c i w → KW Tryz.prog 260 48 (kv_mkCell.RV R) ([(0, [1, 1, 1, 0, 1, 0, 0]), (2, [1, 1, 1, 0, 1, 0, 0]), (1, [2]), (0, [1, 1, 1, 1])].map (toItem (Tryz.f260.body.getD .skip))) [(1, .string val), (4, .pointer (some ⟨t4, 0, none⟩)), (5, .pointer (some ⟨c, 0, none⟩)), (7, .int .i64 i)] w) (val : ByteArray) (t4 c : Nat) (i : Int) (t35 : Bool) (w : World) (h : kv_mkCell.B2 val t4 c i t35 w N2  R) :
    KW Tryz.prog 260 48 (kv_mkCell.RV R) ([(0, [1, 1, 1, 0, 1, 0, 0, 0, 1]), (0, [1, 1, 1, 0, 1, 0, 0, 1]), (2, [1, 1, 1, 0, 1, 0, 0]), (1, [2]), (0, [1, 1, 1, 1])].map (toItem (Tryz.f260.body.getD .skip))) [(1, .string val), (4, .pointer (some ⟨t4, 0, none⟩)), (5, .pointer (some ⟨c, 0, none⟩)), (7, .int .i64 i), (35, .bool t35)] w := by
  exact block_spec Tryz.func260 Tryz.mixed (stops_cons (fun σ w h => by
      obtain ⟨val_, e0, h⟩ := dS_elim h
      obtain ⟨t4_, e1, h⟩ := dK_elim h
      obtain ⟨c_, e2, h⟩ := dK_elim h
      obtain ⟨i_, e3, h⟩ := dI_elim h
      exact (hN2 val_ t4_ c_ i_ w h).weaken (Sub.cons (Sub.cons (Sub.cons (Sub.cons (Sub.nil _) e3) e2) e1) e0)) stops_nil) (Eq.mp (kv_mkCell.B2_eq val t4 c i t35 w N2  R ) h)
def kv_mkCell.L2b (val : ByteArray) (t4 c : Nat) (i : Int) (w : World)  (N2 : ByteArray → Nat → Nat → Int → World → Prop) (R : Int → Int → Int → Int → Int → Int → Int → Int → World → Prop) : Prop :=
  Bm (decide (i < ((val.size : Nat) : Int))) (
    kv_mkCell.B2 val t4 c i (decide (i < (3 : Int))) w N2 R) (
    kv_mkCell.B2 val t4 c i false w N2 R)
theorem kv_mkCell.L2b_eq (val : ByteArray) (t4 c : Nat) (i : Int) (w : World)  (N2 : ByteArray → Nat → Nat → Int → World → Prop) (R : Int → Int → Int → Int → Int → Int → Int → Int → World → Prop) (sB2 : ByteArray → Nat → Nat → Int → Bool → World → Prop) :
    (
  Bm (decide (i < ((val.size : Nat) : Int))) (
    sB2 val t4 c i (decide (i < (3 : Int))) w) (
    sB2 val t4 c i false w)) = kstep Tryz.prog 48 Tryz.f260.results.toList (Tryz.f260.body.getD .skip) (kv_mkCell.RV R) (kvc Tryz.prog 48 Tryz.f260.results.toList (Tryz.f260.body.getD .skip) (kv_mkCell.RV R) [([(0, [1, 1, 1, 0, 1, 0, 0, 0, 1]), (0, [1, 1, 1, 0, 1, 0, 0, 1]), (2, [1, 1, 1, 0, 1, 0, 0]), (1, [2]), (0, [1, 1, 1, 1])], fun σ w => dS (slotOf σ 1) fun val_ => dK (slotOf σ 4) fun t4_ => dK (slotOf σ 5) fun c_ => dI .i64 (slotOf σ 7) fun i_ => dB (slotOf σ 35) fun t35_ => sB2 val_ t4_ c_ i_ t35_ w)] 2000) [(0, [1, 1, 1, 0, 1, 0, 0]), (2, [1, 1, 1, 0, 1, 0, 0]), (1, [2]), (0, [1, 1, 1, 1])] [(1, .string val), (4, .pointer (some ⟨t4, 0, none⟩)), (5, .pointer (some ⟨c, 0, none⟩)), (7, .int .i64 i)] w := by kernel_rfl
theorem kv_mkCell.L2b_sound {R : Int → Int → Int → Int → Int → Int → Int → Int → World → Prop} {N2 : ByteArray → Nat → Nat → Int → World → Prop} (hN2 : ∀ val t4 c i w, N2 val t4 c i w → KW Tryz.prog 260 48 (kv_mkCell.RV R) ([(0, [1, 1, 1, 0, 1, 0, 0]), (2, [1, 1, 1, 0, 1, 0, 0]), (1, [2]), (0, [1, 1, 1, 1])].map (toItem (Tryz.f260.body.getD .skip))) [(1, .string val), (4, .pointer (some ⟨t4, 0, none⟩)), (5, .pointer (some ⟨c, 0, none⟩)), (7, .int .i64 i)] w) (val : ByteArray) (t4 c : Nat) (i : Int) (w : World) (h : kv_mkCell.L2b val t4 c i w  N2 R) :
    KW Tryz.prog 260 48 (kv_mkCell.RV R) ([(0, [1, 1, 1, 0, 1, 0, 0]), (2, [1, 1, 1, 0, 1, 0, 0]), (1, [2]), (0, [1, 1, 1, 1])].map (toItem (Tryz.f260.body.getD .skip))) [(1, .string val), (4, .pointer (some ⟨t4, 0, none⟩)), (5, .pointer (some ⟨c, 0, none⟩)), (7, .int .i64 i)] w := by
  exact block_spec Tryz.func260 Tryz.mixed (stops_cons (fun σ w h => by
      obtain ⟨val_, e0, h⟩ := dS_elim h
      obtain ⟨t4_, e1, h⟩ := dK_elim h
      obtain ⟨c_, e2, h⟩ := dK_elim h
      obtain ⟨i_, e3, h⟩ := dI_elim h
      obtain ⟨t35_, e4, h⟩ := dB_elim h
      exact (kv_mkCell.B2_sound hN2 val_ t4_ c_ i_ t35_ w h).weaken (Sub.cons (Sub.cons (Sub.cons (Sub.cons (Sub.cons (Sub.nil _) e4) e3) e2) e1) e0)) stops_nil) (Eq.mp (kv_mkCell.L2b_eq val t4 c i w  N2 R (fun val_ t4_ c_ i_ t35_ w => kv_mkCell.B2 val_ t4_ c_ i_ t35_ w N2 R)) h)
def kv_mkCell.L2 (val : ByteArray) (t4 c : Nat) (i : Int) (w : World)  (R : Int → Int → Int → Int → Int → Int → Int → Int → World → Prop) : Prop :=
  ∃ (I : Nat → ByteArray → Nat → Nat → Int → World → Prop) (m : Nat), I m val t4 c i w ∧ ∀ m val t4 c i w, I m val t4 c i w → kv_mkCell.L2b val t4 c i w  (fun val' t4' c' i' w' => ∃ m', m' < m ∧ I m' val' t4' c' i' w') R
theorem kv_mkCell.L2_sound {R : Int → Int → Int → Int → Int → Int → Int → Int → World → Prop}  (val : ByteArray) (t4 c : Nat) (i : Int) (w : World) (h : kv_mkCell.L2 val t4 c i w  R) :
    KW Tryz.prog 260 48 (kv_mkCell.RV R) ([(0, [1, 1, 1, 0, 1, 0, 0]), (2, [1, 1, 1, 0, 1, 0, 0]), (1, [2]), (0, [1, 1, 1, 1])].map (toItem (Tryz.f260.body.getD .skip))) [(1, .string val), (4, .pointer (some ⟨t4, 0, none⟩)), (5, .pointer (some ⟨c, 0, none⟩)), (7, .int .i64 i)] w := by
  obtain ⟨I, m, hBase, hr⟩ := h
  refine KW.loop (fun m σ w => ∃ (val : ByteArray) (t4 c : Nat) (i : Int), σ = [(1, .string val), (4, .pointer (some ⟨t4, 0, none⟩)), (5, .pointer (some ⟨c, 0, none⟩)), (7, .int .i64 i)] ∧ I m val t4 c i w) ?_ m _ w ⟨val, t4, c, i, rfl, hBase⟩
  rintro m ih σ w ⟨val, t4, c, i, rfl, hI⟩
  exact kv_mkCell.L2b_sound  (N2 := fun val' t4' c' i' w' => ∃ m', m' < m ∧ I m' val' t4' c' i' w') (fun val' t4' c' i' w' hx => by obtain ⟨m', hlt, hI'⟩ := hx; exact ih m' hlt _ w' ⟨val', t4', c', i', rfl, hI'⟩) val t4 c i w (hr m val t4 c i w hI)
def kv_mkCell.B1 (key val : ByteArray) (t4 c : Nat) (i : Int) (t16 : Bool) (w : World) (N1 : ByteArray → ByteArray → Nat → Nat → Int → World → Prop)  (R : Int → Int → Int → Int → Int → Int → Int → Int → World → Prop) : Prop :=
  Bm t16 (
    (0 ≤ i ∧ i < ((key.size : Nat) : Int)) ∧
    (0 ≤ i ∧ i < ((2 : Nat) : Int)) ∧
    Sts [.int .u8 (byteAt key i)] (Addr.add ⟨c, 2, none⟩ (i.toNat * 1)) 0 w fun w1 =>
    Sts [.int .i64 (IntKind.i64.wrap (i + (1 : Int)))] ⟨c, 1, none⟩ 0 w1 fun w2 =>
    N1 key val t4 c (IntKind.i64.wrap (i + (1 : Int))) w2) (
    kv_mkCell.L2 val t4 c (0 : Int) w  R)
theorem kv_mkCell.B1_eq (key val : ByteArray) (t4 c : Nat) (i : Int) (t16 : Bool) (w : World) (N1 : ByteArray → ByteArray → Nat → Nat → Int → World → Prop)  (R : Int → Int → Int → Int → Int → Int → Int → Int → World → Prop) (sL2 : ByteArray → Nat → Nat → Int → World → Prop) :
    (
  Bm t16 (
    (0 ≤ i ∧ i < ((key.size : Nat) : Int)) ∧
    (0 ≤ i ∧ i < ((2 : Nat) : Int)) ∧
    Sts [.int .u8 (byteAt key i)] (Addr.add ⟨c, 2, none⟩ (i.toNat * 1)) 0 w fun w1 =>
    Sts [.int .i64 (IntKind.i64.wrap (i + (1 : Int)))] ⟨c, 1, none⟩ 0 w1 fun w2 =>
    N1 key val t4 c (IntKind.i64.wrap (i + (1 : Int))) w2) (
    sL2 val t4 c (0 : Int) w)) = kstep Tryz.prog 48 Tryz.f260.results.toList (Tryz.f260.body.getD .skip) (kv_mkCell.RV R) (kvc Tryz.prog 48 Tryz.f260.results.toList (Tryz.f260.body.getD .skip) (kv_mkCell.RV R) [([(0, [1, 1, 0, 1, 0, 0]), (2, [1, 1, 0, 1, 0, 0]), (1, [0]), (0, [1, 1, 1])], fun σ w => dS (slotOf σ 0) fun key_ => dS (slotOf σ 1) fun val_ => dK (slotOf σ 4) fun t4_ => dK (slotOf σ 5) fun c_ => dI .i64 (slotOf σ 6) fun i_ => N1 key_ val_ t4_ c_ i_ w),
    ([(0, [1, 1, 1, 0, 1, 0, 0]), (2, [1, 1, 1, 0, 1, 0, 0]), (1, [2]), (0, [1, 1, 1, 1])], fun σ w => dS (slotOf σ 1) fun val_ => dK (slotOf σ 4) fun t4_ => dK (slotOf σ 5) fun c_ => dI .i64 (slotOf σ 7) fun i_ => sL2 val_ t4_ c_ i_ w)] 2000) [(0, [1, 1, 0, 1, 0, 0, 0, 1]), (0, [1, 1, 0, 1, 0, 0, 1]), (2, [1, 1, 0, 1, 0, 0]), (1, [0]), (0, [1, 1, 1])] [(0, .string key), (1, .string val), (4, .pointer (some ⟨t4, 0, none⟩)), (5, .pointer (some ⟨c, 0, none⟩)), (6, .int .i64 i), (16, .bool t16)] w := by kernel_rfl
theorem kv_mkCell.B1_sound {R : Int → Int → Int → Int → Int → Int → Int → Int → World → Prop} {N1 : ByteArray → ByteArray → Nat → Nat → Int → World → Prop} (hN1 : ∀ key val t4 c i w, N1 key val t4 c i w → KW Tryz.prog 260 48 (kv_mkCell.RV R) ([(0, [1, 1, 0, 1, 0, 0]), (2, [1, 1, 0, 1, 0, 0]), (1, [0]), (0, [1, 1, 1])].map (toItem (Tryz.f260.body.getD .skip))) [(0, .string key), (1, .string val), (4, .pointer (some ⟨t4, 0, none⟩)), (5, .pointer (some ⟨c, 0, none⟩)), (6, .int .i64 i)] w) (key val : ByteArray) (t4 c : Nat) (i : Int) (t16 : Bool) (w : World) (h : kv_mkCell.B1 key val t4 c i t16 w N1  R) :
    KW Tryz.prog 260 48 (kv_mkCell.RV R) ([(0, [1, 1, 0, 1, 0, 0, 0, 1]), (0, [1, 1, 0, 1, 0, 0, 1]), (2, [1, 1, 0, 1, 0, 0]), (1, [0]), (0, [1, 1, 1])].map (toItem (Tryz.f260.body.getD .skip))) [(0, .string key), (1, .string val), (4, .pointer (some ⟨t4, 0, none⟩)), (5, .pointer (some ⟨c, 0, none⟩)), (6, .int .i64 i), (16, .bool t16)] w := by
  exact block_spec Tryz.func260 Tryz.mixed (stops_cons (fun σ w h => by
      obtain ⟨key_, e0, h⟩ := dS_elim h
      obtain ⟨val_, e1, h⟩ := dS_elim h
      obtain ⟨t4_, e2, h⟩ := dK_elim h
      obtain ⟨c_, e3, h⟩ := dK_elim h
      obtain ⟨i_, e4, h⟩ := dI_elim h
      exact (hN1 key_ val_ t4_ c_ i_ w h).weaken (Sub.cons (Sub.cons (Sub.cons (Sub.cons (Sub.cons (Sub.nil _) e4) e3) e2) e1) e0)) (stops_cons (fun σ w h => by
      obtain ⟨val_, e0, h⟩ := dS_elim h
      obtain ⟨t4_, e1, h⟩ := dK_elim h
      obtain ⟨c_, e2, h⟩ := dK_elim h
      obtain ⟨i_, e3, h⟩ := dI_elim h
      exact (kv_mkCell.L2_sound  val_ t4_ c_ i_ w h).weaken (Sub.cons (Sub.cons (Sub.cons (Sub.cons (Sub.nil _) e3) e2) e1) e0)) stops_nil)) (Eq.mp (kv_mkCell.B1_eq key val t4 c i t16 w N1  R (fun val_ t4_ c_ i_ w => kv_mkCell.L2 val_ t4_ c_ i_ w  R)) h)
def kv_mkCell.L1b (key val : ByteArray) (t4 c : Nat) (i : Int) (w : World)  (N1 : ByteArray → ByteArray → Nat → Nat → Int → World → Prop) (R : Int → Int → Int → Int → Int → Int → Int → Int → World → Prop) : Prop :=
  Bm (decide (i < ((key.size : Nat) : Int))) (
    kv_mkCell.B1 key val t4 c i (decide (i < (2 : Int))) w N1 R) (
    kv_mkCell.B1 key val t4 c i false w N1 R)
theorem kv_mkCell.L1b_eq (key val : ByteArray) (t4 c : Nat) (i : Int) (w : World)  (N1 : ByteArray → ByteArray → Nat → Nat → Int → World → Prop) (R : Int → Int → Int → Int → Int → Int → Int → Int → World → Prop) (sB1 : ByteArray → ByteArray → Nat → Nat → Int → Bool → World → Prop) :
    (
  Bm (decide (i < ((key.size : Nat) : Int))) (
    sB1 key val t4 c i (decide (i < (2 : Int))) w) (
    sB1 key val t4 c i false w)) = kstep Tryz.prog 48 Tryz.f260.results.toList (Tryz.f260.body.getD .skip) (kv_mkCell.RV R) (kvc Tryz.prog 48 Tryz.f260.results.toList (Tryz.f260.body.getD .skip) (kv_mkCell.RV R) [([(0, [1, 1, 0, 1, 0, 0, 0, 1]), (0, [1, 1, 0, 1, 0, 0, 1]), (2, [1, 1, 0, 1, 0, 0]), (1, [0]), (0, [1, 1, 1])], fun σ w => dS (slotOf σ 0) fun key_ => dS (slotOf σ 1) fun val_ => dK (slotOf σ 4) fun t4_ => dK (slotOf σ 5) fun c_ => dI .i64 (slotOf σ 6) fun i_ => dB (slotOf σ 16) fun t16_ => sB1 key_ val_ t4_ c_ i_ t16_ w)] 2000) [(0, [1, 1, 0, 1, 0, 0]), (2, [1, 1, 0, 1, 0, 0]), (1, [0]), (0, [1, 1, 1])] [(0, .string key), (1, .string val), (4, .pointer (some ⟨t4, 0, none⟩)), (5, .pointer (some ⟨c, 0, none⟩)), (6, .int .i64 i)] w := by kernel_rfl
theorem kv_mkCell.L1b_sound {R : Int → Int → Int → Int → Int → Int → Int → Int → World → Prop} {N1 : ByteArray → ByteArray → Nat → Nat → Int → World → Prop} (hN1 : ∀ key val t4 c i w, N1 key val t4 c i w → KW Tryz.prog 260 48 (kv_mkCell.RV R) ([(0, [1, 1, 0, 1, 0, 0]), (2, [1, 1, 0, 1, 0, 0]), (1, [0]), (0, [1, 1, 1])].map (toItem (Tryz.f260.body.getD .skip))) [(0, .string key), (1, .string val), (4, .pointer (some ⟨t4, 0, none⟩)), (5, .pointer (some ⟨c, 0, none⟩)), (6, .int .i64 i)] w) (key val : ByteArray) (t4 c : Nat) (i : Int) (w : World) (h : kv_mkCell.L1b key val t4 c i w  N1 R) :
    KW Tryz.prog 260 48 (kv_mkCell.RV R) ([(0, [1, 1, 0, 1, 0, 0]), (2, [1, 1, 0, 1, 0, 0]), (1, [0]), (0, [1, 1, 1])].map (toItem (Tryz.f260.body.getD .skip))) [(0, .string key), (1, .string val), (4, .pointer (some ⟨t4, 0, none⟩)), (5, .pointer (some ⟨c, 0, none⟩)), (6, .int .i64 i)] w := by
  exact block_spec Tryz.func260 Tryz.mixed (stops_cons (fun σ w h => by
      obtain ⟨key_, e0, h⟩ := dS_elim h
      obtain ⟨val_, e1, h⟩ := dS_elim h
      obtain ⟨t4_, e2, h⟩ := dK_elim h
      obtain ⟨c_, e3, h⟩ := dK_elim h
      obtain ⟨i_, e4, h⟩ := dI_elim h
      obtain ⟨t16_, e5, h⟩ := dB_elim h
      exact (kv_mkCell.B1_sound hN1 key_ val_ t4_ c_ i_ t16_ w h).weaken (Sub.cons (Sub.cons (Sub.cons (Sub.cons (Sub.cons (Sub.cons (Sub.nil _) e5) e4) e3) e2) e1) e0)) stops_nil) (Eq.mp (kv_mkCell.L1b_eq key val t4 c i w  N1 R (fun key_ val_ t4_ c_ i_ t16_ w => kv_mkCell.B1 key_ val_ t4_ c_ i_ t16_ w N1 R)) h)
def kv_mkCell.L1 (key val : ByteArray) (t4 c : Nat) (i : Int) (w : World)  (R : Int → Int → Int → Int → Int → Int → Int → Int → World → Prop) : Prop :=
  ∃ (I : Nat → ByteArray → ByteArray → Nat → Nat → Int → World → Prop) (m : Nat), I m key val t4 c i w ∧ ∀ m key val t4 c i w, I m key val t4 c i w → kv_mkCell.L1b key val t4 c i w  (fun key' val' t4' c' i' w' => ∃ m', m' < m ∧ I m' key' val' t4' c' i' w') R
theorem kv_mkCell.L1_sound {R : Int → Int → Int → Int → Int → Int → Int → Int → World → Prop}  (key val : ByteArray) (t4 c : Nat) (i : Int) (w : World) (h : kv_mkCell.L1 key val t4 c i w  R) :
    KW Tryz.prog 260 48 (kv_mkCell.RV R) ([(0, [1, 1, 0, 1, 0, 0]), (2, [1, 1, 0, 1, 0, 0]), (1, [0]), (0, [1, 1, 1])].map (toItem (Tryz.f260.body.getD .skip))) [(0, .string key), (1, .string val), (4, .pointer (some ⟨t4, 0, none⟩)), (5, .pointer (some ⟨c, 0, none⟩)), (6, .int .i64 i)] w := by
  obtain ⟨I, m, hBase, hr⟩ := h
  refine KW.loop (fun m σ w => ∃ (key val : ByteArray) (t4 c : Nat) (i : Int), σ = [(0, .string key), (1, .string val), (4, .pointer (some ⟨t4, 0, none⟩)), (5, .pointer (some ⟨c, 0, none⟩)), (6, .int .i64 i)] ∧ I m key val t4 c i w) ?_ m _ w ⟨key, val, t4, c, i, rfl, hBase⟩
  rintro m ih σ w ⟨key, val, t4, c, i, rfl, hI⟩
  exact kv_mkCell.L1b_sound  (N1 := fun key' val' t4' c' i' w' => ∃ m', m' < m ∧ I m' key' val' t4' c' i' w') (fun key' val' t4' c' i' w' hx => by obtain ⟨m', hlt, hI'⟩ := hx; exact ih m' hlt _ w' ⟨key', val', t4', c', i', rfl, hI'⟩) key val t4 c i w (hr m key val t4 c i w hI)
def kv_mkCell.B0 (key val : ByteArray) (w : World)   (R : Int → Int → Int → Int → Int → Int → Int → Int → World → Prop) : Prop :=
  New (.cells #[.int .i64 (0 : Int), .int .i64 (0 : Int), .int .u8 (0 : Int), .int .u8 (0 : Int), .int .i64 (0 : Int), .int .u8 (0 : Int), .int .u8 (0 : Int), .int .u8 (0 : Int)] 66) w fun b4 w1 =>
  New (.cells #[.int .i64 (0 : Int), .int .i64 (0 : Int), .int .u8 (0 : Int), .int .u8 (0 : Int), .int .i64 (0 : Int), .int .u8 (0 : Int), .int .u8 (0 : Int), .int .u8 (0 : Int)] 66) w1 fun c_ w2 =>
  Sts [.int .i64 (1 : Int), .int .i64 (0 : Int), .int .u8 (0 : Int), .int .u8 (0 : Int), .int .i64 (0 : Int), .int .u8 (0 : Int), .int .u8 (0 : Int), .int .u8 (0 : Int)] ⟨c_, 0, none⟩ 0 w2 fun w3 =>
  kv_mkCell.L1 key val b4 c_ (0 : Int) w3  R
theorem kv_mkCell.B0_eq (key val : ByteArray) (w : World)   (R : Int → Int → Int → Int → Int → Int → Int → Int → World → Prop) (sL1 : ByteArray → ByteArray → Nat → Nat → Int → World → Prop) :
    (
  New (.cells #[.int .i64 (0 : Int), .int .i64 (0 : Int), .int .u8 (0 : Int), .int .u8 (0 : Int), .int .i64 (0 : Int), .int .u8 (0 : Int), .int .u8 (0 : Int), .int .u8 (0 : Int)] 66) w fun b4 w1 =>
  New (.cells #[.int .i64 (0 : Int), .int .i64 (0 : Int), .int .u8 (0 : Int), .int .u8 (0 : Int), .int .i64 (0 : Int), .int .u8 (0 : Int), .int .u8 (0 : Int), .int .u8 (0 : Int)] 66) w1 fun c_ w2 =>
  Sts [.int .i64 (1 : Int), .int .i64 (0 : Int), .int .u8 (0 : Int), .int .u8 (0 : Int), .int .i64 (0 : Int), .int .u8 (0 : Int), .int .u8 (0 : Int), .int .u8 (0 : Int)] ⟨c_, 0, none⟩ 0 w2 fun w3 =>
  sL1 key val b4 c_ (0 : Int) w3) = kstep Tryz.prog 48 Tryz.f260.results.toList (Tryz.f260.body.getD .skip) (kv_mkCell.RV R) (kvc Tryz.prog 48 Tryz.f260.results.toList (Tryz.f260.body.getD .skip) (kv_mkCell.RV R) [([(0, [1, 1, 0, 1, 0, 0]), (2, [1, 1, 0, 1, 0, 0]), (1, [0]), (0, [1, 1, 1])], fun σ w => dS (slotOf σ 0) fun key_ => dS (slotOf σ 1) fun val_ => dK (slotOf σ 4) fun t4_ => dK (slotOf σ 5) fun c_ => dI .i64 (slotOf σ 6) fun i_ => sL1 key_ val_ t4_ c_ i_ w)] 2000) [(0, [])] [(0, .string key), (1, .string val)] w := by kernel_rfl
theorem kv_mkCell.B0_sound {R : Int → Int → Int → Int → Int → Int → Int → Int → World → Prop}  (key val : ByteArray) (w : World) (h : kv_mkCell.B0 key val w   R) :
    KW Tryz.prog 260 48 (kv_mkCell.RV R) ([(0, [])].map (toItem (Tryz.f260.body.getD .skip))) [(0, .string key), (1, .string val)] w := by
  exact block_spec Tryz.func260 Tryz.mixed (stops_cons (fun σ w h => by
      obtain ⟨key_, e0, h⟩ := dS_elim h
      obtain ⟨val_, e1, h⟩ := dS_elim h
      obtain ⟨t4_, e2, h⟩ := dK_elim h
      obtain ⟨c_, e3, h⟩ := dK_elim h
      obtain ⟨i_, e4, h⟩ := dI_elim h
      exact (kv_mkCell.L1_sound  key_ val_ t4_ c_ i_ w h).weaken (Sub.cons (Sub.cons (Sub.cons (Sub.cons (Sub.cons (Sub.nil _) e4) e3) e2) e1) e0)) stops_nil) (Eq.mp (kv_mkCell.B0_eq key val w   R (fun key_ val_ t4_ c_ i_ w => kv_mkCell.L1 key_ val_ t4_ c_ i_ w  R)) h)
theorem kv_mkCell.sound (key val : ByteArray) (w : World) (R : Int → Int → Int → Int → Int → Int → Int → Int → World → Prop) (h : kv_mkCell.B0 key val w R) : kv_mkCell.Call key val w R := by
  have hc := calls_of_block (args := #[.string key, .string val]) Tryz.func260 (body := (Tryz.f260.body.getD .skip)) (by kernel_rfl) (by kernel_rfl) (args_slot _) (kv_mkCell.B0_sound key val w h)
  exact hc.mono fun e w' he => by
    obtain ⟨v, rfl, hv⟩ := he
    exact kv_mkCell.RV_elim hv
end Go.Proofs.Qxb6500430aGreat
