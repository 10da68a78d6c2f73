import Derived.Test.Qxb6500429aSig
set_option maxRecDepth 100000
set_option linter.unusedVariables false
open Go.Vc
namespace Go.Proofs.Qxb6500429a
def kv_ansOf.B1 (s t2 : Nat) (b_b : Option Addr) (b_l b_c : Nat) (i : Int) (t13 : Bool) (w : World) (N1 : Nat → Nat → Option Addr → Nat → Nat → Int → World → Prop)  (R : Int → ByteArray → World → Prop) : Prop :=
  Bm t13 (
    (0 ≤ i ∧ i < ((3 : Nat) : Int)) ∧
    LdI .u8 (Addr.add ⟨s, 3, none⟩ (i.toNat * 1)) w fun x20 =>
    New (.cells #[.int .u8 x20] 5) w fun b21 w1 =>
    Append 5 (.int .u8 (0 : Int)) 1 1 b_b b_l b_c (some ⟨b21, 0, none⟩) 1 w1 fun b22 c22 w2 =>
    N1 s t2 b22 (b_l + 1) c22 (IntKind.i64.wrap (i + (1 : Int))) w2) (
    LdI .i64 ⟨s, 1, none⟩ w fun x24 =>
    ToStr b_b b_l w fun s26 =>
    Sts [.int .i64 x24, .string s26] ⟨t2, 0, none⟩ 0 w fun w3 =>
    LdI .i64 ⟨t2, 0, none⟩ w3 fun r_0 =>
    LdS ⟨t2, 1, none⟩ w3 fun r_1 =>
    R r_0 r_1 w3)
theorem kv_ansOf.B1_eq (s t2 : Nat) (b_b : Option Addr) (b_l b_c : Nat) (i : Int) (t13 : Bool) (w : World) (N1 : Nat → Nat → Option Addr → Nat → Nat → Int → World → Prop)  (R : Int → ByteArray → World → Prop)  :
    (
  Bm t13 (
    (0 ≤ i ∧ i < ((3 : Nat) : Int)) ∧
    LdI .u8 (Addr.add ⟨s, 3, none⟩ (i.toNat * 1)) w fun x20 =>
    New (.cells #[.int .u8 x20] 5) w fun b21 w1 =>
    Append 5 (.int .u8 (0 : Int)) 1 1 b_b b_l b_c (some ⟨b21, 0, none⟩) 1 w1 fun b22 c22 w2 =>
    N1 s t2 b22 (b_l + 1) c22 (IntKind.i64.wrap (i + (1 : Int))) w2) (
    LdI .i64 ⟨s, 1, none⟩ w fun x24 =>
    ToStr b_b b_l w fun s26 =>
    Sts [.int .i64 x24, .string s26] ⟨t2, 0, none⟩ 0 w fun w3 =>
    LdI .i64 ⟨t2, 0, none⟩ w3 fun r_0 =>
    LdS ⟨t2, 1, none⟩ w3 fun r_1 =>
    R r_0 r_1 w3)) = kstep Try.prog 28 Try.f25.results.toList (Try.f25.body.getD .skip) (kv_ansOf.RV R) (kvc Try.prog 28 Try.f25.results.toList (Try.f25.body.getD .skip) (kv_ansOf.RV R) [([(0, [1, 1, 0, 1, 0, 0]), (2, [1, 1, 0, 1, 0, 0]), (1, [0]), (0, [1, 1, 1])], fun σ w => dK (slotOf σ 1) fun s_ => dK (slotOf σ 2) fun t2_ => dL (slotOf σ 3) fun b_b_ b_l_ b_c_ => dI .i64 (slotOf σ 4) fun i_ => N1 s_ t2_ b_b_ b_l_ b_c_ i_ w)] 2000) [(0, [1, 1, 0, 1, 0, 0, 0, 1]), (0, [1, 1, 0, 1, 0, 0, 1]), (2, [1, 1, 0, 1, 0, 0]), (1, [0]), (0, [1, 1, 1])] [(1, .pointer (some ⟨s, 0, none⟩)), (2, .pointer (some ⟨t2, 0, none⟩)), (3, .slice b_b b_l b_c), (4, .int .i64 i), (13, .bool t13)] w := by kernel_rfl
theorem kv_ansOf.B1_sound {R : Int → ByteArray → World → Prop} {N1 : Nat → Nat → Option Addr → Nat → Nat → Int → World → Prop} (hN1 : ∀ s t2 b_b b_l b_c i w, N1 s t2 b_b b_l b_c i w → KW Try.prog 25 28 (kv_ansOf.RV R) ([(0, [1, 1, 0, 1, 0, 0]), (2, [1, 1, 0, 1, 0, 0]), (1, [0]), (0, [1, 1, 1])].map (toItem (Try.f25.body.getD .skip))) [(1, .pointer (some ⟨s, 0, none⟩)), (2, .pointer (some ⟨t2, 0, none⟩)), (3, .slice b_b b_l b_c), (4, .int .i64 i)] w) (s t2 : Nat) (b_b : Option Addr) (b_l b_c : Nat) (i : Int) (t13 : Bool) (w : World) (h : kv_ansOf.B1 s t2 b_b b_l b_c i t13 w N1  R) :
    KW Try.prog 25 28 (kv_ansOf.RV R) ([(0, [1, 1, 0, 1, 0, 0, 0, 1]), (0, [1, 1, 0, 1, 0, 0, 1]), (2, [1, 1, 0, 1, 0, 0]), (1, [0]), (0, [1, 1, 1])].map (toItem (Try.f25.body.getD .skip))) [(1, .pointer (some ⟨s, 0, none⟩)), (2, .pointer (some ⟨t2, 0, none⟩)), (3, .slice b_b b_l b_c), (4, .int .i64 i), (13, .bool t13)] w := by
  exact block_spec Try.func25 Try.mixed (stops_cons (fun σ w h => by
      obtain ⟨s_, e0, h⟩ := dK_elim h
      obtain ⟨t2_, e1, h⟩ := dK_elim h
      obtain ⟨b_b_, b_l_, b_c_, e2, h⟩ := dL_elim h
      obtain ⟨i_, e3, h⟩ := dI_elim h
      exact (hN1 s_ t2_ b_b_ b_l_ b_c_ i_ w h).weaken (Sub.cons (Sub.cons (Sub.cons (Sub.cons (Sub.nil _) e3) e2) e1) e0)) stops_nil) (Eq.mp (kv_ansOf.B1_eq s t2 b_b b_l b_c i t13 w N1  R ) h)
def kv_ansOf.L1b (s t2 : Nat) (b_b : Option Addr) (b_l b_c : Nat) (i : Int) (w : World)  (N1 : Nat → Nat → Option Addr → Nat → Nat → Int → World → Prop) (R : Int → ByteArray → World → Prop) : Prop :=
  LdI .i64 ⟨s, 2, none⟩ w fun x8 =>
  Bm (decide (i < x8)) (
    kv_ansOf.B1 s t2 b_b b_l b_c i (decide (i < (3 : Int))) w N1 R) (
    kv_ansOf.B1 s t2 b_b b_l b_c i false w N1 R)
theorem kv_ansOf.L1b_eq (s t2 : Nat) (b_b : Option Addr) (b_l b_c : Nat) (i : Int) (w : World)  (N1 : Nat → Nat → Option Addr → Nat → Nat → Int → World → Prop) (R : Int → ByteArray → World → Prop) (sB1 : Nat → Nat → Option Addr → Nat → Nat → Int → Bool → World → Prop) :
    (
  LdI .i64 ⟨s, 2, none⟩ w fun x8 =>
  Bm (decide (i < x8)) (
    sB1 s t2 b_b b_l b_c i (decide (i < (3 : Int))) w) (
    sB1 s t2 b_b b_l b_c i false w)) = kstep Try.prog 28 Try.f25.results.toList (Try.f25.body.getD .skip) (kv_ansOf.RV R) (kvc Try.prog 28 Try.f25.results.toList (Try.f25.body.getD .skip) (kv_ansOf.RV R) [([(0, [1, 1, 0, 1, 0, 0, 0, 1]), (0, [1, 1, 0, 1, 0, 0, 1]), (2, [1, 1, 0, 1, 0, 0]), (1, [0]), (0, [1, 1, 1])], fun σ w => dK (slotOf σ 1) fun s_ => dK (slotOf σ 2) fun t2_ => dL (slotOf σ 3) fun b_b_ b_l_ b_c_ => dI .i64 (slotOf σ 4) fun i_ => dB (slotOf σ 13) fun t13_ => sB1 s_ t2_ b_b_ b_l_ b_c_ i_ t13_ w)] 2000) [(0, [1, 1, 0, 1, 0, 0]), (2, [1, 1, 0, 1, 0, 0]), (1, [0]), (0, [1, 1, 1])] [(1, .pointer (some ⟨s, 0, none⟩)), (2, .pointer (some ⟨t2, 0, none⟩)), (3, .slice b_b b_l b_c), (4, .int .i64 i)] w := by kernel_rfl
theorem kv_ansOf.L1b_sound {R : Int → ByteArray → World → Prop} {N1 : Nat → Nat → Option Addr → Nat → Nat → Int → World → Prop} (hN1 : ∀ s t2 b_b b_l b_c i w, N1 s t2 b_b b_l b_c i w → KW Try.prog 25 28 (kv_ansOf.RV R) ([(0, [1, 1, 0, 1, 0, 0]), (2, [1, 1, 0, 1, 0, 0]), (1, [0]), (0, [1, 1, 1])].map (toItem (Try.f25.body.getD .skip))) [(1, .pointer (some ⟨s, 0, none⟩)), (2, .pointer (some ⟨t2, 0, none⟩)), (3, .slice b_b b_l b_c), (4, .int .i64 i)] w) (s t2 : Nat) (b_b : Option Addr) (b_l b_c : Nat) (i : Int) (w : World) (h : kv_ansOf.L1b s t2 b_b b_l b_c i w  N1 R) :
    KW Try.prog 25 28 (kv_ansOf.RV R) ([(0, [1, 1, 0, 1, 0, 0]), (2, [1, 1, 0, 1, 0, 0]), (1, [0]), (0, [1, 1, 1])].map (toItem (Try.f25.body.getD .skip))) [(1, .pointer (some ⟨s, 0, none⟩)), (2, .pointer (some ⟨t2, 0, none⟩)), (3, .slice b_b b_l b_c), (4, .int .i64 i)] w := by
  exact block_spec Try.func25 Try.mixed (stops_cons (fun σ w h => by
      obtain ⟨s_, e0, h⟩ := dK_elim h
      obtain ⟨t2_, e1, h⟩ := dK_elim h
      obtain ⟨b_b_, b_l_, b_c_, e2, h⟩ := dL_elim h
      obtain ⟨i_, e3, h⟩ := dI_elim h
      obtain ⟨t13_, e4, h⟩ := dB_elim h
      exact (kv_ansOf.B1_sound hN1 s_ t2_ b_b_ b_l_ b_c_ i_ t13_ w h).weaken (Sub.cons (Sub.cons (Sub.cons (Sub.cons (Sub.cons (Sub.nil _) e4) e3) e2) e1) e0)) stops_nil) (Eq.mp (kv_ansOf.L1b_eq s t2 b_b b_l b_c i w  N1 R (fun s_ t2_ b_b_ b_l_ b_c_ i_ t13_ w => kv_ansOf.B1 s_ t2_ b_b_ b_l_ b_c_ i_ t13_ w N1 R)) h)
def kv_ansOf.L1 (s t2 : Nat) (b_b : Option Addr) (b_l b_c : Nat) (i : Int) (w : World)  (R : Int → ByteArray → World → Prop) : Prop :=
  ∃ (I : Nat → Nat → Nat → Option Addr → Nat → Nat → Int → World → Prop) (m : Nat), I m s t2 b_b b_l b_c i w ∧ ∀ m s t2 b_b b_l b_c i w, I m s t2 b_b b_l b_c i w → kv_ansOf.L1b s t2 b_b b_l b_c i w  (fun s' t2' b_b' b_l' b_c' i' w' => ∃ m', m' < m ∧ I m' s' t2' b_b' b_l' b_c' i' w') R
theorem kv_ansOf.L1_sound {R : Int → ByteArray → World → Prop}  (s t2 : Nat) (b_b : Option Addr) (b_l b_c : Nat) (i : Int) (w : World) (h : kv_ansOf.L1 s t2 b_b b_l b_c i w  R) :
    KW Try.prog 25 28 (kv_ansOf.RV R) ([(0, [1, 1, 0, 1, 0, 0]), (2, [1, 1, 0, 1, 0, 0]), (1, [0]), (0, [1, 1, 1])].map (toItem (Try.f25.body.getD .skip))) [(1, .pointer (some ⟨s, 0, none⟩)), (2, .pointer (some ⟨t2, 0, none⟩)), (3, .slice b_b b_l b_c), (4, .int .i64 i)] w := by
  obtain ⟨I, m, hBase, hr⟩ := h
  refine KW.loop (fun m σ w => ∃ (s t2 : Nat) (b_b : Option Addr) (b_l b_c : Nat) (i : Int), σ = [(1, .pointer (some ⟨s, 0, none⟩)), (2, .pointer (some ⟨t2, 0, none⟩)), (3, .slice b_b b_l b_c), (4, .int .i64 i)] ∧ I m s t2 b_b b_l b_c i w) ?_ m _ w ⟨s, t2, b_b, b_l, b_c, i, rfl, hBase⟩
  rintro m ih σ w ⟨s, t2, b_b, b_l, b_c, i, rfl, hI⟩
  exact kv_ansOf.L1b_sound  (N1 := fun s' t2' b_b' b_l' b_c' i' w' => ∃ m', m' < m ∧ I m' s' t2' b_b' b_l' b_c' i' w') (fun s' t2' b_b' b_l' b_c' i' w' hx => by obtain ⟨m', hlt, hI'⟩ := hx; exact ih m' hlt _ w' ⟨s', t2', b_b', b_l', b_c', i', rfl, hI'⟩) s t2 b_b b_l b_c i w (hr m s t2 b_b b_l b_c i w hI)
def kv_ansOf.B0 (s_0 s_1 s_2 s_3 s_4 s_5 : Int) (w : World)   (R : Int → ByteArray → World → Prop) : Prop :=
  New (.cells #[.int .i64 s_0, .int .i64 s_1, .int .i64 s_2, .int .u8 s_3, .int .u8 s_4, .int .u8 s_5] 48) w fun s_ w1 =>
  New (.cells #[.int .i64 (0 : Int), .string (ByteArray.mk #[])] 54) w1 fun b2 w2 =>
  Make 5 (.int .u8 (0 : Int)) 1 1 (0 : Int) (3 : Int) w2 fun b5 w3 =>
  kv_ansOf.L1 s_ b2 (some ⟨b5, 0, none⟩) 0 3 (0 : Int) w3  R
theorem kv_ansOf.B0_eq (s_0 s_1 s_2 s_3 s_4 s_5 : Int) (w : World)   (R : Int → ByteArray → World → Prop) (sL1 : Nat → Nat → Option Addr → Nat → Nat → Int → World → Prop) :
    (
  New (.cells #[.int .i64 s_0, .int .i64 s_1, .int .i64 s_2, .int .u8 s_3, .int .u8 s_4, .int .u8 s_5] 48) w fun s_ w1 =>
  New (.cells #[.int .i64 (0 : Int), .string (ByteArray.mk #[])] 54) w1 fun b2 w2 =>
  Make 5 (.int .u8 (0 : Int)) 1 1 (0 : Int) (3 : Int) w2 fun b5 w3 =>
  sL1 s_ b2 (some ⟨b5, 0, none⟩) 0 3 (0 : Int) w3) = kstep Try.prog 28 Try.f25.results.toList (Try.f25.body.getD .skip) (kv_ansOf.RV R) (kvc Try.prog 28 Try.f25.results.toList (Try.f25.body.getD .skip) (kv_ansOf.RV R) [([(0, [1, 1, 0, 1, 0, 0]), (2, [1, 1, 0, 1, 0, 0]), (1, [0]), (0, [1, 1, 1])], fun σ w => dK (slotOf σ 1) fun s_ => dK (slotOf σ 2) fun t2_ => dL (slotOf σ 3) fun b_b_ b_l_ b_c_ => dI .i64 (slotOf σ 4) fun i_ => sL1 s_ t2_ b_b_ b_l_ b_c_ i_ w)] 2000) [(0, [])] [(0, .agg #[.int .i64 s_0, .int .i64 s_1, .int .i64 s_2, .int .u8 s_3, .int .u8 s_4, .int .u8 s_5])] w := by kernel_rfl
theorem kv_ansOf.B0_sound {R : Int → ByteArray → World → Prop}  (s_0 s_1 s_2 s_3 s_4 s_5 : Int) (w : World) (h : kv_ansOf.B0 s_0 s_1 s_2 s_3 s_4 s_5 w   R) :
    KW Try.prog 25 28 (kv_ansOf.RV R) ([(0, [])].map (toItem (Try.f25.body.getD .skip))) [(0, .agg #[.int .i64 s_0, .int .i64 s_1, .int .i64 s_2, .int .u8 s_3, .int .u8 s_4, .int .u8 s_5])] w := by
  exact block_spec Try.func25 Try.mixed (stops_cons (fun σ w h => by
      obtain ⟨s_, e0, h⟩ := dK_elim h
      obtain ⟨t2_, e1, h⟩ := dK_elim h
      obtain ⟨b_b_, b_l_, b_c_, e2, h⟩ := dL_elim h
      obtain ⟨i_, e3, h⟩ := dI_elim h
      exact (kv_ansOf.L1_sound  s_ t2_ b_b_ b_l_ b_c_ i_ w h).weaken (Sub.cons (Sub.cons (Sub.cons (Sub.cons (Sub.nil _) e3) e2) e1) e0)) stops_nil) (Eq.mp (kv_ansOf.B0_eq s_0 s_1 s_2 s_3 s_4 s_5 w   R (fun s_ t2_ b_b_ b_l_ b_c_ i_ w => kv_ansOf.L1 s_ t2_ b_b_ b_l_ b_c_ i_ w  R)) h)
theorem kv_ansOf.sound (s_0 s_1 s_2 s_3 s_4 s_5 : Int) (w : World) (R : Int → ByteArray → World → Prop) (h : kv_ansOf.B0 s_0 s_1 s_2 s_3 s_4 s_5 w R) : kv_ansOf.Call s_0 s_1 s_2 s_3 s_4 s_5 w R := by
  have hc := calls_of_block (args := #[.agg #[.int .i64 s_0, .int .i64 s_1, .int .i64 s_2, .int .u8 s_3, .int .u8 s_4, .int .u8 s_5]]) Try.func25 (body := (Try.f25.body.getD .skip)) (by kernel_rfl) (by kernel_rfl) (args_slot _) (kv_ansOf.B0_sound s_0 s_1 s_2 s_3 s_4 s_5 w h)
  exact hc.mono fun e w' he => by
    obtain ⟨v, rfl, hv⟩ := he
    exact kv_ansOf.RV_elim hv
def api_PutU64.B0 (b_b : Option Addr) (b_l b_c : Nat) (v : Int) (w : World)   (R : Option Addr → Nat → Nat → World → Prop) : Prop :=
  0 ≤ (56 : Int) ∧
  0 ≤ (48 : Int) ∧
  0 ≤ (40 : Int) ∧
  0 ≤ (32 : Int) ∧
  0 ≤ (24 : Int) ∧
  0 ≤ (16 : Int) ∧
  0 ≤ (8 : Int) ∧
  New (.cells #[.int .u8 (IntKind.u8.wrap ((IntKind.u64.wrap v).fdiv (2 ^ (min (56 : Int).toNat IntKind.u64.bits)))), .int .u8 (IntKind.u8.wrap ((IntKind.u64.wrap v).fdiv (2 ^ (min (48 : Int).toNat IntKind.u64.bits)))), .int .u8 (IntKind.u8.wrap ((IntKind.u64.wrap v).fdiv (2 ^ (min (40 : Int).toNat IntKind.u64.bits)))), .int .u8 (IntKind.u8.wrap ((IntKind.u64.wrap v).fdiv (2 ^ (min (32 : Int).toNat IntKind.u64.bits)))), .int .u8 (IntKind.u8.wrap ((IntKind.u64.wrap v).fdiv (2 ^ (min (24 : Int).toNat IntKind.u64.bits)))), .int .u8 (IntKind.u8.wrap ((IntKind.u64.wrap v).fdiv (2 ^ (min (16 : Int).toNat IntKind.u64.bits)))), .int .u8 (IntKind.u8.wrap ((IntKind.u64.wrap v).fdiv (2 ^ (min (8 : Int).toNat IntKind.u64.bits)))), .int .u8 (IntKind.u8.wrap (IntKind.u64.wrap v))] 5) w fun b32 w1 =>
  Append 5 (.int .u8 (0 : Int)) 1 1 b_b b_l b_c (some ⟨b32, 0, none⟩) 8 w1 fun b33 c33 w2 =>
  R b33 (b_l + 8) c33 w2
theorem api_PutU64.B0_eq (b_b : Option Addr) (b_l b_c : Nat) (v : Int) (w : World)   (R : Option Addr → Nat → Nat → World → Prop)  :
    (
  0 ≤ (56 : Int) ∧
  0 ≤ (48 : Int) ∧
  0 ≤ (40 : Int) ∧
  0 ≤ (32 : Int) ∧
  0 ≤ (24 : Int) ∧
  0 ≤ (16 : Int) ∧
  0 ≤ (8 : Int) ∧
  New (.cells #[.int .u8 (IntKind.u8.wrap ((IntKind.u64.wrap v).fdiv (2 ^ (min (56 : Int).toNat IntKind.u64.bits)))), .int .u8 (IntKind.u8.wrap ((IntKind.u64.wrap v).fdiv (2 ^ (min (48 : Int).toNat IntKind.u64.bits)))), .int .u8 (IntKind.u8.wrap ((IntKind.u64.wrap v).fdiv (2 ^ (min (40 : Int).toNat IntKind.u64.bits)))), .int .u8 (IntKind.u8.wrap ((IntKind.u64.wrap v).fdiv (2 ^ (min (32 : Int).toNat IntKind.u64.bits)))), .int .u8 (IntKind.u8.wrap ((IntKind.u64.wrap v).fdiv (2 ^ (min (24 : Int).toNat IntKind.u64.bits)))), .int .u8 (IntKind.u8.wrap ((IntKind.u64.wrap v).fdiv (2 ^ (min (16 : Int).toNat IntKind.u64.bits)))), .int .u8 (IntKind.u8.wrap ((IntKind.u64.wrap v).fdiv (2 ^ (min (8 : Int).toNat IntKind.u64.bits)))), .int .u8 (IntKind.u8.wrap (IntKind.u64.wrap v))] 5) w fun b32 w1 =>
  Append 5 (.int .u8 (0 : Int)) 1 1 b_b b_l b_c (some ⟨b32, 0, none⟩) 8 w1 fun b33 c33 w2 =>
  R b33 (b_l + 8) c33 w2) = kstep Try.prog 34 Try.f26.results.toList (Try.f26.body.getD .skip) (api_PutU64.RV R) (kvc Try.prog 34 Try.f26.results.toList (Try.f26.body.getD .skip) (api_PutU64.RV R) [] 2000) [(0, [])] [(0, .slice b_b b_l b_c), (1, .int .i64 v)] w := by kernel_rfl
theorem api_PutU64.B0_sound {R : Option Addr → Nat → Nat → World → Prop}  (b_b : Option Addr) (b_l b_c : Nat) (v : Int) (w : World) (h : api_PutU64.B0 b_b b_l b_c v w   R) :
    KW Try.prog 26 34 (api_PutU64.RV R) ([(0, [])].map (toItem (Try.f26.body.getD .skip))) [(0, .slice b_b b_l b_c), (1, .int .i64 v)] w := by
  exact block_spec Try.func26 Try.mixed stops_nil (Eq.mp (api_PutU64.B0_eq b_b b_l b_c v w   R ) h)
theorem api_PutU64.sound (b_b : Option Addr) (b_l b_c : Nat) (v : Int) (w : World) (R : Option Addr → Nat → Nat → World → Prop) (h : api_PutU64.B0 b_b b_l b_c v w R) : api_PutU64.Call b_b b_l b_c v w R := by
  have hc := calls_of_block (args := #[.slice b_b b_l b_c, .int .i64 v]) Try.func26 (body := (Try.f26.body.getD .skip)) (by kernel_rfl) (by kernel_rfl) (args_slot _) (api_PutU64.B0_sound b_b b_l b_c v w h)
  exact hc.mono fun e w' he => by
    obtain ⟨v, rfl, hv⟩ := he
    exact api_PutU64.RV_elim hv
def kv_KV_Sess.B1 (k : Option Addr) (client : Int) (t5 : Nat) (t12 : Bool) (w : World)   (R : Int → Int → ByteArray → World → Prop) : Prop :=
  Bm t12 (
    Sts [.int .i64 (0 : Int), .string (ByteArray.mk #[])] ⟨t5, 0, none⟩ 0 w fun w1 =>
    LdI .i64 ⟨t5, 0, none⟩ w1 fun r_0 =>
    LdS ⟨t5, 1, none⟩ w1 fun r_1 =>
    R (0 : Int) r_0 r_1 w1) (
    Pn k fun a =>
    (0 ≤ client ∧ client < ((3 : Nat) : Int)) ∧
    LdI .i64 (Addr.add (a.add 66) (client.toNat * 6)) w fun x19_0 =>
    LdI .i64 ((Addr.add (a.add 66) (client.toNat * 6)).add 1) w fun x19_1 =>
    LdI .i64 ((Addr.add (a.add 66) (client.toNat * 6)).add 2) w fun x19_2 =>
    LdI .u8 ((Addr.add (a.add 66) (client.toNat * 6)).add 3) w fun x19_3 =>
    LdI .u8 ((Addr.add (a.add 66) (client.toNat * 6)).add 4) w fun x19_4 =>
    LdI .u8 ((Addr.add (a.add 66) (client.toNat * 6)).add 5) w fun x19_5 =>
    New (.cells #[.int .i64 (0 : Int), .int .i64 (0 : Int), .int .i64 (0 : Int), .int .u8 (0 : Int), .int .u8 (0 : Int), .int .u8 (0 : Int)] 48) w fun s_ w2 =>
    Sts [.int .i64 x19_0, .int .i64 x19_1, .int .i64 x19_2, .int .u8 x19_3, .int .u8 x19_4, .int .u8 x19_5] ⟨s_, 0, none⟩ 0 w2 fun w3 =>
    LdI .i64 ⟨s_, 0, none⟩ w3.drew fun x21 =>
    LdI .i64 ⟨s_, 0, none⟩ w3.drew fun x22_0 =>
    LdI .i64 ⟨s_, 1, none⟩ w3.drew fun x22_1 =>
    LdI .i64 ⟨s_, 2, none⟩ w3.drew fun x22_2 =>
    LdI .u8 ⟨s_, 3, none⟩ w3.drew fun x22_3 =>
    LdI .u8 ⟨s_, 4, none⟩ w3.drew fun x22_4 =>
    LdI .u8 ⟨s_, 5, none⟩ w3.drew fun x22_5 =>
    kv_ansOf.Call x22_0 x22_1 x22_2 x22_3 x22_4 x22_5 w3.drew fun r23_0 r23_1 w4 =>
    w4.cell? ⟨s_, 0, none⟩ = some (.int .i64 x21) ∧
    Sts [.int .i64 r23_0, .string r23_1] ⟨t5, 0, none⟩ 0 w4 fun w5 =>
    LdI .i64 ⟨t5, 0, none⟩ w5 fun r_0_1 =>
    LdS ⟨t5, 1, none⟩ w5 fun r_1_1 =>
    R x21 r_0_1 r_1_1 w5)
theorem kv_KV_Sess.B1_eq (k : Option Addr) (client : Int) (t5 : Nat) (t12 : Bool) (w : World)   (R : Int → Int → ByteArray → World → Prop)  :
    (
  Bm t12 (
    Sts [.int .i64 (0 : Int), .string (ByteArray.mk #[])] ⟨t5, 0, none⟩ 0 w fun w1 =>
    LdI .i64 ⟨t5, 0, none⟩ w1 fun r_0 =>
    LdS ⟨t5, 1, none⟩ w1 fun r_1 =>
    R (0 : Int) r_0 r_1 w1) (
    Pn k fun a =>
    (0 ≤ client ∧ client < ((3 : Nat) : Int)) ∧
    LdI .i64 (Addr.add (a.add 66) (client.toNat * 6)) w fun x19_0 =>
    LdI .i64 ((Addr.add (a.add 66) (client.toNat * 6)).add 1) w fun x19_1 =>
    LdI .i64 ((Addr.add (a.add 66) (client.toNat * 6)).add 2) w fun x19_2 =>
    LdI .u8 ((Addr.add (a.add 66) (client.toNat * 6)).add 3) w fun x19_3 =>
    LdI .u8 ((Addr.add (a.add 66) (client.toNat * 6)).add 4) w fun x19_4 =>
    LdI .u8 ((Addr.add (a.add 66) (client.toNat * 6)).add 5) w fun x19_5 =>
    New (.cells #[.int .i64 (0 : Int), .int .i64 (0 : Int), .int .i64 (0 : Int), .int .u8 (0 : Int), .int .u8 (0 : Int), .int .u8 (0 : Int)] 48) w fun s_ w2 =>
    Sts [.int .i64 x19_0, .int .i64 x19_1, .int .i64 x19_2, .int .u8 x19_3, .int .u8 x19_4, .int .u8 x19_5] ⟨s_, 0, none⟩ 0 w2 fun w3 =>
    LdI .i64 ⟨s_, 0, none⟩ w3.drew fun x21 =>
    LdI .i64 ⟨s_, 0, none⟩ w3.drew fun x22_0 =>
    LdI .i64 ⟨s_, 1, none⟩ w3.drew fun x22_1 =>
    LdI .i64 ⟨s_, 2, none⟩ w3.drew fun x22_2 =>
    LdI .u8 ⟨s_, 3, none⟩ w3.drew fun x22_3 =>
    LdI .u8 ⟨s_, 4, none⟩ w3.drew fun x22_4 =>
    LdI .u8 ⟨s_, 5, none⟩ w3.drew fun x22_5 =>
    kv_ansOf.Call x22_0 x22_1 x22_2 x22_3 x22_4 x22_5 w3.drew fun r23_0 r23_1 w4 =>
    w4.cell? ⟨s_, 0, none⟩ = some (.int .i64 x21) ∧
    Sts [.int .i64 r23_0, .string r23_1] ⟨t5, 0, none⟩ 0 w4 fun w5 =>
    LdI .i64 ⟨t5, 0, none⟩ w5 fun r_0_1 =>
    LdS ⟨t5, 1, none⟩ w5 fun r_1_1 =>
    R x21 r_0_1 r_1_1 w5)) = kstep Try.prog 24 Try.f27.results.toList (Try.f27.body.getD .skip) (kv_KV_Sess.RV R) (kvc Try.prog 24 Try.f27.results.toList (Try.f27.body.getD .skip) (kv_KV_Sess.RV R) [] 2000) [(0, [1, 0, 1]), (0, [1, 1])] [(0, .pointer k), (1, .int .i64 client), (5, .pointer (some ⟨t5, 0, none⟩)), (12, .bool t12)] w := by kernel_rfl
theorem kv_KV_Sess.B1_sound {R : Int → Int → ByteArray → World → Prop}  (k : Option Addr) (client : Int) (t5 : Nat) (t12 : Bool) (w : World) (h : kv_KV_Sess.B1 k client t5 t12 w   R) :
    KW Try.prog 27 24 (kv_KV_Sess.RV R) ([(0, [1, 0, 1]), (0, [1, 1])].map (toItem (Try.f27.body.getD .skip))) [(0, .pointer k), (1, .int .i64 client), (5, .pointer (some ⟨t5, 0, none⟩)), (12, .bool t12)] w := by
  exact block_spec Try.func27 Try.mixed stops_nil (Eq.mp (kv_KV_Sess.B1_eq k client t5 t12 w   R ) h)
def kv_KV_Sess.B0 (k : Option Addr) (client : Int) (w : World)   (R : Int → Int → ByteArray → World → Prop) : Prop :=
  New (.cells #[.int .i64 (0 : Int), .string (ByteArray.mk #[])] 54) w fun b5 w1 =>
  Bm (decide (client < (0 : Int))) (
    kv_KV_Sess.B1 k client b5 true w1  R) (
    kv_KV_Sess.B1 k client b5 (decide (client ≥ (3 : Int))) w1  R)
theorem kv_KV_Sess.B0_eq (k : Option Addr) (client : Int) (w : World)   (R : Int → Int → ByteArray → World → Prop) (sB1 : Option Addr → Int → Nat → Bool → World → Prop) :
    (
  New (.cells #[.int .i64 (0 : Int), .string (ByteArray.mk #[])] 54) w fun b5 w1 =>
  Bm (decide (client < (0 : Int))) (
    sB1 k client b5 true w1) (
    sB1 k client b5 (decide (client ≥ (3 : Int))) w1)) = kstep Try.prog 24 Try.f27.results.toList (Try.f27.body.getD .skip) (kv_KV_Sess.RV R) (kvc Try.prog 24 Try.f27.results.toList (Try.f27.body.getD .skip) (kv_KV_Sess.RV R) [([(0, [1, 0, 1]), (0, [1, 1])], fun σ w => dP (slotOf σ 0) fun k_ => dI .i64 (slotOf σ 1) fun client_ => dK (slotOf σ 5) fun t5_ => dB (slotOf σ 12) fun t12_ => sB1 k_ client_ t5_ t12_ w)] 2000) [(0, [])] [(0, .pointer k), (1, .int .i64 client)] w := by kernel_rfl
theorem kv_KV_Sess.B0_sound {R : Int → Int → ByteArray → World → Prop}  (k : Option Addr) (client : Int) (w : World) (h : kv_KV_Sess.B0 k client w   R) :
    KW Try.prog 27 24 (kv_KV_Sess.RV R) ([(0, [])].map (toItem (Try.f27.body.getD .skip))) [(0, .pointer k), (1, .int .i64 client)] w := by
  exact block_spec Try.func27 Try.mixed (stops_cons (fun σ w h => by
      obtain ⟨k_, e0, h⟩ := dP_elim h
      obtain ⟨client_, e1, h⟩ := dI_elim h
      obtain ⟨t5_, e2, h⟩ := dK_elim h
      obtain ⟨t12_, e3, h⟩ := dB_elim h
      exact (kv_KV_Sess.B1_sound  k_ client_ t5_ t12_ w h).weaken (Sub.cons (Sub.cons (Sub.cons (Sub.cons (Sub.nil _) e3) e2) e1) e0)) stops_nil) (Eq.mp (kv_KV_Sess.B0_eq k client w   R (fun k_ client_ t5_ t12_ w => kv_KV_Sess.B1 k_ client_ t5_ t12_ w  R)) h)
theorem kv_KV_Sess.sound (k : Option Addr) (client : Int) (w : World) (R : Int → Int → ByteArray → World → Prop) (h : kv_KV_Sess.B0 k client w R) : kv_KV_Sess.Call k client w R := by
  have hc := calls_of_block (args := #[.pointer k, .int .i64 client]) Try.func27 (body := (Try.f27.body.getD .skip)) (by kernel_rfl) (by kernel_rfl) (args_slot _) (kv_KV_Sess.B0_sound k client w h)
  exact hc.mono fun e w' he => by
    obtain ⟨v, rfl, hv⟩ := he
    exact kv_KV_Sess.RV_elim hv
def kvm_str.L1b (b_b : Option Addr) (b_l b_c : Nat) (s : ByteArray) (i : Int) (w : World)  (N1 : Option Addr → Nat → Nat → ByteArray → Int → World → Prop) (R : Option Addr → Nat → Nat → World → Prop) : Prop :=
  Bm (decide (i < ((s.size : Nat) : Int))) (
    (0 ≤ i ∧ i < ((s.size : Nat) : Int)) ∧
    New (.cells #[.int .u8 (byteAt s i)] 5) w fun b22 w1 =>
    Append 5 (.int .u8 (0 : Int)) 1 1 b_b b_l b_c (some ⟨b22, 0, none⟩) 1 w1 fun b23 c23 w2 =>
    N1 b23 (b_l + 1) c23 s (IntKind.i64.wrap (i + (1 : Int))) w2) (
    R b_b b_l b_c w)
theorem kvm_str.L1b_eq (b_b : Option Addr) (b_l b_c : Nat) (s : ByteArray) (i : Int) (w : World)  (N1 : Option Addr → Nat → Nat → ByteArray → Int → World → Prop) (R : Option Addr → Nat → Nat → World → Prop)  :
    (
  Bm (decide (i < ((s.size : Nat) : Int))) (
    (0 ≤ i ∧ i < ((s.size : Nat) : Int)) ∧
    New (.cells #[.int .u8 (byteAt s i)] 5) w fun b22 w1 =>
    Append 5 (.int .u8 (0 : Int)) 1 1 b_b b_l b_c (some ⟨b22, 0, none⟩) 1 w1 fun b23 c23 w2 =>
    N1 b23 (b_l + 1) c23 s (IntKind.i64.wrap (i + (1 : Int))) w2) (
    R b_b b_l b_c w)) = kstep Try.prog 25 Try.f28.results.toList (Try.f28.body.getD .skip) (kvm_str.RV R) (kvc Try.prog 25 Try.f28.results.toList (Try.f28.body.getD .skip) (kvm_str.RV R) [([(0, [1, 1, 0, 1, 0, 0]), (2, [1, 1, 0, 1, 0, 0]), (1, [0]), (0, [1, 1, 1])], fun σ w => dL (slotOf σ 0) fun b_b_ b_l_ b_c_ => dS (slotOf σ 1) fun s_ => dI .i64 (slotOf σ 5) fun i_ => N1 b_b_ b_l_ b_c_ s_ i_ w)] 2000) [(0, [1, 1, 0, 1, 0, 0]), (2, [1, 1, 0, 1, 0, 0]), (1, [0]), (0, [1, 1, 1])] [(0, .slice b_b b_l b_c), (1, .string s), (5, .int .i64 i)] w := by kernel_rfl
theorem kvm_str.L1b_sound {R : Option Addr → Nat → Nat → World → Prop} {N1 : Option Addr → Nat → Nat → ByteArray → Int → World → Prop} (hN1 : ∀ b_b b_l b_c s i w, N1 b_b b_l b_c s i w → KW Try.prog 28 25 (kvm_str.RV R) ([(0, [1, 1, 0, 1, 0, 0]), (2, [1, 1, 0, 1, 0, 0]), (1, [0]), (0, [1, 1, 1])].map (toItem (Try.f28.body.getD .skip))) [(0, .slice b_b b_l b_c), (1, .string s), (5, .int .i64 i)] w) (b_b : Option Addr) (b_l b_c : Nat) (s : ByteArray) (i : Int) (w : World) (h : kvm_str.L1b b_b b_l b_c s i w  N1 R) :
    KW Try.prog 28 25 (kvm_str.RV R) ([(0, [1, 1, 0, 1, 0, 0]), (2, [1, 1, 0, 1, 0, 0]), (1, [0]), (0, [1, 1, 1])].map (toItem (Try.f28.body.getD .skip))) [(0, .slice b_b b_l b_c), (1, .string s), (5, .int .i64 i)] w := by
  exact block_spec Try.func28 Try.mixed (stops_cons (fun σ w h => by
      obtain ⟨b_b_, b_l_, b_c_, e0, h⟩ := dL_elim h
      obtain ⟨s_, e1, h⟩ := dS_elim h
      obtain ⟨i_, e2, h⟩ := dI_elim h
      exact (hN1 b_b_ b_l_ b_c_ s_ i_ w h).weaken (Sub.cons (Sub.cons (Sub.cons (Sub.nil _) e2) e1) e0)) stops_nil) (Eq.mp (kvm_str.L1b_eq b_b b_l b_c s i w  N1 R ) h)
def kvm_str.L1 (b_b : Option Addr) (b_l b_c : Nat) (s : ByteArray) (i : Int) (w : World)  (R : Option Addr → Nat → Nat → World → Prop) : Prop :=
  ∃ (I : Nat → Option Addr → Nat → Nat → ByteArray → Int → World → Prop) (m : Nat), I m b_b b_l b_c s i w ∧ ∀ m b_b b_l b_c s i w, I m b_b b_l b_c s i w → kvm_str.L1b b_b b_l b_c s i w  (fun b_b' b_l' b_c' s' i' w' => ∃ m', m' < m ∧ I m' b_b' b_l' b_c' s' i' w') R
theorem kvm_str.L1_sound {R : Option Addr → Nat → Nat → World → Prop}  (b_b : Option Addr) (b_l b_c : Nat) (s : ByteArray) (i : Int) (w : World) (h : kvm_str.L1 b_b b_l b_c s i w  R) :
    KW Try.prog 28 25 (kvm_str.RV R) ([(0, [1, 1, 0, 1, 0, 0]), (2, [1, 1, 0, 1, 0, 0]), (1, [0]), (0, [1, 1, 1])].map (toItem (Try.f28.body.getD .skip))) [(0, .slice b_b b_l b_c), (1, .string s), (5, .int .i64 i)] w := by
  obtain ⟨I, m, hBase, hr⟩ := h
  refine KW.loop (fun m σ w => ∃ (b_b : Option Addr) (b_l b_c : Nat) (s : ByteArray) (i : Int), σ = [(0, .slice b_b b_l b_c), (1, .string s), (5, .int .i64 i)] ∧ I m b_b b_l b_c s i w) ?_ m _ w ⟨b_b, b_l, b_c, s, i, rfl, hBase⟩
  rintro m ih σ w ⟨b_b, b_l, b_c, s, i, rfl, hI⟩
  exact kvm_str.L1b_sound  (N1 := fun b_b' b_l' b_c' s' i' w' => ∃ m', m' < m ∧ I m' b_b' b_l' b_c' s' i' w') (fun b_b' b_l' b_c' s' i' w' hx => by obtain ⟨m', hlt, hI'⟩ := hx; exact ih m' hlt _ w' ⟨b_b', b_l', b_c', s', i', rfl, hI'⟩) b_b b_l b_c s i w (hr m b_b b_l b_c s i w hI)
def kvm_str.B0 (b_b : Option Addr) (b_l b_c : Nat) (s : ByteArray) (w : World)   (R : Option Addr → Nat → Nat → World → Prop) : Prop :=
  New (.cells #[.int .u8 (IntKind.u8.wrap ((s.size : Nat) : Int))] 5) w fun b10 w1 =>
  Append 5 (.int .u8 (0 : Int)) 1 1 b_b b_l b_c (some ⟨b10, 0, none⟩) 1 w1 fun b11 c11 w2 =>
  kvm_str.L1 b11 (b_l + 1) c11 s (0 : Int) w2  R
theorem kvm_str.B0_eq (b_b : Option Addr) (b_l b_c : Nat) (s : ByteArray) (w : World)   (R : Option Addr → Nat → Nat → World → Prop) (sL1 : Option Addr → Nat → Nat → ByteArray → Int → World → Prop) :
    (
  New (.cells #[.int .u8 (IntKind.u8.wrap ((s.size : Nat) : Int))] 5) w fun b10 w1 =>
  Append 5 (.int .u8 (0 : Int)) 1 1 b_b b_l b_c (some ⟨b10, 0, none⟩) 1 w1 fun b11 c11 w2 =>
  sL1 b11 (b_l + 1) c11 s (0 : Int) w2) = kstep Try.prog 25 Try.f28.results.toList (Try.f28.body.getD .skip) (kvm_str.RV R) (kvc Try.prog 25 Try.f28.results.toList (Try.f28.body.getD .skip) (kvm_str.RV R) [([(0, [1, 1, 0, 1, 0, 0]), (2, [1, 1, 0, 1, 0, 0]), (1, [0]), (0, [1, 1, 1])], fun σ w => dL (slotOf σ 0) fun b_b_ b_l_ b_c_ => dS (slotOf σ 1) fun s_ => dI .i64 (slotOf σ 5) fun i_ => sL1 b_b_ b_l_ b_c_ s_ i_ w)] 2000) [(0, [])] [(0, .slice b_b b_l b_c), (1, .string s)] w := by kernel_rfl
theorem kvm_str.B0_sound {R : Option Addr → Nat → Nat → World → Prop}  (b_b : Option Addr) (b_l b_c : Nat) (s : ByteArray) (w : World) (h : kvm_str.B0 b_b b_l b_c s w   R) :
    KW Try.prog 28 25 (kvm_str.RV R) ([(0, [])].map (toItem (Try.f28.body.getD .skip))) [(0, .slice b_b b_l b_c), (1, .string s)] w := by
  exact block_spec Try.func28 Try.mixed (stops_cons (fun σ w h => by
      obtain ⟨b_b_, b_l_, b_c_, e0, h⟩ := dL_elim h
      obtain ⟨s_, e1, h⟩ := dS_elim h
      obtain ⟨i_, e2, h⟩ := dI_elim h
      exact (kvm_str.L1_sound  b_b_ b_l_ b_c_ s_ i_ w h).weaken (Sub.cons (Sub.cons (Sub.cons (Sub.nil _) e2) e1) e0)) stops_nil) (Eq.mp (kvm_str.B0_eq b_b b_l b_c s w   R (fun b_b_ b_l_ b_c_ s_ i_ w => kvm_str.L1 b_b_ b_l_ b_c_ s_ i_ w  R)) h)
theorem kvm_str.sound (b_b : Option Addr) (b_l b_c : Nat) (s : ByteArray) (w : World) (R : Option Addr → Nat → Nat → World → Prop) (h : kvm_str.B0 b_b b_l b_c s w R) : kvm_str.Call b_b b_l b_c s w R := by
  have hc := calls_of_block (args := #[.slice b_b b_l b_c, .string s]) Try.func28 (body := (Try.f28.body.getD .skip)) (by kernel_rfl) (by kernel_rfl) (args_slot _) (kvm_str.B0_sound b_b b_l b_c s w h)
  exact hc.mono fun e w' he => by
    obtain ⟨v, rfl, hv⟩ := he
    exact kvm_str.RV_elim hv
def kv_KV_Restore.B1 (k : Option Addr) (s : ByteArray) (r t ss : Nat) (n i : Int) (key val : ByteArray) (t43 : Bool) (w : World) (N1 : Option Addr → ByteArray → Nat → Nat → Nat → Int → ByteArray → Int → World → Prop)  (R : Int → World → Prop) : Prop :=
  Bm t43 (
    R (15 : Int) w) (
    kv_table_add.Call (some ⟨t, 0, none⟩) key val w fun w1 =>
    N1 k s r t ss n key (IntKind.i64.wrap (i + (1 : Int))) w1)
theorem kv_KV_Restore.B1_eq (k : Option Addr) (s : ByteArray) (r t ss : Nat) (n i : Int) (key val : ByteArray) (t43 : Bool) (w : World) (N1 : Option Addr → ByteArray → Nat → Nat → Nat → Int → ByteArray → Int → World → Prop)  (R : Int → World → Prop)  :
    (
  Bm t43 (
    R (15 : Int) w) (
    kv_table_add.Call (some ⟨t, 0, none⟩) key val w fun w1 =>
    N1 k s r t ss n key (IntKind.i64.wrap (i + (1 : Int))) w1)) = kstep Try.prog 118 Try.f29.results.toList (Try.f29.body.getD .skip) (kv_KV_Restore.RV R) (kvc Try.prog 118 Try.f29.results.toList (Try.f29.body.getD .skip) (kv_KV_Restore.RV R) [([(0, [1, 1, 1, 1, 1, 1, 1, 0, 1, 0, 0]), (2, [1, 1, 1, 1, 1, 1, 1, 0, 1, 0, 0]), (1, [0]), (0, [1, 1, 1, 1, 1, 1, 1, 1])], fun σ w => dP (slotOf σ 0) fun k_ => dS (slotOf σ 1) fun s_ => dK (slotOf σ 5) fun r_ => dK (slotOf σ 6) fun t_ => dK (slotOf σ 7) fun ss_ => dI .i64 (slotOf σ 8) fun n_ => dS (slotOf σ 9) fun before_ => dI .i64 (slotOf σ 10) fun i_ => N1 k_ s_ r_ t_ ss_ n_ before_ i_ w)] 2000) [(0, [1, 1, 1, 1, 1, 1, 1, 0, 1, 0, 0, 1, 0, 0, 1, 1, 0, 1]), (0, [1, 1, 1, 1, 1, 1, 1, 0, 1, 0, 0, 1, 0, 0, 1, 1, 1]), (1, [1]), (0, [1, 1, 1, 1, 1, 1, 1, 0, 1, 0, 0, 1, 1]), (2, [1, 1, 1, 1, 1, 1, 1, 0, 1, 0, 0]), (1, [0]), (0, [1, 1, 1, 1, 1, 1, 1, 1])] [(0, .pointer k), (1, .string s), (5, .pointer (some ⟨r, 0, none⟩)), (6, .pointer (some ⟨t, 0, none⟩)), (7, .pointer (some ⟨ss, 0, none⟩)), (8, .int .i64 n), (10, .int .i64 i), (11, .string key), (12, .string val), (43, .bool t43)] w := by kernel_rfl
theorem kv_KV_Restore.B1_sound {R : Int → World → Prop} {N1 : Option Addr → ByteArray → Nat → Nat → Nat → Int → ByteArray → Int → World → Prop} (hN1 : ∀ k s r t ss n before i w, N1 k s r t ss n before i w → KW Try.prog 29 118 (kv_KV_Restore.RV R) ([(0, [1, 1, 1, 1, 1, 1, 1, 0, 1, 0, 0]), (2, [1, 1, 1, 1, 1, 1, 1, 0, 1, 0, 0]), (1, [0]), (0, [1, 1, 1, 1, 1, 1, 1, 1])].map (toItem (Try.f29.body.getD .skip))) [(0, .pointer k), (1, .string s), (5, .pointer (some ⟨r, 0, none⟩)), (6, .pointer (some ⟨t, 0, none⟩)), (7, .pointer (some ⟨ss, 0, none⟩)), (8, .int .i64 n), (9, .string before), (10, .int .i64 i)] w) (k : Option Addr) (s : ByteArray) (r t ss : Nat) (n i : Int) (key val : ByteArray) (t43 : Bool) (w : World) (h : kv_KV_Restore.B1 k s r t ss n i key val t43 w N1  R) :
    KW Try.prog 29 118 (kv_KV_Restore.RV R) ([(0, [1, 1, 1, 1, 1, 1, 1, 0, 1, 0, 0, 1, 0, 0, 1, 1, 0, 1]), (0, [1, 1, 1, 1, 1, 1, 1, 0, 1, 0, 0, 1, 0, 0, 1, 1, 1]), (1, [1]), (0, [1, 1, 1, 1, 1, 1, 1, 0, 1, 0, 0, 1, 1]), (2, [1, 1, 1, 1, 1, 1, 1, 0, 1, 0, 0]), (1, [0]), (0, [1, 1, 1, 1, 1, 1, 1, 1])].map (toItem (Try.f29.body.getD .skip))) [(0, .pointer k), (1, .string s), (5, .pointer (some ⟨r, 0, none⟩)), (6, .pointer (some ⟨t, 0, none⟩)), (7, .pointer (some ⟨ss, 0, none⟩)), (8, .int .i64 n), (10, .int .i64 i), (11, .string key), (12, .string val), (43, .bool t43)] w := by
  exact block_spec Try.func29 Try.mixed (stops_cons (fun σ w h => by
      obtain ⟨k_, e0, h⟩ := dP_elim h
      obtain ⟨s_, e1, h⟩ := dS_elim h
      obtain ⟨r_, e2, h⟩ := dK_elim h
      obtain ⟨t_, e3, h⟩ := dK_elim h
      obtain ⟨ss_, e4, h⟩ := dK_elim h
      obtain ⟨n_, e5, h⟩ := dI_elim h
      obtain ⟨before_, e6, h⟩ := dS_elim h
      obtain ⟨i_, e7, h⟩ := dI_elim h
      exact (hN1 k_ s_ r_ t_ ss_ n_ before_ i_ w h).weaken (Sub.cons (Sub.cons (Sub.cons (Sub.cons (Sub.cons (Sub.cons (Sub.cons (Sub.cons (Sub.nil _) e7) e6) e5) e4) e3) e2) e1) e0)) stops_nil) (Eq.mp (kv_KV_Restore.B1_eq k s r t ss n i key val t43 w N1  R ) h)
def kv_KV_Restore.B2 (k : Option Addr) (s : ByteArray) (r t ss : Nat) (c seq e : Int) (val : ByteArray) (t65 : Bool) (w : World) (N2 : Option Addr → ByteArray → Nat → Nat → Nat → Int → World → Prop)  (R : Int → World → Prop) : Prop :=
  Bm t65 (
    R (15 : Int) w) (
    kv_mkSession.Call seq e val w fun r71_0 r71_1 r71_2 r71_3 r71_4 r71_5 w1 =>
    (0 ≤ c ∧ c < ((3 : Nat) : Int)) ∧
    Sts [.int .i64 r71_0, .int .i64 r71_1, .int .i64 r71_2, .int .u8 r71_3, .int .u8 r71_4, .int .u8 r71_5] (Addr.add ⟨ss, 0, none⟩ (c.toNat * 6)) 0 w1 fun w2 =>
    N2 k s r t ss (IntKind.i64.wrap (c + (1 : Int))) w2)
theorem kv_KV_Restore.B2_eq (k : Option Addr) (s : ByteArray) (r t ss : Nat) (c seq e : Int) (val : ByteArray) (t65 : Bool) (w : World) (N2 : Option Addr → ByteArray → Nat → Nat → Nat → Int → World → Prop)  (R : Int → World → Prop)  :
    (
  Bm t65 (
    R (15 : Int) w) (
    kv_mkSession.Call seq e val w fun r71_0 r71_1 r71_2 r71_3 r71_4 r71_5 w1 =>
    (0 ≤ c ∧ c < ((3 : Nat) : Int)) ∧
    Sts [.int .i64 r71_0, .int .i64 r71_1, .int .i64 r71_2, .int .u8 r71_3, .int .u8 r71_4, .int .u8 r71_5] (Addr.add ⟨ss, 0, none⟩ (c.toNat * 6)) 0 w1 fun w2 =>
    N2 k s r t ss (IntKind.i64.wrap (c + (1 : Int))) w2)) = kstep Try.prog 118 Try.f29.results.toList (Try.f29.body.getD .skip) (kv_KV_Restore.RV R) (kvc Try.prog 118 Try.f29.results.toList (Try.f29.body.getD .skip) (kv_KV_Restore.RV R) [([(0, [1, 1, 1, 1, 1, 1, 1, 1, 0, 1, 0, 0]), (2, [1, 1, 1, 1, 1, 1, 1, 1, 0, 1, 0, 0]), (1, [2]), (0, [1, 1, 1, 1, 1, 1, 1, 1, 1])], fun σ w => dP (slotOf σ 0) fun k_ => dS (slotOf σ 1) fun s_ => dK (slotOf σ 5) fun r_ => dK (slotOf σ 6) fun t_ => dK (slotOf σ 7) fun ss_ => dI .i64 (slotOf σ 13) fun c_ => N2 k_ s_ r_ t_ ss_ c_ w)] 2000) [(0, [1, 1, 1, 1, 1, 1, 1, 1, 0, 1, 0, 0, 1, 0, 0, 1, 1, 1, 0, 1]), (0, [1, 1, 1, 1, 1, 1, 1, 1, 0, 1, 0, 0, 1, 0, 0, 1, 1, 1, 1]), (1, [3]), (0, [1, 1, 1, 1, 1, 1, 1, 1, 0, 1, 0, 0, 1, 1]), (2, [1, 1, 1, 1, 1, 1, 1, 1, 0, 1, 0, 0]), (1, [2]), (0, [1, 1, 1, 1, 1, 1, 1, 1, 1])] [(0, .pointer k), (1, .string s), (5, .pointer (some ⟨r, 0, none⟩)), (6, .pointer (some ⟨t, 0, none⟩)), (7, .pointer (some ⟨ss, 0, none⟩)), (13, .int .i64 c), (14, .int .i64 seq), (15, .int .i64 e), (16, .string val), (65, .bool t65)] w := by kernel_rfl
theorem kv_KV_Restore.B2_sound {R : Int → World → Prop} {N2 : Option Addr → ByteArray → Nat → Nat → Nat → Int → World → Prop} (hN2 : ∀ k s r t ss c w, N2 k s r t ss c w → KW Try.prog 29 118 (kv_KV_Restore.RV R) ([(0, [1, 1, 1, 1, 1, 1, 1, 1, 0, 1, 0, 0]), (2, [1, 1, 1, 1, 1, 1, 1, 1, 0, 1, 0, 0]), (1, [2]), (0, [1, 1, 1, 1, 1, 1, 1, 1, 1])].map (toItem (Try.f29.body.getD .skip))) [(0, .pointer k), (1, .string s), (5, .pointer (some ⟨r, 0, none⟩)), (6, .pointer (some ⟨t, 0, none⟩)), (7, .pointer (some ⟨ss, 0, none⟩)), (13, .int .i64 c)] w) (k : Option Addr) (s : ByteArray) (r t ss : Nat) (c seq e : Int) (val : ByteArray) (t65 : Bool) (w : World) (h : kv_KV_Restore.B2 k s r t ss c seq e val t65 w N2  R) :
    KW Try.prog 29 118 (kv_KV_Restore.RV R) ([(0, [1, 1, 1, 1, 1, 1, 1, 1, 0, 1, 0, 0, 1, 0, 0, 1, 1, 1, 0, 1]), (0, [1, 1, 1, 1, 1, 1, 1, 1, 0, 1, 0, 0, 1, 0, 0, 1, 1, 1, 1]), (1, [3]), (0, [1, 1, 1, 1, 1, 1, 1, 1, 0, 1, 0, 0, 1, 1]), (2, [1, 1, 1, 1, 1, 1, 1, 1, 0, 1, 0, 0]), (1, [2]), (0, [1, 1, 1, 1, 1, 1, 1, 1, 1])].map (toItem (Try.f29.body.getD .skip))) [(0, .pointer k), (1, .string s), (5, .pointer (some ⟨r, 0, none⟩)), (6, .pointer (some ⟨t, 0, none⟩)), (7, .pointer (some ⟨ss, 0, none⟩)), (13, .int .i64 c), (14, .int .i64 seq), (15, .int .i64 e), (16, .string val), (65, .bool t65)] w := by
  exact block_spec Try.func29 Try.mixed (stops_cons (fun σ w h => by
      obtain ⟨k_, e0, h⟩ := dP_elim h
      obtain ⟨s_, e1, h⟩ := dS_elim h
      obtain ⟨r_, e2, h⟩ := dK_elim h
      obtain ⟨t_, e3, h⟩ := dK_elim h
      obtain ⟨ss_, e4, h⟩ := dK_elim h
      obtain ⟨c_, e5, h⟩ := dI_elim h
      exact (hN2 k_ s_ r_ t_ ss_ c_ w h).weaken (Sub.cons (Sub.cons (Sub.cons (Sub.cons (Sub.cons (Sub.cons (Sub.nil _) e5) e4) e3) e2) e1) e0)) stops_nil) (Eq.mp (kv_KV_Restore.B2_eq k s r t ss c seq e val t65 w N2  R ) h)
def kv_KV_Restore.L4b (k : Option Addr) (ss : Nat) (c : Int) (w : World)  (N4 : Option Addr → Nat → Int → World → Prop) (R : Int → World → Prop) : Prop :=
  Bm (decide (c < (3 : Int))) (
    (0 ≤ c ∧ c < ((3 : Nat) : Int)) ∧
    LdI .i64 (Addr.add ⟨ss, 0, none⟩ (c.toNat * 6)) w.drew fun x114_0 =>
    LdI .i64 ((Addr.add ⟨ss, 0, none⟩ (c.toNat * 6)).add 1) w.drew fun x114_1 =>
    LdI .i64 ((Addr.add ⟨ss, 0, none⟩ (c.toNat * 6)).add 2) w.drew fun x114_2 =>
    LdI .u8 ((Addr.add ⟨ss, 0, none⟩ (c.toNat * 6)).add 3) w.drew fun x114_3 =>
    LdI .u8 ((Addr.add ⟨ss, 0, none⟩ (c.toNat * 6)).add 4) w.drew fun x114_4 =>
    LdI .u8 ((Addr.add ⟨ss, 0, none⟩ (c.toNat * 6)).add 5) w.drew fun x114_5 =>
    Pn k fun a =>
    (0 ≤ c ∧ c < ((3 : Nat) : Int)) ∧
    Sts [.int .i64 x114_0, .int .i64 x114_1, .int .i64 x114_2, .int .u8 x114_3, .int .u8 x114_4, .int .u8 x114_5] (Addr.add (a.add 66) (c.toNat * 6)) 0 w.drew fun w1 =>
    N4 k ss (IntKind.i64.wrap (c + (1 : Int))) w1) (
    R (0 : Int) w)
theorem kv_KV_Restore.L4b_eq (k : Option Addr) (ss : Nat) (c : Int) (w : World)  (N4 : Option Addr → Nat → Int → World → Prop) (R : Int → World → Prop)  :
    (
  Bm (decide (c < (3 : Int))) (
    (0 ≤ c ∧ c < ((3 : Nat) : Int)) ∧
    LdI .i64 (Addr.add ⟨ss, 0, none⟩ (c.toNat * 6)) w.drew fun x114_0 =>
    LdI .i64 ((Addr.add ⟨ss, 0, none⟩ (c.toNat * 6)).add 1) w.drew fun x114_1 =>
    LdI .i64 ((Addr.add ⟨ss, 0, none⟩ (c.toNat * 6)).add 2) w.drew fun x114_2 =>
    LdI .u8 ((Addr.add ⟨ss, 0, none⟩ (c.toNat * 6)).add 3) w.drew fun x114_3 =>
    LdI .u8 ((Addr.add ⟨ss, 0, none⟩ (c.toNat * 6)).add 4) w.drew fun x114_4 =>
    LdI .u8 ((Addr.add ⟨ss, 0, none⟩ (c.toNat * 6)).add 5) w.drew fun x114_5 =>
    Pn k fun a =>
    (0 ≤ c ∧ c < ((3 : Nat) : Int)) ∧
    Sts [.int .i64 x114_0, .int .i64 x114_1, .int .i64 x114_2, .int .u8 x114_3, .int .u8 x114_4, .int .u8 x114_5] (Addr.add (a.add 66) (c.toNat * 6)) 0 w.drew fun w1 =>
    N4 k ss (IntKind.i64.wrap (c + (1 : Int))) w1) (
    R (0 : Int) w)) = kstep Try.prog 118 Try.f29.results.toList (Try.f29.body.getD .skip) (kv_KV_Restore.RV R) (kvc Try.prog 118 Try.f29.results.toList (Try.f29.body.getD .skip) (kv_KV_Restore.RV R) [([(0, [1, 1, 1, 1, 1, 1, 1, 1, 1, 1, 1, 1, 1, 0, 1, 0, 0]), (2, [1, 1, 1, 1, 1, 1, 1, 1, 1, 1, 1, 1, 1, 0, 1, 0, 0]), (1, [6]), (0, [1, 1, 1, 1, 1, 1, 1, 1, 1, 1, 1, 1, 1, 1])], fun σ w => dP (slotOf σ 0) fun k_ => dK (slotOf σ 7) fun ss_ => dI .i64 (slotOf σ 18) fun c_ => N4 k_ ss_ c_ w)] 2000) [(0, [1, 1, 1, 1, 1, 1, 1, 1, 1, 1, 1, 1, 1, 0, 1, 0, 0]), (2, [1, 1, 1, 1, 1, 1, 1, 1, 1, 1, 1, 1, 1, 0, 1, 0, 0]), (1, [6]), (0, [1, 1, 1, 1, 1, 1, 1, 1, 1, 1, 1, 1, 1, 1])] [(0, .pointer k), (7, .pointer (some ⟨ss, 0, none⟩)), (18, .int .i64 c)] w := by kernel_rfl
theorem kv_KV_Restore.L4b_sound {R : Int → World → Prop} {N4 : Option Addr → Nat → Int → World → Prop} (hN4 : ∀ k ss c w, N4 k ss c w → KW Try.prog 29 118 (kv_KV_Restore.RV R) ([(0, [1, 1, 1, 1, 1, 1, 1, 1, 1, 1, 1, 1, 1, 0, 1, 0, 0]), (2, [1, 1, 1, 1, 1, 1, 1, 1, 1, 1, 1, 1, 1, 0, 1, 0, 0]), (1, [6]), (0, [1, 1, 1, 1, 1, 1, 1, 1, 1, 1, 1, 1, 1, 1])].map (toItem (Try.f29.body.getD .skip))) [(0, .pointer k), (7, .pointer (some ⟨ss, 0, none⟩)), (18, .int .i64 c)] w) (k : Option Addr) (ss : Nat) (c : Int) (w : World) (h : kv_KV_Restore.L4b k ss c w  N4 R) :
    KW Try.prog 29 118 (kv_KV_Restore.RV R) ([(0, [1, 1, 1, 1, 1, 1, 1, 1, 1, 1, 1, 1, 1, 0, 1, 0, 0]), (2, [1, 1, 1, 1, 1, 1, 1, 1, 1, 1, 1, 1, 1, 0, 1, 0, 0]), (1, [6]), (0, [1, 1, 1, 1, 1, 1, 1, 1, 1, 1, 1, 1, 1, 1])].map (toItem (Try.f29.body.getD .skip))) [(0, .pointer k), (7, .pointer (some ⟨ss, 0, none⟩)), (18, .int .i64 c)] w := by
  exact block_spec Try.func29 Try.mixed (stops_cons (fun σ w h => by
      obtain ⟨k_, e0, h⟩ := dP_elim h
      obtain ⟨ss_, e1, h⟩ := dK_elim h
      obtain ⟨c_, e2, h⟩ := dI_elim h
      exact (hN4 k_ ss_ c_ w h).weaken (Sub.cons (Sub.cons (Sub.cons (Sub.nil _) e2) e1) e0)) stops_nil) (Eq.mp (kv_KV_Restore.L4b_eq k ss c w  N4 R ) h)
def kv_KV_Restore.L4 (k : Option Addr) (ss : Nat) (c : Int) (w : World)  (R : Int → World → Prop) : Prop :=
  ∃ (I : Nat → Option Addr → Nat → Int → World → Prop) (m : Nat), I m k ss c w ∧ ∀ m k ss c w, I m k ss c w → kv_KV_Restore.L4b k ss c w  (fun k' ss' c' w' => ∃ m', m' < m ∧ I m' k' ss' c' w') R
theorem kv_KV_Restore.L4_sound {R : Int → World → Prop}  (k : Option Addr) (ss : Nat) (c : Int) (w : World) (h : kv_KV_Restore.L4 k ss c w  R) :
    KW Try.prog 29 118 (kv_KV_Restore.RV R) ([(0, [1, 1, 1, 1, 1, 1, 1, 1, 1, 1, 1, 1, 1, 0, 1, 0, 0]), (2, [1, 1, 1, 1, 1, 1, 1, 1, 1, 1, 1, 1, 1, 0, 1, 0, 0]), (1, [6]), (0, [1, 1, 1, 1, 1, 1, 1, 1, 1, 1, 1, 1, 1, 1])].map (toItem (Try.f29.body.getD .skip))) [(0, .pointer k), (7, .pointer (some ⟨ss, 0, none⟩)), (18, .int .i64 c)] w := by
  obtain ⟨I, m, hBase, hr⟩ := h
  refine KW.loop (fun m σ w => ∃ (k : Option Addr) (ss : Nat) (c : Int), σ = [(0, .pointer k), (7, .pointer (some ⟨ss, 0, none⟩)), (18, .int .i64 c)] ∧ I m k ss c w) ?_ m _ w ⟨k, ss, c, rfl, hBase⟩
  rintro m ih σ w ⟨k, ss, c, rfl, hI⟩
  exact kv_KV_Restore.L4b_sound  (N4 := fun k' ss' c' w' => ∃ m', m' < m ∧ I m' k' ss' c' w') (fun k' ss' c' w' hx => by obtain ⟨m', hlt, hI'⟩ := hx; exact ih m' hlt _ w' ⟨k', ss', c', rfl, hI'⟩) k ss c w (hr m k ss c w hI)
def kv_KV_Restore.L3b (k : Option Addr) (t ss : Nat) (i : Int) (w : World)  (N3 : Option Addr → Nat → Nat → Int → World → Prop) (R : Int → World → Prop) : Prop :=
  Bm (decide (i < (8 : Int))) (
    (0 ≤ i ∧ i < ((8 : Nat) : Int)) ∧
    LdI .i64 (Addr.add ⟨t, 0, none⟩ (i.toNat * 8)) w.drew fun x89_0 =>
    LdI .i64 ((Addr.add ⟨t, 0, none⟩ (i.toNat * 8)).add 1) w.drew fun x89_1 =>
    LdI .u8 ((Addr.add ⟨t, 0, none⟩ (i.toNat * 8)).add 2) w.drew fun x89_2 =>
    LdI .u8 ((Addr.add ⟨t, 0, none⟩ (i.toNat * 8)).add 3) w.drew fun x89_3 =>
    LdI .i64 ((Addr.add ⟨t, 0, none⟩ (i.toNat * 8)).add 4) w.drew fun x89_4 =>
    LdI .u8 ((Addr.add ⟨t, 0, none⟩ (i.toNat * 8)).add 5) w.drew fun x89_5 =>
    LdI .u8 ((Addr.add ⟨t, 0, none⟩ (i.toNat * 8)).add 6) w.drew fun x89_6 =>
    LdI .u8 ((Addr.add ⟨t, 0, none⟩ (i.toNat * 8)).add 7) w.drew fun x89_7 =>
    Pn k fun a =>
    (0 ≤ i ∧ i < ((8 : Nat) : Int)) ∧
    Sts [.int .i64 x89_0, .int .i64 x89_1, .int .u8 x89_2, .int .u8 x89_3, .int .i64 x89_4, .int .u8 x89_5, .int .u8 x89_6, .int .u8 x89_7] (Addr.add a (i.toNat * 8)) 0 w.drew fun w1 =>
    N3 k t ss (IntKind.i64.wrap (i + (1 : Int))) w1) (
    LdI .i64 ⟨t, 64, none⟩ w fun x96 =>
    Pn k fun a_1 =>
    Sts [.int .i64 x96] (a_1.add 64) 0 w fun w2 =>
    LdI .i64 ⟨t, 65, none⟩ w2 fun x102 =>
    Pn k fun a_2 =>
    Sts [.int .i64 x102] (a_2.add 65) 0 w2 fun w3 =>
    kv_KV_Restore.L4 k ss (0 : Int) w3  R)
theorem kv_KV_Restore.L3b_eq (k : Option Addr) (t ss : Nat) (i : Int) (w : World)  (N3 : Option Addr → Nat → Nat → Int → World → Prop) (R : Int → World → Prop) (sL4 : Option Addr → Nat → Int → World → Prop) :
    (
  Bm (decide (i < (8 : Int))) (
    (0 ≤ i ∧ i < ((8 : Nat) : Int)) ∧
    LdI .i64 (Addr.add ⟨t, 0, none⟩ (i.toNat * 8)) w.drew fun x89_0 =>
    LdI .i64 ((Addr.add ⟨t, 0, none⟩ (i.toNat * 8)).add 1) w.drew fun x89_1 =>
    LdI .u8 ((Addr.add ⟨t, 0, none⟩ (i.toNat * 8)).add 2) w.drew fun x89_2 =>
    LdI .u8 ((Addr.add ⟨t, 0, none⟩ (i.toNat * 8)).add 3) w.drew fun x89_3 =>
    LdI .i64 ((Addr.add ⟨t, 0, none⟩ (i.toNat * 8)).add 4) w.drew fun x89_4 =>
    LdI .u8 ((Addr.add ⟨t, 0, none⟩ (i.toNat * 8)).add 5) w.drew fun x89_5 =>
    LdI .u8 ((Addr.add ⟨t, 0, none⟩ (i.toNat * 8)).add 6) w.drew fun x89_6 =>
    LdI .u8 ((Addr.add ⟨t, 0, none⟩ (i.toNat * 8)).add 7) w.drew fun x89_7 =>
    Pn k fun a =>
    (0 ≤ i ∧ i < ((8 : Nat) : Int)) ∧
    Sts [.int .i64 x89_0, .int .i64 x89_1, .int .u8 x89_2, .int .u8 x89_3, .int .i64 x89_4, .int .u8 x89_5, .int .u8 x89_6, .int .u8 x89_7] (Addr.add a (i.toNat * 8)) 0 w.drew fun w1 =>
    N3 k t ss (IntKind.i64.wrap (i + (1 : Int))) w1) (
    LdI .i64 ⟨t, 64, none⟩ w fun x96 =>
    Pn k fun a_1 =>
    Sts [.int .i64 x96] (a_1.add 64) 0 w fun w2 =>
    LdI .i64 ⟨t, 65, none⟩ w2 fun x102 =>
    Pn k fun a_2 =>
    Sts [.int .i64 x102] (a_2.add 65) 0 w2 fun w3 =>
    sL4 k ss (0 : Int) w3)) = kstep Try.prog 118 Try.f29.results.toList (Try.f29.body.getD .skip) (kv_KV_Restore.RV R) (kvc Try.prog 118 Try.f29.results.toList (Try.f29.body.getD .skip) (kv_KV_Restore.RV R) [([(0, [1, 1, 1, 1, 1, 1, 1, 1, 1, 1, 0, 1, 0, 0]), (2, [1, 1, 1, 1, 1, 1, 1, 1, 1, 1, 0, 1, 0, 0]), (1, [4]), (0, [1, 1, 1, 1, 1, 1, 1, 1, 1, 1, 1])], fun σ w => dP (slotOf σ 0) fun k_ => dK (slotOf σ 6) fun t_ => dK (slotOf σ 7) fun ss_ => dI .i64 (slotOf σ 17) fun i_ => N3 k_ t_ ss_ i_ w),
    ([(0, [1, 1, 1, 1, 1, 1, 1, 1, 1, 1, 1, 1, 1, 0, 1, 0, 0]), (2, [1, 1, 1, 1, 1, 1, 1, 1, 1, 1, 1, 1, 1, 0, 1, 0, 0]), (1, [6]), (0, [1, 1, 1, 1, 1, 1, 1, 1, 1, 1, 1, 1, 1, 1])], fun σ w => dP (slotOf σ 0) fun k_ => dK (slotOf σ 7) fun ss_ => dI .i64 (slotOf σ 18) fun c_ => sL4 k_ ss_ c_ w)] 2000) [(0, [1, 1, 1, 1, 1, 1, 1, 1, 1, 1, 0, 1, 0, 0]), (2, [1, 1, 1, 1, 1, 1, 1, 1, 1, 1, 0, 1, 0, 0]), (1, [4]), (0, [1, 1, 1, 1, 1, 1, 1, 1, 1, 1, 1])] [(0, .pointer k), (6, .pointer (some ⟨t, 0, none⟩)), (7, .pointer (some ⟨ss, 0, none⟩)), (17, .int .i64 i)] w := by kernel_rfl
theorem kv_KV_Restore.L3b_sound {R : Int → World → Prop} {N3 : Option Addr → Nat → Nat → Int → World → Prop} (hN3 : ∀ k t ss i w, N3 k t ss i w → KW Try.prog 29 118 (kv_KV_Restore.RV R) ([(0, [1, 1, 1, 1, 1, 1, 1, 1, 1, 1, 0, 1, 0, 0]), (2, [1, 1, 1, 1, 1, 1, 1, 1, 1, 1, 0, 1, 0, 0]), (1, [4]), (0, [1, 1, 1, 1, 1, 1, 1, 1, 1, 1, 1])].map (toItem (Try.f29.body.getD .skip))) [(0, .pointer k), (6, .pointer (some ⟨t, 0, none⟩)), (7, .pointer (some ⟨ss, 0, none⟩)), (17, .int .i64 i)] w) (k : Option Addr) (t ss : Nat) (i : Int) (w : World) (h : kv_KV_Restore.L3b k t ss i w  N3 R) :
    KW Try.prog 29 118 (kv_KV_Restore.RV R) ([(0, [1, 1, 1, 1, 1, 1, 1, 1, 1, 1, 0, 1, 0, 0]), (2, [1, 1, 1, 1, 1, 1, 1, 1, 1, 1, 0, 1, 0, 0]), (1, [4]), (0, [1, 1, 1, 1, 1, 1, 1, 1, 1, 1, 1])].map (toItem (Try.f29.body.getD .skip))) [(0, .pointer k), (6, .pointer (some ⟨t, 0, none⟩)), (7, .pointer (some ⟨ss, 0, none⟩)), (17, .int .i64 i)] w := by
  exact block_spec Try.func29 Try.mixed (stops_cons (fun σ w h => by
      obtain ⟨k_, e0, h⟩ := dP_elim h
      obtain ⟨t_, e1, h⟩ := dK_elim h
      obtain ⟨ss_, e2, h⟩ := dK_elim h
      obtain ⟨i_, e3, h⟩ := dI_elim h
      exact (hN3 k_ t_ ss_ i_ w h).weaken (Sub.cons (Sub.cons (Sub.cons (Sub.cons (Sub.nil _) e3) e2) e1) e0)) (stops_cons (fun σ w h => by
      obtain ⟨k_, e0, h⟩ := dP_elim h
      obtain ⟨ss_, e1, h⟩ := dK_elim h
      obtain ⟨c_, e2, h⟩ := dI_elim h
      exact (kv_KV_Restore.L4_sound  k_ ss_ c_ w h).weaken (Sub.cons (Sub.cons (Sub.cons (Sub.nil _) e2) e1) e0)) stops_nil)) (Eq.mp (kv_KV_Restore.L3b_eq k t ss i w  N3 R (fun k_ ss_ c_ w => kv_KV_Restore.L4 k_ ss_ c_ w  R)) h)
def kv_KV_Restore.L3 (k : Option Addr) (t ss : Nat) (i : Int) (w : World)  (R : Int → World → Prop) : Prop :=
  ∃ (I : Nat → Option Addr → Nat → Nat → Int → World → Prop) (m : Nat), I m k t ss i w ∧ ∀ m k t ss i w, I m k t ss i w → kv_KV_Restore.L3b k t ss i w  (fun k' t' ss' i' w' => ∃ m', m' < m ∧ I m' k' t' ss' i' w') R
theorem kv_KV_Restore.L3_sound {R : Int → World → Prop}  (k : Option Addr) (t ss : Nat) (i : Int) (w : World) (h : kv_KV_Restore.L3 k t ss i w  R) :
    KW Try.prog 29 118 (kv_KV_Restore.RV R) ([(0, [1, 1, 1, 1, 1, 1, 1, 1, 1, 1, 0, 1, 0, 0]), (2, [1, 1, 1, 1, 1, 1, 1, 1, 1, 1, 0, 1, 0, 0]), (1, [4]), (0, [1, 1, 1, 1, 1, 1, 1, 1, 1, 1, 1])].map (toItem (Try.f29.body.getD .skip))) [(0, .pointer k), (6, .pointer (some ⟨t, 0, none⟩)), (7, .pointer (some ⟨ss, 0, none⟩)), (17, .int .i64 i)] w := by
  obtain ⟨I, m, hBase, hr⟩ := h
  refine KW.loop (fun m σ w => ∃ (k : Option Addr) (t ss : Nat) (i : Int), σ = [(0, .pointer k), (6, .pointer (some ⟨t, 0, none⟩)), (7, .pointer (some ⟨ss, 0, none⟩)), (17, .int .i64 i)] ∧ I m k t ss i w) ?_ m _ w ⟨k, t, ss, i, rfl, hBase⟩
  rintro m ih σ w ⟨k, t, ss, i, rfl, hI⟩
  exact kv_KV_Restore.L3b_sound  (N3 := fun k' t' ss' i' w' => ∃ m', m' < m ∧ I m' k' t' ss' i' w') (fun k' t' ss' i' w' hx => by obtain ⟨m', hlt, hI'⟩ := hx; exact ih m' hlt _ w' ⟨k', t', ss', i', rfl, hI'⟩) k t ss i w (hr m k t ss i w hI)
def kv_KV_Restore.L2b (k : Option Addr) (s : ByteArray) (r t ss : Nat) (c : Int) (w : World)  (N2 : Option Addr → ByteArray → Nat → Nat → Nat → Int → World → Prop) (R : Int → World → Prop) : Prop :=
  Bm (decide (c < (3 : Int))) (
    kv_reader_num.Call (some ⟨r, 0, none⟩) w fun r53 w1 =>
    kv_reader_one.Call (some ⟨r, 0, none⟩) w1 fun r55 w2 =>
    kv_reader_str.Call (some ⟨r, 0, none⟩) (0 : Int) (3 : Int) w2 fun r57 w3 =>
    LdB ⟨r, 2, none⟩ w3 fun x61 =>
    Bm x61 (
      kv_KV_Restore.B2 k s r t ss c r53 r55 r57 true w3 N2 R) (
      kv_KV_Restore.B2 k s r t ss c r53 r55 r57 (decide (r55 ≥ (16 : Int))) w3 N2 R)) (
    LdI .i64 ⟨r, 1, none⟩ w fun x76 =>
    Bm (x76 != ((s.size : Nat) : Int)) (
      R (15 : Int) w) (
      kv_KV_Restore.L3 k t ss (0 : Int) w  R))
theorem kv_KV_Restore.L2b_eq (k : Option Addr) (s : ByteArray) (r t ss : Nat) (c : Int) (w : World)  (N2 : Option Addr → ByteArray → Nat → Nat → Nat → Int → World → Prop) (R : Int → World → Prop) (sB2 : Option Addr → ByteArray → Nat → Nat → Nat → Int → Int → Int → ByteArray → Bool → World → Prop) (sL3 : Option Addr → Nat → Nat → Int → World → Prop) :
    (
  Bm (decide (c < (3 : Int))) (
    kv_reader_num.Call (some ⟨r, 0, none⟩) w fun r53 w1 =>
    kv_reader_one.Call (some ⟨r, 0, none⟩) w1 fun r55 w2 =>
    kv_reader_str.Call (some ⟨r, 0, none⟩) (0 : Int) (3 : Int) w2 fun r57 w3 =>
    LdB ⟨r, 2, none⟩ w3 fun x61 =>
    Bm x61 (
      sB2 k s r t ss c r53 r55 r57 true w3) (
      sB2 k s r t ss c r53 r55 r57 (decide (r55 ≥ (16 : Int))) w3)) (
    LdI .i64 ⟨r, 1, none⟩ w fun x76 =>
    Bm (x76 != ((s.size : Nat) : Int)) (
      R (15 : Int) w) (
      sL3 k t ss (0 : Int) w))) = kstep Try.prog 118 Try.f29.results.toList (Try.f29.body.getD .skip) (kv_KV_Restore.RV R) (kvc Try.prog 118 Try.f29.results.toList (Try.f29.body.getD .skip) (kv_KV_Restore.RV R) [([(0, [1, 1, 1, 1, 1, 1, 1, 1, 0, 1, 0, 0, 1, 0, 0, 1, 1, 1, 0, 1]), (0, [1, 1, 1, 1, 1, 1, 1, 1, 0, 1, 0, 0, 1, 0, 0, 1, 1, 1, 1]), (1, [3]), (0, [1, 1, 1, 1, 1, 1, 1, 1, 0, 1, 0, 0, 1, 1]), (2, [1, 1, 1, 1, 1, 1, 1, 1, 0, 1, 0, 0]), (1, [2]), (0, [1, 1, 1, 1, 1, 1, 1, 1, 1])], fun σ w => dP (slotOf σ 0) fun k_ => dS (slotOf σ 1) fun s_ => dK (slotOf σ 5) fun r_ => dK (slotOf σ 6) fun t_ => dK (slotOf σ 7) fun ss_ => dI .i64 (slotOf σ 13) fun c_ => dI .i64 (slotOf σ 14) fun seq_ => dI .i64 (slotOf σ 15) fun e_ => dS (slotOf σ 16) fun val_ => dB (slotOf σ 65) fun t65_ => sB2 k_ s_ r_ t_ ss_ c_ seq_ e_ val_ t65_ w),
    ([(0, [1, 1, 1, 1, 1, 1, 1, 1, 1, 1, 0, 1, 0, 0]), (2, [1, 1, 1, 1, 1, 1, 1, 1, 1, 1, 0, 1, 0, 0]), (1, [4]), (0, [1, 1, 1, 1, 1, 1, 1, 1, 1, 1, 1])], fun σ w => dP (slotOf σ 0) fun k_ => dK (slotOf σ 6) fun t_ => dK (slotOf σ 7) fun ss_ => dI .i64 (slotOf σ 17) fun i_ => sL3 k_ t_ ss_ i_ w)] 2000) [(0, [1, 1, 1, 1, 1, 1, 1, 1, 0, 1, 0, 0]), (2, [1, 1, 1, 1, 1, 1, 1, 1, 0, 1, 0, 0]), (1, [2]), (0, [1, 1, 1, 1, 1, 1, 1, 1, 1])] [(0, .pointer k), (1, .string s), (5, .pointer (some ⟨r, 0, none⟩)), (6, .pointer (some ⟨t, 0, none⟩)), (7, .pointer (some ⟨ss, 0, none⟩)), (13, .int .i64 c)] w := by kernel_rfl
theorem kv_KV_Restore.L2b_sound {R : Int → World → Prop} {N2 : Option Addr → ByteArray → Nat → Nat → Nat → Int → World → Prop} (hN2 : ∀ k s r t ss c w, N2 k s r t ss c w → KW Try.prog 29 118 (kv_KV_Restore.RV R) ([(0, [1, 1, 1, 1, 1, 1, 1, 1, 0, 1, 0, 0]), (2, [1, 1, 1, 1, 1, 1, 1, 1, 0, 1, 0, 0]), (1, [2]), (0, [1, 1, 1, 1, 1, 1, 1, 1, 1])].map (toItem (Try.f29.body.getD .skip))) [(0, .pointer k), (1, .string s), (5, .pointer (some ⟨r, 0, none⟩)), (6, .pointer (some ⟨t, 0, none⟩)), (7, .pointer (some ⟨ss, 0, none⟩)), (13, .int .i64 c)] w) (k : Option Addr) (s : ByteArray) (r t ss : Nat) (c : Int) (w : World) (h : kv_KV_Restore.L2b k s r t ss c w  N2 R) :
    KW Try.prog 29 118 (kv_KV_Restore.RV R) ([(0, [1, 1, 1, 1, 1, 1, 1, 1, 0, 1, 0, 0]), (2, [1, 1, 1, 1, 1, 1, 1, 1, 0, 1, 0, 0]), (1, [2]), (0, [1, 1, 1, 1, 1, 1, 1, 1, 1])].map (toItem (Try.f29.body.getD .skip))) [(0, .pointer k), (1, .string s), (5, .pointer (some ⟨r, 0, none⟩)), (6, .pointer (some ⟨t, 0, none⟩)), (7, .pointer (some ⟨ss, 0, none⟩)), (13, .int .i64 c)] w := by
  exact block_spec Try.func29 Try.mixed (stops_cons (fun σ w h => by
      obtain ⟨k_, e0, h⟩ := dP_elim h
      obtain ⟨s_, e1, h⟩ := dS_elim h
      obtain ⟨r_, e2, h⟩ := dK_elim h
      obtain ⟨t_, e3, h⟩ := dK_elim h
      obtain ⟨ss_, e4, h⟩ := dK_elim h
      obtain ⟨c_, e5, h⟩ := dI_elim h
      obtain ⟨seq_, e6, h⟩ := dI_elim h
      obtain ⟨e_, e7, h⟩ := dI_elim h
      obtain ⟨val_, e8, h⟩ := dS_elim h
      obtain ⟨t65_, e9, h⟩ := dB_elim h
      exact (kv_KV_Restore.B2_sound hN2 k_ s_ r_ t_ ss_ c_ seq_ e_ val_ t65_ w h).weaken (Sub.cons (Sub.cons (Sub.cons (Sub.cons (Sub.cons (Sub.cons (Sub.cons (Sub.cons (Sub.cons (Sub.cons (Sub.nil _) e9) e8) e7) e6) e5) e4) e3) e2) e1) e0)) (stops_cons (fun σ w h => by
      obtain ⟨k_, e0, h⟩ := dP_elim h
      obtain ⟨t_, e1, h⟩ := dK_elim h
      obtain ⟨ss_, e2, h⟩ := dK_elim h
      obtain ⟨i_, e3, h⟩ := dI_elim h
      exact (kv_KV_Restore.L3_sound  k_ t_ ss_ i_ w h).weaken (Sub.cons (Sub.cons (Sub.cons (Sub.cons (Sub.nil _) e3) e2) e1) e0)) stops_nil)) (Eq.mp (kv_KV_Restore.L2b_eq k s r t ss c w  N2 R (fun k_ s_ r_ t_ ss_ c_ seq_ e_ val_ t65_ w => kv_KV_Restore.B2 k_ s_ r_ t_ ss_ c_ seq_ e_ val_ t65_ w N2 R) (fun k_ t_ ss_ i_ w => kv_KV_Restore.L3 k_ t_ ss_ i_ w  R)) h)
def kv_KV_Restore.L2 (k : Option Addr) (s : ByteArray) (r t ss : Nat) (c : Int) (w : World)  (R : Int → World → Prop) : Prop :=
  ∃ (I : Nat → Option Addr → ByteArray → Nat → Nat → Nat → Int → World → Prop) (m : Nat), I m k s r t ss c w ∧ ∀ m k s r t ss c w, I m k s r t ss c w → kv_KV_Restore.L2b k s r t ss c w  (fun k' s' r' t' ss' c' w' => ∃ m', m' < m ∧ I m' k' s' r' t' ss' c' w') R
theorem kv_KV_Restore.L2_sound {R : Int → World → Prop}  (k : Option Addr) (s : ByteArray) (r t ss : Nat) (c : Int) (w : World) (h : kv_KV_Restore.L2 k s r t ss c w  R) :
    KW Try.prog 29 118 (kv_KV_Restore.RV R) ([(0, [1, 1, 1, 1, 1, 1, 1, 1, 0, 1, 0, 0]), (2, [1, 1, 1, 1, 1, 1, 1, 1, 0, 1, 0, 0]), (1, [2]), (0, [1, 1, 1, 1, 1, 1, 1, 1, 1])].map (toItem (Try.f29.body.getD .skip))) [(0, .pointer k), (1, .string s), (5, .pointer (some ⟨r, 0, none⟩)), (6, .pointer (some ⟨t, 0, none⟩)), (7, .pointer (some ⟨ss, 0, none⟩)), (13, .int .i64 c)] w := by
  obtain ⟨I, m, hBase, hr⟩ := h
  refine KW.loop (fun m σ w => ∃ (k : Option Addr) (s : ByteArray) (r t ss : Nat) (c : Int), σ = [(0, .pointer k), (1, .string s), (5, .pointer (some ⟨r, 0, none⟩)), (6, .pointer (some ⟨t, 0, none⟩)), (7, .pointer (some ⟨ss, 0, none⟩)), (13, .int .i64 c)] ∧ I m k s r t ss c w) ?_ m _ w ⟨k, s, r, t, ss, c, rfl, hBase⟩
  rintro m ih σ w ⟨k, s, r, t, ss, c, rfl, hI⟩
  exact kv_KV_Restore.L2b_sound  (N2 := fun k' s' r' t' ss' c' w' => ∃ m', m' < m ∧ I m' k' s' r' t' ss' c' w') (fun k' s' r' t' ss' c' w' hx => by obtain ⟨m', hlt, hI'⟩ := hx; exact ih m' hlt _ w' ⟨k', s', r', t', ss', c', rfl, hI'⟩) k s r t ss c w (hr m k s r t ss c w hI)
def kv_KV_Restore.L1b (k : Option Addr) (s : ByteArray) (r t ss : Nat) (n : Int) (before : ByteArray) (i : Int) (w : World)  (N1 : Option Addr → ByteArray → Nat → Nat → Nat → Int → ByteArray → Int → World → Prop) (R : Int → World → Prop) : Prop :=
  Bm (decide (i < n)) (
    kv_reader_str.Call (some ⟨r, 0, none⟩) (1 : Int) (2 : Int) w fun r32 w1 =>
    kv_reader_str.Call (some ⟨r, 0, none⟩) (0 : Int) (3 : Int) w1 fun r34 w2 =>
    LdB ⟨r, 2, none⟩ w2 fun x38 =>
    Bm x38 (
      kv_KV_Restore.B1 k s r t ss n i r32 r34 true w2 N1 R) (
      kv_KV_Restore.B1 k s r t ss n i r32 r34 (Op.bytesLess r32.toList before.toList || r32.toList == before.toList) w2 N1 R)) (
    kv_KV_Restore.L2 k s r t ss (0 : Int) w  R)
theorem kv_KV_Restore.L1b_eq (k : Option Addr) (s : ByteArray) (r t ss : Nat) (n : Int) (before : ByteArray) (i : Int) (w : World)  (N1 : Option Addr → ByteArray → Nat → Nat → Nat → Int → ByteArray → Int → World → Prop) (R : Int → World → Prop) (sB1 : Option Addr → ByteArray → Nat → Nat → Nat → Int → Int → ByteArray → ByteArray → Bool → World → Prop) (sL2 : Option Addr → ByteArray → Nat → Nat → Nat → Int → World → Prop) :
    (
  Bm (decide (i < n)) (
    kv_reader_str.Call (some ⟨r, 0, none⟩) (1 : Int) (2 : Int) w fun r32 w1 =>
    kv_reader_str.Call (some ⟨r, 0, none⟩) (0 : Int) (3 : Int) w1 fun r34 w2 =>
    LdB ⟨r, 2, none⟩ w2 fun x38 =>
    Bm x38 (
      sB1 k s r t ss n i r32 r34 true w2) (
      sB1 k s r t ss n i r32 r34 (Op.bytesLess r32.toList before.toList || r32.toList == before.toList) w2)) (
    sL2 k s r t ss (0 : Int) w)) = kstep Try.prog 118 Try.f29.results.toList (Try.f29.body.getD .skip) (kv_KV_Restore.RV R) (kvc Try.prog 118 Try.f29.results.toList (Try.f29.body.getD .skip) (kv_KV_Restore.RV R) [([(0, [1, 1, 1, 1, 1, 1, 1, 0, 1, 0, 0, 1, 0, 0, 1, 1, 0, 1]), (0, [1, 1, 1, 1, 1, 1, 1, 0, 1, 0, 0, 1, 0, 0, 1, 1, 1]), (1, [1]), (0, [1, 1, 1, 1, 1, 1, 1, 0, 1, 0, 0, 1, 1]), (2, [1, 1, 1, 1, 1, 1, 1, 0, 1, 0, 0]), (1, [0]), (0, [1, 1, 1, 1, 1, 1, 1, 1])], fun σ w => dP (slotOf σ 0) fun k_ => dS (slotOf σ 1) fun s_ => dK (slotOf σ 5) fun r_ => dK (slotOf σ 6) fun t_ => dK (slotOf σ 7) fun ss_ => dI .i64 (slotOf σ 8) fun n_ => dI .i64 (slotOf σ 10) fun i_ => dS (slotOf σ 11) fun key_ => dS (slotOf σ 12) fun val_ => dB (slotOf σ 43) fun t43_ => sB1 k_ s_ r_ t_ ss_ n_ i_ key_ val_ t43_ w),
    ([(0, [1, 1, 1, 1, 1, 1, 1, 1, 0, 1, 0, 0]), (2, [1, 1, 1, 1, 1, 1, 1, 1, 0, 1, 0, 0]), (1, [2]), (0, [1, 1, 1, 1, 1, 1, 1, 1, 1])], fun σ w => dP (slotOf σ 0) fun k_ => dS (slotOf σ 1) fun s_ => dK (slotOf σ 5) fun r_ => dK (slotOf σ 6) fun t_ => dK (slotOf σ 7) fun ss_ => dI .i64 (slotOf σ 13) fun c_ => sL2 k_ s_ r_ t_ ss_ c_ w)] 2000) [(0, [1, 1, 1, 1, 1, 1, 1, 0, 1, 0, 0]), (2, [1, 1, 1, 1, 1, 1, 1, 0, 1, 0, 0]), (1, [0]), (0, [1, 1, 1, 1, 1, 1, 1, 1])] [(0, .pointer k), (1, .string s), (5, .pointer (some ⟨r, 0, none⟩)), (6, .pointer (some ⟨t, 0, none⟩)), (7, .pointer (some ⟨ss, 0, none⟩)), (8, .int .i64 n), (9, .string before), (10, .int .i64 i)] w := by kernel_rfl
theorem kv_KV_Restore.L1b_sound {R : Int → World → Prop} {N1 : Option Addr → ByteArray → Nat → Nat → Nat → Int → ByteArray → Int → World → Prop} (hN1 : ∀ k s r t ss n before i w, N1 k s r t ss n before i w → KW Try.prog 29 118 (kv_KV_Restore.RV R) ([(0, [1, 1, 1, 1, 1, 1, 1, 0, 1, 0, 0]), (2, [1, 1, 1, 1, 1, 1, 1, 0, 1, 0, 0]), (1, [0]), (0, [1, 1, 1, 1, 1, 1, 1, 1])].map (toItem (Try.f29.body.getD .skip))) [(0, .pointer k), (1, .string s), (5, .pointer (some ⟨r, 0, none⟩)), (6, .pointer (some ⟨t, 0, none⟩)), (7, .pointer (some ⟨ss, 0, none⟩)), (8, .int .i64 n), (9, .string before), (10, .int .i64 i)] w) (k : Option Addr) (s : ByteArray) (r t ss : Nat) (n : Int) (before : ByteArray) (i : Int) (w : World) (h : kv_KV_Restore.L1b k s r t ss n before i w  N1 R) :
    KW Try.prog 29 118 (kv_KV_Restore.RV R) ([(0, [1, 1, 1, 1, 1, 1, 1, 0, 1, 0, 0]), (2, [1, 1, 1, 1, 1, 1, 1, 0, 1, 0, 0]), (1, [0]), (0, [1, 1, 1, 1, 1, 1, 1, 1])].map (toItem (Try.f29.body.getD .skip))) [(0, .pointer k), (1, .string s), (5, .pointer (some ⟨r, 0, none⟩)), (6, .pointer (some ⟨t, 0, none⟩)), (7, .pointer (some ⟨ss, 0, none⟩)), (8, .int .i64 n), (9, .string before), (10, .int .i64 i)] w := by
  exact block_spec Try.func29 Try.mixed (stops_cons (fun σ w h => by
      obtain ⟨k_, e0, h⟩ := dP_elim h
      obtain ⟨s_, e1, h⟩ := dS_elim h
      obtain ⟨r_, e2, h⟩ := dK_elim h
      obtain ⟨t_, e3, h⟩ := dK_elim h
      obtain ⟨ss_, e4, h⟩ := dK_elim h
      obtain ⟨n_, e5, h⟩ := dI_elim h
      obtain ⟨i_, e6, h⟩ := dI_elim h
      obtain ⟨key_, e7, h⟩ := dS_elim h
      obtain ⟨val_, e8, h⟩ := dS_elim h
      obtain ⟨t43_, e9, h⟩ := dB_elim h
      exact (kv_KV_Restore.B1_sound hN1 k_ s_ r_ t_ ss_ n_ i_ key_ val_ t43_ w h).weaken (Sub.cons (Sub.cons (Sub.cons (Sub.cons (Sub.cons (Sub.cons (Sub.cons (Sub.cons (Sub.cons (Sub.cons (Sub.nil _) e9) e8) e7) e6) e5) e4) e3) e2) e1) e0)) (stops_cons (fun σ w h => by
      obtain ⟨k_, e0, h⟩ := dP_elim h
      obtain ⟨s_, e1, h⟩ := dS_elim h
      obtain ⟨r_, e2, h⟩ := dK_elim h
      obtain ⟨t_, e3, h⟩ := dK_elim h
      obtain ⟨ss_, e4, h⟩ := dK_elim h
      obtain ⟨c_, e5, h⟩ := dI_elim h
      exact (kv_KV_Restore.L2_sound  k_ s_ r_ t_ ss_ c_ w h).weaken (Sub.cons (Sub.cons (Sub.cons (Sub.cons (Sub.cons (Sub.cons (Sub.nil _) e5) e4) e3) e2) e1) e0)) stops_nil)) (Eq.mp (kv_KV_Restore.L1b_eq k s r t ss n before i w  N1 R (fun k_ s_ r_ t_ ss_ n_ i_ key_ val_ t43_ w => kv_KV_Restore.B1 k_ s_ r_ t_ ss_ n_ i_ key_ val_ t43_ w N1 R) (fun k_ s_ r_ t_ ss_ c_ w => kv_KV_Restore.L2 k_ s_ r_ t_ ss_ c_ w  R)) h)
def kv_KV_Restore.L1 (k : Option Addr) (s : ByteArray) (r t ss : Nat) (n : Int) (before : ByteArray) (i : Int) (w : World)  (R : Int → World → Prop) : Prop :=
  ∃ (I : Nat → Option Addr → ByteArray → Nat → Nat → Nat → Int → ByteArray → Int → World → Prop) (m : Nat), I m k s r t ss n before i w ∧ ∀ m k s r t ss n before i w, I m k s r t ss n before i w → kv_KV_Restore.L1b k s r t ss n before i w  (fun k' s' r' t' ss' n' before' i' w' => ∃ m', m' < m ∧ I m' k' s' r' t' ss' n' before' i' w') R
theorem kv_KV_Restore.L1_sound {R : Int → World → Prop}  (k : Option Addr) (s : ByteArray) (r t ss : Nat) (n : Int) (before : ByteArray) (i : Int) (w : World) (h : kv_KV_Restore.L1 k s r t ss n before i w  R) :
    KW Try.prog 29 118 (kv_KV_Restore.RV R) ([(0, [1, 1, 1, 1, 1, 1, 1, 0, 1, 0, 0]), (2, [1, 1, 1, 1, 1, 1, 1, 0, 1, 0, 0]), (1, [0]), (0, [1, 1, 1, 1, 1, 1, 1, 1])].map (toItem (Try.f29.body.getD .skip))) [(0, .pointer k), (1, .string s), (5, .pointer (some ⟨r, 0, none⟩)), (6, .pointer (some ⟨t, 0, none⟩)), (7, .pointer (some ⟨ss, 0, none⟩)), (8, .int .i64 n), (9, .string before), (10, .int .i64 i)] w := by
  obtain ⟨I, m, hBase, hr⟩ := h
  refine KW.loop (fun m σ w => ∃ (k : Option Addr) (s : ByteArray) (r t ss : Nat) (n : Int) (before : ByteArray) (i : Int), σ = [(0, .pointer k), (1, .string s), (5, .pointer (some ⟨r, 0, none⟩)), (6, .pointer (some ⟨t, 0, none⟩)), (7, .pointer (some ⟨ss, 0, none⟩)), (8, .int .i64 n), (9, .string before), (10, .int .i64 i)] ∧ I m k s r t ss n before i w) ?_ m _ w ⟨k, s, r, t, ss, n, before, i, rfl, hBase⟩
  rintro m ih σ w ⟨k, s, r, t, ss, n, before, i, rfl, hI⟩
  exact kv_KV_Restore.L1b_sound  (N1 := fun k' s' r' t' ss' n' before' i' w' => ∃ m', m' < m ∧ I m' k' s' r' t' ss' n' before' i' w') (fun k' s' r' t' ss' n' before' i' w' hx => by obtain ⟨m', hlt, hI'⟩ := hx; exact ih m' hlt _ w' ⟨k', s', r', t', ss', n', before', i', rfl, hI'⟩) k s r t ss n before i w (hr m k s r t ss n before i w hI)
def kv_KV_Restore.B0 (k : Option Addr) (s : ByteArray) (w : World)   (R : Int → World → Prop) : Prop :=
  New (.cells #[.string s, .int .i64 (0 : Int), .bool false] 86) w fun b21 w1 =>
  New (.cells #[.int .i64 (0 : Int), .int .i64 (0 : Int), .int .u8 (0 : Int), .int .u8 (0 : Int), .int .i64 (0 : Int), .int .u8 (0 : Int), .int .u8 (0 : Int), .int .u8 (0 : Int), .int .i64 (0 : Int), .int .i64 (0 : Int), .int .u8 (0 : Int), .int .u8 (0 : Int), .int .i64 (0 : Int), .int .u8 (0 : Int), .int .u8 (0 : Int), .int .u8 (0 : Int), .int .i64 (0 : Int), .int .i64 (0 : Int), .int .u8 (0 : Int), .int .u8 (0 : Int), .int .i64 (0 : Int), .int .u8 (0 : Int), .int .u8 (0 : Int), .int .u8 (0 : Int), .int .i64 (0 : Int), .int .i64 (0 : Int), .int .u8 (0 : Int), .int .u8 (0 : Int), .int .i64 (0 : Int), .int .u8 (0 : Int), .int .u8 (0 : Int), .int .u8 (0 : Int), .int .i64 (0 : Int), .int .i64 (0 : Int), .int .u8 (0 : Int), .int .u8 (0 : Int), .int .i64 (0 : Int), .int .u8 (0 : Int), .int .u8 (0 : Int), .int .u8 (0 : Int), .int .i64 (0 : Int), .int .i64 (0 : Int), .int .u8 (0 : Int), .int .u8 (0 : Int), .int .i64 (0 : Int), .int .u8 (0 : Int), .int .u8 (0 : Int), .int .u8 (0 : Int), .int .i64 (0 : Int), .int .i64 (0 : Int), .int .u8 (0 : Int), .int .u8 (0 : Int), .int .i64 (0 : Int), .int .u8 (0 : Int), .int .u8 (0 : Int), .int .u8 (0 : Int), .int .i64 (0 : Int), .int .i64 (0 : Int), .int .u8 (0 : Int), .int .u8 (0 : Int), .int .i64 (0 : Int), .int .u8 (0 : Int), .int .u8 (0 : Int), .int .u8 (0 : Int), .int .i64 (0 : Int), .int .i64 (0 : Int)] 45) w1 fun t_ w2 =>
  New (.cells #[.int .i64 (0 : Int), .int .i64 (0 : Int), .int .i64 (0 : Int), .int .u8 (0 : Int), .int .u8 (0 : Int), .int .u8 (0 : Int), .int .i64 (0 : Int), .int .i64 (0 : Int), .int .i64 (0 : Int), .int .u8 (0 : Int), .int .u8 (0 : Int), .int .u8 (0 : Int), .int .i64 (0 : Int), .int .i64 (0 : Int), .int .i64 (0 : Int), .int .u8 (0 : Int), .int .u8 (0 : Int), .int .u8 (0 : Int)] 49) w2 fun ss_ w3 =>
  kv_reader_one.Call (some ⟨b21, 0, none⟩) w3 fun r23 w4 =>
  Bm (decide (r23 > (4 : Int))) (
    R (15 : Int) w4) (
    kv_KV_Restore.L1 k s b21 t_ ss_ r23 (ByteArray.mk #[]) (0 : Int) w4  R)
theorem kv_KV_Restore.B0_eq (k : Option Addr) (s : ByteArray) (w : World)   (R : Int → World → Prop) (sL1 : Option Addr → ByteArray → Nat → Nat → Nat → Int → ByteArray → Int → World → Prop) :
    (
  New (.cells #[.string s, .int .i64 (0 : Int), .bool false] 86) w fun b21 w1 =>
  New (.cells #[.int .i64 (0 : Int), .int .i64 (0 : Int), .int .u8 (0 : Int), .int .u8 (0 : Int), .int .i64 (0 : Int), .int .u8 (0 : Int), .int .u8 (0 : Int), .int .u8 (0 : Int), .int .i64 (0 : Int), .int .i64 (0 : Int), .int .u8 (0 : Int), .int .u8 (0 : Int), .int .i64 (0 : Int), .int .u8 (0 : Int), .int .u8 (0 : Int), .int .u8 (0 : Int), .int .i64 (0 : Int), .int .i64 (0 : Int), .int .u8 (0 : Int), .int .u8 (0 : Int), .int .i64 (0 : Int), .int .u8 (0 : Int), .int .u8 (0 : Int), .int .u8 (0 : Int), .int .i64 (0 : Int), .int .i64 (0 : Int), .int .u8 (0 : Int), .int .u8 (0 : Int), .int .i64 (0 : Int), .int .u8 (0 : Int), .int .u8 (0 : Int), .int .u8 (0 : Int), .int .i64 (0 : Int), .int .i64 (0 : Int), .int .u8 (0 : Int), .int .u8 (0 : Int), .int .i64 (0 : Int), .int .u8 (0 : Int), .int .u8 (0 : Int), .int .u8 (0 : Int), .int .i64 (0 : Int), .int .i64 (0 : Int), .int .u8 (0 : Int), .int .u8 (0 : Int), .int .i64 (0 : Int), .int .u8 (0 : Int), .int .u8 (0 : Int), .int .u8 (0 : Int), .int .i64 (0 : Int), .int .i64 (0 : Int), .int .u8 (0 : Int), .int .u8 (0 : Int), .int .i64 (0 : Int), .int .u8 (0 : Int), .int .u8 (0 : Int), .int .u8 (0 : Int), .int .i64 (0 : Int), .int .i64 (0 : Int), .int .u8 (0 : Int), .int .u8 (0 : Int), .int .i64 (0 : Int), .int .u8 (0 : Int), .int .u8 (0 : Int), .int .u8 (0 : Int), .int .i64 (0 : Int), .int .i64 (0 : Int)] 45) w1 fun t_ w2 =>
  New (.cells #[.int .i64 (0 : Int), .int .i64 (0 : Int), .int .i64 (0 : Int), .int .u8 (0 : Int), .int .u8 (0 : Int), .int .u8 (0 : Int), .int .i64 (0 : Int), .int .i64 (0 : Int), .int .i64 (0 : Int), .int .u8 (0 : Int), .int .u8 (0 : Int), .int .u8 (0 : Int), .int .i64 (0 : Int), .int .i64 (0 : Int), .int .i64 (0 : Int), .int .u8 (0 : Int), .int .u8 (0 : Int), .int .u8 (0 : Int)] 49) w2 fun ss_ w3 =>
  kv_reader_one.Call (some ⟨b21, 0, none⟩) w3 fun r23 w4 =>
  Bm (decide (r23 > (4 : Int))) (
    R (15 : Int) w4) (
    sL1 k s b21 t_ ss_ r23 (ByteArray.mk #[]) (0 : Int) w4)) = kstep Try.prog 118 Try.f29.results.toList (Try.f29.body.getD .skip) (kv_KV_Restore.RV R) (kvc Try.prog 118 Try.f29.results.toList (Try.f29.body.getD .skip) (kv_KV_Restore.RV R) [([(0, [1, 1, 1, 1, 1, 1, 1, 0, 1, 0, 0]), (2, [1, 1, 1, 1, 1, 1, 1, 0, 1, 0, 0]), (1, [0]), (0, [1, 1, 1, 1, 1, 1, 1, 1])], fun σ w => dP (slotOf σ 0) fun k_ => dS (slotOf σ 1) fun s_ => dK (slotOf σ 5) fun r_ => dK (slotOf σ 6) fun t_ => dK (slotOf σ 7) fun ss_ => dI .i64 (slotOf σ 8) fun n_ => dS (slotOf σ 9) fun before_ => dI .i64 (slotOf σ 10) fun i_ => sL1 k_ s_ r_ t_ ss_ n_ before_ i_ w)] 2000) [(0, [])] [(0, .pointer k), (1, .string s)] w := by kernel_rfl
theorem kv_KV_Restore.B0_sound {R : Int → World → Prop}  (k : Option Addr) (s : ByteArray) (w : World) (h : kv_KV_Restore.B0 k s w   R) :
    KW Try.prog 29 118 (kv_KV_Restore.RV R) ([(0, [])].map (toItem (Try.f29.body.getD .skip))) [(0, .pointer k), (1, .string s)] w := by
  exact block_spec Try.func29 Try.mixed (stops_cons (fun σ w h => by
      obtain ⟨k_, e0, h⟩ := dP_elim h
      obtain ⟨s_, e1, h⟩ := dS_elim h
      obtain ⟨r_, e2, h⟩ := dK_elim h
      obtain ⟨t_, e3, h⟩ := dK_elim h
      obtain ⟨ss_, e4, h⟩ := dK_elim h
      obtain ⟨n_, e5, h⟩ := dI_elim h
      obtain ⟨before_, e6, h⟩ := dS_elim h
      obtain ⟨i_, e7, h⟩ := dI_elim h
      exact (kv_KV_Restore.L1_sound  k_ s_ r_ t_ ss_ n_ before_ i_ w h).weaken (Sub.cons (Sub.cons (Sub.cons (Sub.cons (Sub.cons (Sub.cons (Sub.cons (Sub.cons (Sub.nil _) e7) e6) e5) e4) e3) e2) e1) e0)) stops_nil) (Eq.mp (kv_KV_Restore.B0_eq k s w   R (fun k_ s_ r_ t_ ss_ n_ before_ i_ w => kv_KV_Restore.L1 k_ s_ r_ t_ ss_ n_ before_ i_ w  R)) h)
theorem kv_KV_Restore.sound (k : Option Addr) (s : ByteArray) (w : World) (R : Int → World → Prop) (h : kv_KV_Restore.B0 k s w R) : kv_KV_Restore.Call k s w R := by
  have hc := calls_of_block (args := #[.pointer k, .string s]) Try.func29 (body := (Try.f29.body.getD .skip)) (by kernel_rfl) (by kernel_rfl) (args_slot _) (kv_KV_Restore.B0_sound k s w h)
  exact hc.mono fun e w' he => by
    obtain ⟨v, rfl, hv⟩ := he
    exact kv_KV_Restore.RV_elim hv
end Go.Proofs.Qxb6500429a
