import Derived.Test.Qxb6500424aGreatSig
set_option maxRecDepth 100000
set_option linter.unusedVariables false
open Go.Vc
namespace Go.Proofs.Qxb6500424aGreat
def frame_Sum_A.B0 (u : Option Addr) (w : World)   (R : Int → World → Prop) : Prop :=
  Pn u fun a =>
  LdI .u8 a w fun x6 =>
  R x6 w
theorem frame_Sum_A.B0_eq (u : Option Addr) (w : World)   (R : Int → World → Prop)  :
    (
  Pn u fun a =>
  LdI .u8 a w fun x6 =>
  R x6 w) = kstep Tryz.prog 7 Tryz.f187.results.toList (Tryz.f187.body.getD .skip) (frame_Sum_A.RV R) (kvc Tryz.prog 7 Tryz.f187.results.toList (Tryz.f187.body.getD .skip) (frame_Sum_A.RV R) [] 2000) [(0, [])] [(0, .pointer u)] w := by kernel_rfl
theorem frame_Sum_A.B0_sound {R : Int → World → Prop}  (u : Option Addr) (w : World) (h : frame_Sum_A.B0 u w   R) :
    KW Tryz.prog 187 7 (frame_Sum_A.RV R) ([(0, [])].map (toItem (Tryz.f187.body.getD .skip))) [(0, .pointer u)] w := by
  exact block_spec Tryz.func187 Tryz.mixed stops_nil (Eq.mp (frame_Sum_A.B0_eq u w   R ) h)
theorem frame_Sum_A.sound (u : Option Addr) (w : World) (R : Int → World → Prop) (h : frame_Sum_A.B0 u w R) : frame_Sum_A.Call u w R := by
  have hc := calls_of_block (args := #[.pointer u]) Tryz.func187 (body := (Tryz.f187.body.getD .skip)) (by kernel_rfl) (by kernel_rfl) (args_slot _) (frame_Sum_A.B0_sound u w h)
  exact hc.mono fun e w' he => by
    obtain ⟨v, rfl, hv⟩ := he
    exact frame_Sum_A.RV_elim hv
def frame_Sum_B.B0 (u : Option Addr) (w : World)   (R : Int → World → Prop) : Prop :=
  Pn u fun a =>
  LdI .u8 (a.add 1) w fun x6 =>
  R x6 w
theorem frame_Sum_B.B0_eq (u : Option Addr) (w : World)   (R : Int → World → Prop)  :
    (
  Pn u fun a =>
  LdI .u8 (a.add 1) w fun x6 =>
  R x6 w) = kstep Tryz.prog 7 Tryz.f188.results.toList (Tryz.f188.body.getD .skip) (frame_Sum_B.RV R) (kvc Tryz.prog 7 Tryz.f188.results.toList (Tryz.f188.body.getD .skip) (frame_Sum_B.RV R) [] 2000) [(0, [])] [(0, .pointer u)] w := by kernel_rfl
theorem frame_Sum_B.B0_sound {R : Int → World → Prop}  (u : Option Addr) (w : World) (h : frame_Sum_B.B0 u w   R) :
    KW Tryz.prog 188 7 (frame_Sum_B.RV R) ([(0, [])].map (toItem (Tryz.f188.body.getD .skip))) [(0, .pointer u)] w := by
  exact block_spec Tryz.func188 Tryz.mixed stops_nil (Eq.mp (frame_Sum_B.B0_eq u w   R ) h)
theorem frame_Sum_B.sound (u : Option Addr) (w : World) (R : Int → World → Prop) (h : frame_Sum_B.B0 u w R) : frame_Sum_B.Call u w R := by
  have hc := calls_of_block (args := #[.pointer u]) Tryz.func188 (body := (Tryz.f188.body.getD .skip)) (by kernel_rfl) (by kernel_rfl) (args_slot _) (frame_Sum_B.B0_sound u w h)
  exact hc.mono fun e w' he => by
    obtain ⟨v, rfl, hv⟩ := he
    exact frame_Sum_B.RV_elim hv
def ip_below.B0 (n : Int) (w : World)   (R : Int → World → Prop) : Prop :=
  0 ≤ (IntKind.u64.wrap n) ∧
  R (IntKind.u64.wrap ((IntKind.u64.wrap ((1 : Int) * 2 ^ (min (IntKind.u64.wrap n).toNat IntKind.u64.bits))) - (1 : Int))) w
theorem ip_below.B0_eq (n : Int) (w : World)   (R : Int → World → Prop)  :
    (
  0 ≤ (IntKind.u64.wrap n) ∧
  R (IntKind.u64.wrap ((IntKind.u64.wrap ((1 : Int) * 2 ^ (min (IntKind.u64.wrap n).toNat IntKind.u64.bits))) - (1 : Int))) w) = kstep Tryz.prog 7 Tryz.f189.results.toList (Tryz.f189.body.getD .skip) (ip_below.RV R) (kvc Tryz.prog 7 Tryz.f189.results.toList (Tryz.f189.body.getD .skip) (ip_below.RV R) [] 2000) [(0, [])] [(0, .int .i64 n)] w := by kernel_rfl
theorem ip_below.B0_sound {R : Int → World → Prop}  (n : Int) (w : World) (h : ip_below.B0 n w   R) :
    KW Tryz.prog 189 7 (ip_below.RV R) ([(0, [])].map (toItem (Tryz.f189.body.getD .skip))) [(0, .int .i64 n)] w := by
  exact block_spec Tryz.func189 Tryz.mixed stops_nil (Eq.mp (ip_below.B0_eq n w   R ) h)
theorem ip_below.sound (n : Int) (w : World) (R : Int → World → Prop) (h : ip_below.B0 n w R) : ip_below.Call n w R := by
  have hc := calls_of_block (args := #[.int .i64 n]) Tryz.func189 (body := (Tryz.f189.body.getD .skip)) (by kernel_rfl) (by kernel_rfl) (args_slot _) (ip_below.B0_sound n w h)
  exact hc.mono fun e w' he => by
    obtain ⟨v, rfl, hv⟩ := he
    exact ip_below.RV_elim hv
def seg_sums_add.B0 (x : Option Addr) (b : Int) (w : World)   (R : World → Prop) : Prop :=
  Pn x fun a =>
  LdI .u8 a w fun x7 =>
  Pn x fun a_1 =>
  Sts [.int .u8 (IntKind.u8.wrap (x7 + b))] a_1 0 w fun w1 =>
  Pn x fun a_2 =>
  LdI .u8 (a_2.add 1) w1.drew fun x15 =>
  Pn x fun a_3 =>
  LdI .u8 a_3 w1.drew fun x19 =>
  Pn x fun a_4 =>
  Sts [.int .u8 (IntKind.u8.wrap (x15 + x19))] (a_4.add 1) 0 w1.drew fun w2 =>
  R  w2
theorem seg_sums_add.B0_eq (x : Option Addr) (b : Int) (w : World)   (R : World → Prop)  :
    (
  Pn x fun a =>
  LdI .u8 a w fun x7 =>
  Pn x fun a_1 =>
  Sts [.int .u8 (IntKind.u8.wrap (x7 + b))] a_1 0 w fun w1 =>
  Pn x fun a_2 =>
  LdI .u8 (a_2.add 1) w1.drew fun x15 =>
  Pn x fun a_3 =>
  LdI .u8 a_3 w1.drew fun x19 =>
  Pn x fun a_4 =>
  Sts [.int .u8 (IntKind.u8.wrap (x15 + x19))] (a_4.add 1) 0 w1.drew fun w2 =>
  R  w2) = kstep Tryz.prog 23 Tryz.f190.results.toList (Tryz.f190.body.getD .skip) (seg_sums_add.RV R) (kvc Tryz.prog 23 Tryz.f190.results.toList (Tryz.f190.body.getD .skip) (seg_sums_add.RV R) [] 2000) [(0, [])] [(0, .pointer x), (1, .int .u8 b)] w := by kernel_rfl
theorem seg_sums_add.B0_sound {R : World → Prop}  (x : Option Addr) (b : Int) (w : World) (h : seg_sums_add.B0 x b w   R) :
    KW Tryz.prog 190 23 (seg_sums_add.RV R) ([(0, [])].map (toItem (Tryz.f190.body.getD .skip))) [(0, .pointer x), (1, .int .u8 b)] w := by
  exact block_spec Tryz.func190 Tryz.mixed stops_nil (Eq.mp (seg_sums_add.B0_eq x b w   R ) h)
theorem seg_sums_add.sound (x : Option Addr) (b : Int) (w : World) (R : World → Prop) (h : seg_sums_add.B0 x b w R) : seg_sums_add.Call x b w R := by
  have hc := calls_of_block (args := #[.pointer x, .int .u8 b]) Tryz.func190 (body := (Tryz.f190.body.getD .skip)) (by kernel_rfl) (by kernel_rfl) (args_slot _) (seg_sums_add.B0_sound x b w h)
  exact hc.mono fun e w' he => by
    obtain ⟨v, rfl, hv⟩ := he
    exact seg_sums_add.RV_elim hv
def seg_sums_all.L1b (x b_b : Option Addr) (b_l b_c : Nat) (i : Int) (w : World)  (N1 : Option Addr → Option Addr → Nat → Nat → Int → World → Prop) (R : World → Prop) : Prop :=
  Bm (decide (i < ((b_l : Nat) : Int))) (
    Pn b_b fun a =>
    (0 ≤ i ∧ i < ((b_l : Nat) : Int)) ∧
    LdI .u8 (Addr.add a (i.toNat * 1)) w fun x15 =>
    seg_sums_add.Call x x15 w fun w1 =>
    N1 x b_b b_l b_c (IntKind.i64.wrap (i + (1 : Int))) w1) (
    R  w)
theorem seg_sums_all.L1b_eq (x b_b : Option Addr) (b_l b_c : Nat) (i : Int) (w : World)  (N1 : Option Addr → Option Addr → Nat → Nat → Int → World → Prop) (R : World → Prop)  :
    (
  Bm (decide (i < ((b_l : Nat) : Int))) (
    Pn b_b fun a =>
    (0 ≤ i ∧ i < ((b_l : Nat) : Int)) ∧
    LdI .u8 (Addr.add a (i.toNat * 1)) w fun x15 =>
    seg_sums_add.Call x x15 w fun w1 =>
    N1 x b_b b_l b_c (IntKind.i64.wrap (i + (1 : Int))) w1) (
    R  w)) = kstep Tryz.prog 17 Tryz.f191.results.toList (Tryz.f191.body.getD .skip) (seg_sums_all.RV R) (kvc Tryz.prog 17 Tryz.f191.results.toList (Tryz.f191.body.getD .skip) (seg_sums_all.RV R) [([(0, [1, 0, 0]), (2, [1, 0, 0]), (1, [0])], fun σ w => dP (slotOf σ 0) fun x_ => dL (slotOf σ 1) fun b_b_ b_l_ b_c_ => dI .i64 (slotOf σ 4) fun i_ => N1 x_ b_b_ b_l_ b_c_ i_ w)] 2000) [(0, [1, 0, 0]), (2, [1, 0, 0]), (1, [0])] [(0, .pointer x), (1, .slice b_b b_l b_c), (4, .int .i64 i)] w := by kernel_rfl
theorem seg_sums_all.L1b_sound {R : World → Prop} {N1 : Option Addr → Option Addr → Nat → Nat → Int → World → Prop} (hN1 : ∀ x b_b b_l b_c i w, N1 x b_b b_l b_c i w → KW Tryz.prog 191 17 (seg_sums_all.RV R) ([(0, [1, 0, 0]), (2, [1, 0, 0]), (1, [0])].map (toItem (Tryz.f191.body.getD .skip))) [(0, .pointer x), (1, .slice b_b b_l b_c), (4, .int .i64 i)] w) (x b_b : Option Addr) (b_l b_c : Nat) (i : Int) (w : World) (h : seg_sums_all.L1b x b_b b_l b_c i w  N1 R) :
    KW Tryz.prog 191 17 (seg_sums_all.RV R) ([(0, [1, 0, 0]), (2, [1, 0, 0]), (1, [0])].map (toItem (Tryz.f191.body.getD .skip))) [(0, .pointer x), (1, .slice b_b b_l b_c), (4, .int .i64 i)] w := by
  exact block_spec Tryz.func191 Tryz.mixed (stops_cons (fun σ w h => by
      obtain ⟨x_, e0, h⟩ := dP_elim h
      obtain ⟨b_b_, b_l_, b_c_, e1, h⟩ := dL_elim h
      obtain ⟨i_, e2, h⟩ := dI_elim h
      exact (hN1 x_ b_b_ b_l_ b_c_ i_ w h).weaken (Sub.cons (Sub.cons (Sub.cons (Sub.nil _) e2) e1) e0)) stops_nil) (Eq.mp (seg_sums_all.L1b_eq x b_b b_l b_c i w  N1 R ) h)
def seg_sums_all.L1 (x b_b : Option Addr) (b_l b_c : Nat) (i : Int) (w : World)  (R : World → Prop) : Prop :=
  ∃ (I : Nat → Option Addr → Option Addr → Nat → Nat → Int → World → Prop) (m : Nat), I m x b_b b_l b_c i w ∧ ∀ m x b_b b_l b_c i w, I m x b_b b_l b_c i w → seg_sums_all.L1b x b_b b_l b_c i w  (fun x' b_b' b_l' b_c' i' w' => ∃ m', m' < m ∧ I m' x' b_b' b_l' b_c' i' w') R
theorem seg_sums_all.L1_sound {R : World → Prop}  (x b_b : Option Addr) (b_l b_c : Nat) (i : Int) (w : World) (h : seg_sums_all.L1 x b_b b_l b_c i w  R) :
    KW Tryz.prog 191 17 (seg_sums_all.RV R) ([(0, [1, 0, 0]), (2, [1, 0, 0]), (1, [0])].map (toItem (Tryz.f191.body.getD .skip))) [(0, .pointer x), (1, .slice b_b b_l b_c), (4, .int .i64 i)] w := by
  obtain ⟨I, m, hBase, hr⟩ := h
  refine KW.loop (fun m σ w => ∃ (x b_b : Option Addr) (b_l b_c : Nat) (i : Int), σ = [(0, .pointer x), (1, .slice b_b b_l b_c), (4, .int .i64 i)] ∧ I m x b_b b_l b_c i w) ?_ m _ w ⟨x, b_b, b_l, b_c, i, rfl, hBase⟩
  rintro m ih σ w ⟨x, b_b, b_l, b_c, i, rfl, hI⟩
  exact seg_sums_all.L1b_sound  (N1 := fun x' b_b' b_l' b_c' i' w' => ∃ m', m' < m ∧ I m' x' b_b' b_l' b_c' i' w') (fun x' b_b' b_l' b_c' i' w' hx => by obtain ⟨m', hlt, hI'⟩ := hx; exact ih m' hlt _ w' ⟨x', b_b', b_l', b_c', i', rfl, hI'⟩) x b_b b_l b_c i w (hr m x b_b b_l b_c i w hI)
def seg_sums_all.B0 (x b_b : Option Addr) (b_l b_c : Nat) (w : World)   (R : World → Prop) : Prop :=
  seg_sums_all.L1 x b_b b_l b_c (0 : Int) w  R
theorem seg_sums_all.B0_eq (x b_b : Option Addr) (b_l b_c : Nat) (w : World)   (R : World → Prop) (sL1 : Option Addr → Option Addr → Nat → Nat → Int → World → Prop) :
    (
  sL1 x b_b b_l b_c (0 : Int) w) = kstep Tryz.prog 17 Tryz.f191.results.toList (Tryz.f191.body.getD .skip) (seg_sums_all.RV R) (kvc Tryz.prog 17 Tryz.f191.results.toList (Tryz.f191.body.getD .skip) (seg_sums_all.RV R) [([(0, [1, 0, 0]), (2, [1, 0, 0]), (1, [0])], fun σ w => dP (slotOf σ 0) fun x_ => dL (slotOf σ 1) fun b_b_ b_l_ b_c_ => dI .i64 (slotOf σ 4) fun i_ => sL1 x_ b_b_ b_l_ b_c_ i_ w)] 2000) [(0, [])] [(0, .pointer x), (1, .slice b_b b_l b_c)] w := by kernel_rfl
theorem seg_sums_all.B0_sound {R : World → Prop}  (x b_b : Option Addr) (b_l b_c : Nat) (w : World) (h : seg_sums_all.B0 x b_b b_l b_c w   R) :
    KW Tryz.prog 191 17 (seg_sums_all.RV R) ([(0, [])].map (toItem (Tryz.f191.body.getD .skip))) [(0, .pointer x), (1, .slice b_b b_l b_c)] w := by
  exact block_spec Tryz.func191 Tryz.mixed (stops_cons (fun σ w h => by
      obtain ⟨x_, e0, h⟩ := dP_elim h
      obtain ⟨b_b_, b_l_, b_c_, e1, h⟩ := dL_elim h
      obtain ⟨i_, e2, h⟩ := dI_elim h
      exact (seg_sums_all.L1_sound  x_ b_b_ b_l_ b_c_ i_ w h).weaken (Sub.cons (Sub.cons (Sub.cons (Sub.nil _) e2) e1) e0)) stops_nil) (Eq.mp (seg_sums_all.B0_eq x b_b b_l b_c w   R (fun x_ b_b_ b_l_ b_c_ i_ w => seg_sums_all.L1 x_ b_b_ b_l_ b_c_ i_ w  R)) h)
theorem seg_sums_all.sound (x b_b : Option Addr) (b_l b_c : Nat) (w : World) (R : World → Prop) (h : seg_sums_all.B0 x b_b b_l b_c w R) : seg_sums_all.Call x b_b b_l b_c w R := by
  have hc := calls_of_block (args := #[.pointer x, .slice b_b b_l b_c]) Tryz.func191 (body := (Tryz.f191.body.getD .skip)) (by kernel_rfl) (by kernel_rfl) (args_slot _) (seg_sums_all.B0_sound x b_b b_l b_c w h)
  exact hc.mono fun e w' he => by
    obtain ⟨v, rfl, hv⟩ := he
    exact seg_sums_all.RV_elim hv
def conn_Conn_inQuiet.B1 (c : Option Addr) (t28 : Bool) (w : World)   (R : Option Addr → Nat → Nat → World → Prop) : Prop :=
  Bm t28 (
    conn_Conn_ack.Call c w fun r30_0 r30_1 r30_2 r30_3 r30_4 r30_5 r30_6_b r30_6_l r30_6_c w1 =>
    New (.cells #[.int .i64 (0 : Int), .int .i64 (0 : Int), .int .i64 (0 : Int), .int .i64 (0 : Int), .int .i64 (0 : Int), .int .i64 (0 : Int), .slice none 0 0] 177) w1 fun a_ w2 =>
    Sts [.int .i64 r30_0, .int .i64 r30_1, .int .i64 r30_2, .int .i64 r30_3, .int .i64 r30_4, .int .i64 r30_5, .slice r30_6_b r30_6_l r30_6_c] ⟨a_, 0, none⟩ 0 w2 fun w3 =>
    LdI .i64 ⟨a_, 0, none⟩ w3 fun x31_0 =>
    LdI .i64 ⟨a_, 1, none⟩ w3 fun x31_1 =>
    LdI .i64 ⟨a_, 2, none⟩ w3 fun x31_2 =>
    LdI .i64 ⟨a_, 3, none⟩ w3 fun x31_3 =>
    LdI .i64 ⟨a_, 4, none⟩ w3 fun x31_4 =>
    LdI .i64 ⟨a_, 5, none⟩ w3 fun x31_5 =>
    LdL ⟨a_, 6, none⟩ w3 fun x31_6_b x31_6_l x31_6_c =>
    conn_one.Call x31_0 x31_1 x31_2 x31_3 x31_4 x31_5 x31_6_b x31_6_l x31_6_c w3 fun r32_b r32_l r32_c w4 =>
    R r32_b r32_l r32_c w4) (
    New (.cells #[] 177) w fun b33 w5 =>
    R (some ⟨b33, 0, none⟩) 0 0 w5)
theorem conn_Conn_inQuiet.B1_eq (c : Option Addr) (t28 : Bool) (w : World)   (R : Option Addr → Nat → Nat → World → Prop)  :
    (
  Bm t28 (
    conn_Conn_ack.Call c w fun r30_0 r30_1 r30_2 r30_3 r30_4 r30_5 r30_6_b r30_6_l r30_6_c w1 =>
    New (.cells #[.int .i64 (0 : Int), .int .i64 (0 : Int), .int .i64 (0 : Int), .int .i64 (0 : Int), .int .i64 (0 : Int), .int .i64 (0 : Int), .slice none 0 0] 177) w1 fun a_ w2 =>
    Sts [.int .i64 r30_0, .int .i64 r30_1, .int .i64 r30_2, .int .i64 r30_3, .int .i64 r30_4, .int .i64 r30_5, .slice r30_6_b r30_6_l r30_6_c] ⟨a_, 0, none⟩ 0 w2 fun w3 =>
    LdI .i64 ⟨a_, 0, none⟩ w3 fun x31_0 =>
    LdI .i64 ⟨a_, 1, none⟩ w3 fun x31_1 =>
    LdI .i64 ⟨a_, 2, none⟩ w3 fun x31_2 =>
    LdI .i64 ⟨a_, 3, none⟩ w3 fun x31_3 =>
    LdI .i64 ⟨a_, 4, none⟩ w3 fun x31_4 =>
    LdI .i64 ⟨a_, 5, none⟩ w3 fun x31_5 =>
    LdL ⟨a_, 6, none⟩ w3 fun x31_6_b x31_6_l x31_6_c =>
    conn_one.Call x31_0 x31_1 x31_2 x31_3 x31_4 x31_5 x31_6_b x31_6_l x31_6_c w3 fun r32_b r32_l r32_c w4 =>
    R r32_b r32_l r32_c w4) (
    New (.cells #[] 177) w fun b33 w5 =>
    R (some ⟨b33, 0, none⟩) 0 0 w5)) = kstep Tryz.prog 34 Tryz.f192.results.toList (Tryz.f192.body.getD .skip) (conn_Conn_inQuiet.RV R) (kvc Tryz.prog 34 Tryz.f192.results.toList (Tryz.f192.body.getD .skip) (conn_Conn_inQuiet.RV R) [] 2000) [(0, [1, 0, 1]), (0, [1, 1])] [(0, .pointer c), (28, .bool t28)] w := by kernel_rfl
theorem conn_Conn_inQuiet.B1_sound {R : Option Addr → Nat → Nat → World → Prop}  (c : Option Addr) (t28 : Bool) (w : World) (h : conn_Conn_inQuiet.B1 c t28 w   R) :
    KW Tryz.prog 192 34 (conn_Conn_inQuiet.RV R) ([(0, [1, 0, 1]), (0, [1, 1])].map (toItem (Tryz.f192.body.getD .skip))) [(0, .pointer c), (28, .bool t28)] w := by
  exact block_spec Tryz.func192 Tryz.mixed stops_nil (Eq.mp (conn_Conn_inQuiet.B1_eq c t28 w   R ) h)
def conn_Conn_inQuiet.B0 (c : Option Addr) (s_0 s_1 s_2 s_3 s_4 s_5 : Int) (s_6_b : Option Addr) (s_6_l s_6_c : Nat) (w : World)   (R : Option Addr → Nat → Nat → World → Prop) : Prop :=
  New (.cells #[.int .i64 s_0, .int .i64 s_1, .int .i64 s_2, .int .i64 s_3, .int .i64 s_4, .int .i64 s_5, .slice s_6_b s_6_l s_6_c] 177) w fun s_ w1 =>
  Pn c fun a =>
  LdI .i64 (a.add 3) w1 fun x9 =>
  Bm (x9 == (0 : Int)) (
    LdI .i64 ⟨s_, 4, none⟩ w1 fun x13 =>
    Bm ((IntKind.i64.wrap (BitVec.ofInt IntKind.i64.bits x13 &&& BitVec.ofInt IntKind.i64.bits (8 : Int)).toNat) == (0 : Int)) (
      LdI .i64 ⟨s_, 4, none⟩ w1 fun x19 =>
      Bm ((IntKind.i64.wrap (BitVec.ofInt IntKind.i64.bits x19 &&& BitVec.ofInt IntKind.i64.bits (4 : Int)).toNat) != (0 : Int)) (
        conn_Conn_inQuiet.B1 c true w1  R) (
        LdL ⟨s_, 6, none⟩ w1 fun x24_b x24_l x24_c =>
        conn_Conn_inQuiet.B1 c (decide (((x24_l : Nat) : Int) > (0 : Int))) w1  R)) (
      conn_Conn_inQuiet.B1 c false w1  R)) (
    conn_Conn_inQuiet.B1 c false w1  R)
theorem conn_Conn_inQuiet.B0_eq (c : Option Addr) (s_0 s_1 s_2 s_3 s_4 s_5 : Int) (s_6_b : Option Addr) (s_6_l s_6_c : Nat) (w : World)   (R : Option Addr → Nat → Nat → World → Prop) (sB1 : Option Addr → Bool → World → Prop) :
    (
  New (.cells #[.int .i64 s_0, .int .i64 s_1, .int .i64 s_2, .int .i64 s_3, .int .i64 s_4, .int .i64 s_5, .slice s_6_b s_6_l s_6_c] 177) w fun s_ w1 =>
  Pn c fun a =>
  LdI .i64 (a.add 3) w1 fun x9 =>
  Bm (x9 == (0 : Int)) (
    LdI .i64 ⟨s_, 4, none⟩ w1 fun x13 =>
    Bm ((IntKind.i64.wrap (BitVec.ofInt IntKind.i64.bits x13 &&& BitVec.ofInt IntKind.i64.bits (8 : Int)).toNat) == (0 : Int)) (
      LdI .i64 ⟨s_, 4, none⟩ w1 fun x19 =>
      Bm ((IntKind.i64.wrap (BitVec.ofInt IntKind.i64.bits x19 &&& BitVec.ofInt IntKind.i64.bits (4 : Int)).toNat) != (0 : Int)) (
        sB1 c true w1) (
        LdL ⟨s_, 6, none⟩ w1 fun x24_b x24_l x24_c =>
        sB1 c (decide (((x24_l : Nat) : Int) > (0 : Int))) w1)) (
      sB1 c false w1)) (
    sB1 c false w1)) = kstep Tryz.prog 34 Tryz.f192.results.toList (Tryz.f192.body.getD .skip) (conn_Conn_inQuiet.RV R) (kvc Tryz.prog 34 Tryz.f192.results.toList (Tryz.f192.body.getD .skip) (conn_Conn_inQuiet.RV R) [([(0, [1, 0, 1]), (0, [1, 1])], fun σ w => dP (slotOf σ 0) fun c_ => dB (slotOf σ 28) fun t28_ => sB1 c_ t28_ w)] 2000) [(0, [])] [(0, .pointer c), (1, .agg #[.int .i64 s_0, .int .i64 s_1, .int .i64 s_2, .int .i64 s_3, .int .i64 s_4, .int .i64 s_5, .slice s_6_b s_6_l s_6_c])] w := by kernel_rfl
theorem conn_Conn_inQuiet.B0_sound {R : Option Addr → Nat → Nat → World → Prop}  (c : Option Addr) (s_0 s_1 s_2 s_3 s_4 s_5 : Int) (s_6_b : Option Addr) (s_6_l s_6_c : Nat) (w : World) (h : conn_Conn_inQuiet.B0 c s_0 s_1 s_2 s_3 s_4 s_5 s_6_b s_6_l s_6_c w   R) :
    KW Tryz.prog 192 34 (conn_Conn_inQuiet.RV R) ([(0, [])].map (toItem (Tryz.f192.body.getD .skip))) [(0, .pointer c), (1, .agg #[.int .i64 s_0, .int .i64 s_1, .int .i64 s_2, .int .i64 s_3, .int .i64 s_4, .int .i64 s_5, .slice s_6_b s_6_l s_6_c])] w := by
  exact block_spec Tryz.func192 Tryz.mixed (stops_cons (fun σ w h => by
      obtain ⟨c_, e0, h⟩ := dP_elim h
      obtain ⟨t28_, e1, h⟩ := dB_elim h
      exact (conn_Conn_inQuiet.B1_sound  c_ t28_ w h).weaken (Sub.cons (Sub.cons (Sub.nil _) e1) e0)) stops_nil) (Eq.mp (conn_Conn_inQuiet.B0_eq c s_0 s_1 s_2 s_3 s_4 s_5 s_6_b s_6_l s_6_c w   R (fun c_ t28_ w => conn_Conn_inQuiet.B1 c_ t28_ w  R)) h)
theorem conn_Conn_inQuiet.sound (c : Option Addr) (s_0 s_1 s_2 s_3 s_4 s_5 : Int) (s_6_b : Option Addr) (s_6_l s_6_c : Nat) (w : World) (R : Option Addr → Nat → Nat → World → Prop) (h : conn_Conn_inQuiet.B0 c s_0 s_1 s_2 s_3 s_4 s_5 s_6_b s_6_l s_6_c w R) : conn_Conn_inQuiet.Call c s_0 s_1 s_2 s_3 s_4 s_5 s_6_b s_6_l s_6_c w R := by
  have hc := calls_of_block (args := #[.pointer c, .agg #[.int .i64 s_0, .int .i64 s_1, .int .i64 s_2, .int .i64 s_3, .int .i64 s_4, .int .i64 s_5, .slice s_6_b s_6_l s_6_c]]) Tryz.func192 (body := (Tryz.f192.body.getD .skip)) (by kernel_rfl) (by kernel_rfl) (args_slot _) (conn_Conn_inQuiet.B0_sound c s_0 s_1 s_2 s_3 s_4 s_5 s_6_b s_6_l s_6_c w h)
  exact hc.mono fun e w' he => by
    obtain ⟨v, rfl, hv⟩ := he
    exact conn_Conn_inQuiet.RV_elim hv
def conn_Conn_inSynSent.B2 (c : Option Addr) (s : Nat) (none0_b : Option Addr) (none0_l none0_c : Nat) (t53 : Bool) (w : World)   (R : Option Addr → Nat → Nat → World → Prop) : Prop :=
  Bm t53 (
    R none0_b none0_l none0_c w) (
    conn_Conn_opened.Call c w fun w1 =>
    LdI .i64 ⟨s, 2, none⟩ w1 fun x58 =>
    api_SeqAdd.Call x58 (1 : Int) w1 fun r59 w2 =>
    Pn c fun a =>
    LdP (a.add 1) w2 fun x63 =>
    seg_RecvBuf_Reset.Call x63 r59 w2 fun w3 =>
    LdI .i64 ⟨s, 5, none⟩ w3 fun x68 =>
    conn_window.Call x68 w3 fun r69 w4 =>
    Pn c fun a_1 =>
    Sts [.int .i64 r69] (a_1.add 9) 0 w4 fun w5 =>
    conn_Conn_ack.Call c w5 fun r73_0 r73_1 r73_2 r73_3 r73_4 r73_5 r73_6_b r73_6_l r73_6_c w6 =>
    New (.cells #[.int .i64 (0 : Int), .int .i64 (0 : Int), .int .i64 (0 : Int), .int .i64 (0 : Int), .int .i64 (0 : Int), .int .i64 (0 : Int), .slice none 0 0] 177) w6 fun a_ w7 =>
    Sts [.int .i64 r73_0, .int .i64 r73_1, .int .i64 r73_2, .int .i64 r73_3, .int .i64 r73_4, .int .i64 r73_5, .slice r73_6_b r73_6_l r73_6_c] ⟨a_, 0, none⟩ 0 w7 fun w8 =>
    LdI .i64 ⟨a_, 0, none⟩ w8 fun x74_0 =>
    LdI .i64 ⟨a_, 1, none⟩ w8 fun x74_1 =>
    LdI .i64 ⟨a_, 2, none⟩ w8 fun x74_2 =>
    LdI .i64 ⟨a_, 3, none⟩ w8 fun x74_3 =>
    LdI .i64 ⟨a_, 4, none⟩ w8 fun x74_4 =>
    LdI .i64 ⟨a_, 5, none⟩ w8 fun x74_5 =>
    LdL ⟨a_, 6, none⟩ w8 fun x74_6_b x74_6_l x74_6_c =>
    conn_one.Call x74_0 x74_1 x74_2 x74_3 x74_4 x74_5 x74_6_b x74_6_l x74_6_c w8 fun r75_b r75_l r75_c w9 =>
    R r75_b r75_l r75_c w9)
theorem conn_Conn_inSynSent.B2_eq (c : Option Addr) (s : Nat) (none0_b : Option Addr) (none0_l none0_c : Nat) (t53 : Bool) (w : World)   (R : Option Addr → Nat → Nat → World → Prop)  :
    (
  Bm t53 (
    R none0_b none0_l none0_c w) (
    conn_Conn_opened.Call c w fun w1 =>
    LdI .i64 ⟨s, 2, none⟩ w1 fun x58 =>
    api_SeqAdd.Call x58 (1 : Int) w1 fun r59 w2 =>
    Pn c fun a =>
    LdP (a.add 1) w2 fun x63 =>
    seg_RecvBuf_Reset.Call x63 r59 w2 fun w3 =>
    LdI .i64 ⟨s, 5, none⟩ w3 fun x68 =>
    conn_window.Call x68 w3 fun r69 w4 =>
    Pn c fun a_1 =>
    Sts [.int .i64 r69] (a_1.add 9) 0 w4 fun w5 =>
    conn_Conn_ack.Call c w5 fun r73_0 r73_1 r73_2 r73_3 r73_4 r73_5 r73_6_b r73_6_l r73_6_c w6 =>
    New (.cells #[.int .i64 (0 : Int), .int .i64 (0 : Int), .int .i64 (0 : Int), .int .i64 (0 : Int), .int .i64 (0 : Int), .int .i64 (0 : Int), .slice none 0 0] 177) w6 fun a_ w7 =>
    Sts [.int .i64 r73_0, .int .i64 r73_1, .int .i64 r73_2, .int .i64 r73_3, .int .i64 r73_4, .int .i64 r73_5, .slice r73_6_b r73_6_l r73_6_c] ⟨a_, 0, none⟩ 0 w7 fun w8 =>
    LdI .i64 ⟨a_, 0, none⟩ w8 fun x74_0 =>
    LdI .i64 ⟨a_, 1, none⟩ w8 fun x74_1 =>
    LdI .i64 ⟨a_, 2, none⟩ w8 fun x74_2 =>
    LdI .i64 ⟨a_, 3, none⟩ w8 fun x74_3 =>
    LdI .i64 ⟨a_, 4, none⟩ w8 fun x74_4 =>
    LdI .i64 ⟨a_, 5, none⟩ w8 fun x74_5 =>
    LdL ⟨a_, 6, none⟩ w8 fun x74_6_b x74_6_l x74_6_c =>
    conn_one.Call x74_0 x74_1 x74_2 x74_3 x74_4 x74_5 x74_6_b x74_6_l x74_6_c w8 fun r75_b r75_l r75_c w9 =>
    R r75_b r75_l r75_c w9)) = kstep Tryz.prog 76 Tryz.f193.results.toList (Tryz.f193.body.getD .skip) (conn_Conn_inSynSent.RV R) (kvc Tryz.prog 76 Tryz.f193.results.toList (Tryz.f193.body.getD .skip) (conn_Conn_inSynSent.RV R) [] 2000) [(0, [1, 1, 1, 1, 1, 1, 0, 1]), (0, [1, 1, 1, 1, 1, 1, 1])] [(0, .pointer c), (3, .pointer (some ⟨s, 0, none⟩)), (5, .slice none0_b none0_l none0_c), (53, .bool t53)] w := by kernel_rfl
theorem conn_Conn_inSynSent.B2_sound {R : Option Addr → Nat → Nat → World → Prop}  (c : Option Addr) (s : Nat) (none0_b : Option Addr) (none0_l none0_c : Nat) (t53 : Bool) (w : World) (h : conn_Conn_inSynSent.B2 c s none0_b none0_l none0_c t53 w   R) :
    KW Tryz.prog 193 76 (conn_Conn_inSynSent.RV R) ([(0, [1, 1, 1, 1, 1, 1, 0, 1]), (0, [1, 1, 1, 1, 1, 1, 1])].map (toItem (Tryz.f193.body.getD .skip))) [(0, .pointer c), (3, .pointer (some ⟨s, 0, none⟩)), (5, .slice none0_b none0_l none0_c), (53, .bool t53)] w := by
  exact block_spec Tryz.func193 Tryz.mixed stops_nil (Eq.mp (conn_Conn_inSynSent.B2_eq c s none0_b none0_l none0_c t53 w   R ) h)
def conn_Conn_inSynSent.B1 (c : Option Addr) (s : Nat) (none0_b : Option Addr) (none0_l none0_c : Nat) (acks t27 : Bool) (w : World)   (R : Option Addr → Nat → Nat → World → Prop) : Prop :=
  Bm t27 (
    LdI .i64 ⟨s, 4, none⟩ w fun x29 =>
    Bm ((IntKind.i64.wrap (BitVec.ofInt IntKind.i64.bits x29 &&& BitVec.ofInt IntKind.i64.bits (8 : Int)).toNat) != (0 : Int)) (
      R none0_b none0_l none0_c w) (
      LdI .i64 ⟨s, 3, none⟩ w fun x34 =>
      conn_rst.Call x34 w fun r35_0 r35_1 r35_2 r35_3 r35_4 r35_5 r35_6_b r35_6_l r35_6_c w1 =>
      New (.cells #[.int .i64 (0 : Int), .int .i64 (0 : Int), .int .i64 (0 : Int), .int .i64 (0 : Int), .int .i64 (0 : Int), .int .i64 (0 : Int), .slice none 0 0] 177) w1 fun r_ w2 =>
      Sts [.int .i64 r35_0, .int .i64 r35_1, .int .i64 r35_2, .int .i64 r35_3, .int .i64 r35_4, .int .i64 r35_5, .slice r35_6_b r35_6_l r35_6_c] ⟨r_, 0, none⟩ 0 w2 fun w3 =>
      LdI .i64 ⟨r_, 0, none⟩ w3 fun x36_0 =>
      LdI .i64 ⟨r_, 1, none⟩ w3 fun x36_1 =>
      LdI .i64 ⟨r_, 2, none⟩ w3 fun x36_2 =>
      LdI .i64 ⟨r_, 3, none⟩ w3 fun x36_3 =>
      LdI .i64 ⟨r_, 4, none⟩ w3 fun x36_4 =>
      LdI .i64 ⟨r_, 5, none⟩ w3 fun x36_5 =>
      LdL ⟨r_, 6, none⟩ w3 fun x36_6_b x36_6_l x36_6_c =>
      conn_one.Call x36_0 x36_1 x36_2 x36_3 x36_4 x36_5 x36_6_b x36_6_l x36_6_c w3 fun r37_b r37_l r37_c w4 =>
      R r37_b r37_l r37_c w4)) (
    LdI .i64 ⟨s, 4, none⟩ w fun x39 =>
    Bm ((IntKind.i64.wrap (BitVec.ofInt IntKind.i64.bits x39 &&& BitVec.ofInt IntKind.i64.bits (8 : Int)).toNat) != (0 : Int)) (
      Bm acks (
        conn_Conn_fail.Call c (18 : Int) w fun w5 =>
        R none0_b none0_l none0_c w5) (
        R none0_b none0_l none0_c w)) (
      LdI .i64 ⟨s, 4, none⟩ w fun x47 =>
      Bm ((IntKind.i64.wrap (BitVec.ofInt IntKind.i64.bits x47 &&& BitVec.ofInt IntKind.i64.bits (1 : Int)).toNat) == (0 : Int)) (
        conn_Conn_inSynSent.B2 c s none0_b none0_l none0_c true w  R) (
        conn_Conn_inSynSent.B2 c s none0_b none0_l none0_c (!acks) w  R)))
theorem conn_Conn_inSynSent.B1_eq (c : Option Addr) (s : Nat) (none0_b : Option Addr) (none0_l none0_c : Nat) (acks t27 : Bool) (w : World)   (R : Option Addr → Nat → Nat → World → Prop) (sB2 : Option Addr → Nat → Option Addr → Nat → Nat → Bool → World → Prop) :
    (
  Bm t27 (
    LdI .i64 ⟨s, 4, none⟩ w fun x29 =>
    Bm ((IntKind.i64.wrap (BitVec.ofInt IntKind.i64.bits x29 &&& BitVec.ofInt IntKind.i64.bits (8 : Int)).toNat) != (0 : Int)) (
      R none0_b none0_l none0_c w) (
      LdI .i64 ⟨s, 3, none⟩ w fun x34 =>
      conn_rst.Call x34 w fun r35_0 r35_1 r35_2 r35_3 r35_4 r35_5 r35_6_b r35_6_l r35_6_c w1 =>
      New (.cells #[.int .i64 (0 : Int), .int .i64 (0 : Int), .int .i64 (0 : Int), .int .i64 (0 : Int), .int .i64 (0 : Int), .int .i64 (0 : Int), .slice none 0 0] 177) w1 fun r_ w2 =>
      Sts [.int .i64 r35_0, .int .i64 r35_1, .int .i64 r35_2, .int .i64 r35_3, .int .i64 r35_4, .int .i64 r35_5, .slice r35_6_b r35_6_l r35_6_c] ⟨r_, 0, none⟩ 0 w2 fun w3 =>
      LdI .i64 ⟨r_, 0, none⟩ w3 fun x36_0 =>
      LdI .i64 ⟨r_, 1, none⟩ w3 fun x36_1 =>
      LdI .i64 ⟨r_, 2, none⟩ w3 fun x36_2 =>
      LdI .i64 ⟨r_, 3, none⟩ w3 fun x36_3 =>
      LdI .i64 ⟨r_, 4, none⟩ w3 fun x36_4 =>
      LdI .i64 ⟨r_, 5, none⟩ w3 fun x36_5 =>
      LdL ⟨r_, 6, none⟩ w3 fun x36_6_b x36_6_l x36_6_c =>
      conn_one.Call x36_0 x36_1 x36_2 x36_3 x36_4 x36_5 x36_6_b x36_6_l x36_6_c w3 fun r37_b r37_l r37_c w4 =>
      R r37_b r37_l r37_c w4)) (
    LdI .i64 ⟨s, 4, none⟩ w fun x39 =>
    Bm ((IntKind.i64.wrap (BitVec.ofInt IntKind.i64.bits x39 &&& BitVec.ofInt IntKind.i64.bits (8 : Int)).toNat) != (0 : Int)) (
      Bm acks (
        conn_Conn_fail.Call c (18 : Int) w fun w5 =>
        R none0_b none0_l none0_c w5) (
        R none0_b none0_l none0_c w)) (
      LdI .i64 ⟨s, 4, none⟩ w fun x47 =>
      Bm ((IntKind.i64.wrap (BitVec.ofInt IntKind.i64.bits x47 &&& BitVec.ofInt IntKind.i64.bits (1 : Int)).toNat) == (0 : Int)) (
        sB2 c s none0_b none0_l none0_c true w) (
        sB2 c s none0_b none0_l none0_c (!acks) w)))) = kstep Tryz.prog 76 Tryz.f193.results.toList (Tryz.f193.body.getD .skip) (conn_Conn_inSynSent.RV R) (kvc Tryz.prog 76 Tryz.f193.results.toList (Tryz.f193.body.getD .skip) (conn_Conn_inSynSent.RV R) [([(0, [1, 1, 1, 1, 1, 1, 0, 1]), (0, [1, 1, 1, 1, 1, 1, 1])], fun σ w => dP (slotOf σ 0) fun c_ => dK (slotOf σ 3) fun s_ => dL (slotOf σ 5) fun none0_b_ none0_l_ none0_c_ => dB (slotOf σ 53) fun t53_ => sB2 c_ s_ none0_b_ none0_l_ none0_c_ t53_ w)] 2000) [(0, [1, 1, 1, 1, 0, 1]), (0, [1, 1, 1, 1, 1])] [(0, .pointer c), (3, .pointer (some ⟨s, 0, none⟩)), (5, .slice none0_b none0_l none0_c), (7, .bool acks), (27, .bool t27)] w := by kernel_rfl
theorem conn_Conn_inSynSent.B1_sound {R : Option Addr → Nat → Nat → World → Prop}  (c : Option Addr) (s : Nat) (none0_b : Option Addr) (none0_l none0_c : Nat) (acks t27 : Bool) (w : World) (h : conn_Conn_inSynSent.B1 c s none0_b none0_l none0_c acks t27 w   R) :
    KW Tryz.prog 193 76 (conn_Conn_inSynSent.RV R) ([(0, [1, 1, 1, 1, 0, 1]), (0, [1, 1, 1, 1, 1])].map (toItem (Tryz.f193.body.getD .skip))) [(0, .pointer c), (3, .pointer (some ⟨s, 0, none⟩)), (5, .slice none0_b none0_l none0_c), (7, .bool acks), (27, .bool t27)] w := by
  exact block_spec Tryz.func193 Tryz.mixed (stops_cons (fun σ w h => by
      obtain ⟨c_, e0, h⟩ := dP_elim h
      obtain ⟨s_, e1, h⟩ := dK_elim h
      obtain ⟨none0_b_, none0_l_, none0_c_, e2, h⟩ := dL_elim h
      obtain ⟨t53_, e3, h⟩ := dB_elim h
      exact (conn_Conn_inSynSent.B2_sound  c_ s_ none0_b_ none0_l_ none0_c_ t53_ w h).weaken (Sub.cons (Sub.cons (Sub.cons (Sub.cons (Sub.nil _) e3) e2) e1) e0)) stops_nil) (Eq.mp (conn_Conn_inSynSent.B1_eq c s none0_b none0_l none0_c acks t27 w   R (fun c_ s_ none0_b_ none0_l_ none0_c_ t53_ w => conn_Conn_inSynSent.B2 c_ s_ none0_b_ none0_l_ none0_c_ t53_ w  R)) h)
def conn_Conn_inSynSent.B0 (c : Option Addr) (s_0 s_1 s_2 s_3 s_4 s_5 : Int) (s_6_b : Option Addr) (s_6_l s_6_c : Nat) (w : World)   (R : Option Addr → Nat → Nat → World → Prop) : Prop :=
  New (.cells #[.int .i64 s_0, .int .i64 s_1, .int .i64 s_2, .int .i64 s_3, .int .i64 s_4, .int .i64 s_5, .slice s_6_b s_6_l s_6_c] 177) w fun s_ w1 =>
  New (.cells #[] 177) w1 fun b11 w2 =>
  Pn c fun a =>
  LdI .i64 (a.add 8) w2 fun x15 =>
  api_SeqAdd.Call x15 (1 : Int) w2 fun r16 w3 =>
  LdI .i64 ⟨s_, 4, none⟩ w3 fun x18 =>
  Bm ((IntKind.i64.wrap (BitVec.ofInt IntKind.i64.bits x18 &&& BitVec.ofInt IntKind.i64.bits (2 : Int)).toNat) != (0 : Int)) (
    LdI .i64 ⟨s_, 3, none⟩ w3 fun x24 =>
    conn_Conn_inSynSent.B1 c s_ (some ⟨b11, 0, none⟩) 0 0 ((IntKind.i64.wrap (BitVec.ofInt IntKind.i64.bits x18 &&& BitVec.ofInt IntKind.i64.bits (2 : Int)).toNat) != (0 : Int)) (x24 != r16) w3  R) (
    conn_Conn_inSynSent.B1 c s_ (some ⟨b11, 0, none⟩) 0 0 ((IntKind.i64.wrap (BitVec.ofInt IntKind.i64.bits x18 &&& BitVec.ofInt IntKind.i64.bits (2 : Int)).toNat) != (0 : Int)) false w3  R)
theorem conn_Conn_inSynSent.B0_eq (c : Option Addr) (s_0 s_1 s_2 s_3 s_4 s_5 : Int) (s_6_b : Option Addr) (s_6_l s_6_c : Nat) (w : World)   (R : Option Addr → Nat → Nat → World → Prop) (sB1 : Option Addr → Nat → Option Addr → Nat → Nat → Bool → Bool → World → Prop) :
    (
  New (.cells #[.int .i64 s_0, .int .i64 s_1, .int .i64 s_2, .int .i64 s_3, .int .i64 s_4, .int .i64 s_5, .slice s_6_b s_6_l s_6_c] 177) w fun s_ w1 =>
  New (.cells #[] 177) w1 fun b11 w2 =>
  Pn c fun a =>
  LdI .i64 (a.add 8) w2 fun x15 =>
  api_SeqAdd.Call x15 (1 : Int) w2 fun r16 w3 =>
  LdI .i64 ⟨s_, 4, none⟩ w3 fun x18 =>
  Bm ((IntKind.i64.wrap (BitVec.ofInt IntKind.i64.bits x18 &&& BitVec.ofInt IntKind.i64.bits (2 : Int)).toNat) != (0 : Int)) (
    LdI .i64 ⟨s_, 3, none⟩ w3 fun x24 =>
    sB1 c s_ (some ⟨b11, 0, none⟩) 0 0 ((IntKind.i64.wrap (BitVec.ofInt IntKind.i64.bits x18 &&& BitVec.ofInt IntKind.i64.bits (2 : Int)).toNat) != (0 : Int)) (x24 != r16) w3) (
    sB1 c s_ (some ⟨b11, 0, none⟩) 0 0 ((IntKind.i64.wrap (BitVec.ofInt IntKind.i64.bits x18 &&& BitVec.ofInt IntKind.i64.bits (2 : Int)).toNat) != (0 : Int)) false w3)) = kstep Tryz.prog 76 Tryz.f193.results.toList (Tryz.f193.body.getD .skip) (conn_Conn_inSynSent.RV R) (kvc Tryz.prog 76 Tryz.f193.results.toList (Tryz.f193.body.getD .skip) (conn_Conn_inSynSent.RV R) [([(0, [1, 1, 1, 1, 0, 1]), (0, [1, 1, 1, 1, 1])], fun σ w => dP (slotOf σ 0) fun c_ => dK (slotOf σ 3) fun s_ => dL (slotOf σ 5) fun none0_b_ none0_l_ none0_c_ => dB (slotOf σ 7) fun acks_ => dB (slotOf σ 27) fun t27_ => sB1 c_ s_ none0_b_ none0_l_ none0_c_ acks_ t27_ w)] 2000) [(0, [])] [(0, .pointer c), (1, .agg #[.int .i64 s_0, .int .i64 s_1, .int .i64 s_2, .int .i64 s_3, .int .i64 s_4, .int .i64 s_5, .slice s_6_b s_6_l s_6_c])] w := by kernel_rfl
theorem conn_Conn_inSynSent.B0_sound {R : Option Addr → Nat → Nat → World → Prop}  (c : Option Addr) (s_0 s_1 s_2 s_3 s_4 s_5 : Int) (s_6_b : Option Addr) (s_6_l s_6_c : Nat) (w : World) (h : conn_Conn_inSynSent.B0 c s_0 s_1 s_2 s_3 s_4 s_5 s_6_b s_6_l s_6_c w   R) :
    KW Tryz.prog 193 76 (conn_Conn_inSynSent.RV R) ([(0, [])].map (toItem (Tryz.f193.body.getD .skip))) [(0, .pointer c), (1, .agg #[.int .i64 s_0, .int .i64 s_1, .int .i64 s_2, .int .i64 s_3, .int .i64 s_4, .int .i64 s_5, .slice s_6_b s_6_l s_6_c])] w := by
  exact block_spec Tryz.func193 Tryz.mixed (stops_cons (fun σ w h => by
      obtain ⟨c_, e0, h⟩ := dP_elim h
      obtain ⟨s_, e1, h⟩ := dK_elim h
      obtain ⟨none0_b_, none0_l_, none0_c_, e2, h⟩ := dL_elim h
      obtain ⟨acks_, e3, h⟩ := dB_elim h
      obtain ⟨t27_, e4, h⟩ := dB_elim h
      exact (conn_Conn_inSynSent.B1_sound  c_ s_ none0_b_ none0_l_ none0_c_ acks_ t27_ w h).weaken (Sub.cons (Sub.cons (Sub.cons (Sub.cons (Sub.cons (Sub.nil _) e4) e3) e2) e1) e0)) stops_nil) (Eq.mp (conn_Conn_inSynSent.B0_eq c s_0 s_1 s_2 s_3 s_4 s_5 s_6_b s_6_l s_6_c w   R (fun c_ s_ none0_b_ none0_l_ none0_c_ acks_ t27_ w => conn_Conn_inSynSent.B1 c_ s_ none0_b_ none0_l_ none0_c_ acks_ t27_ w  R)) h)
theorem conn_Conn_inSynSent.sound (c : Option Addr) (s_0 s_1 s_2 s_3 s_4 s_5 : Int) (s_6_b : Option Addr) (s_6_l s_6_c : Nat) (w : World) (R : Option Addr → Nat → Nat → World → Prop) (h : conn_Conn_inSynSent.B0 c s_0 s_1 s_2 s_3 s_4 s_5 s_6_b s_6_l s_6_c w R) : conn_Conn_inSynSent.Call c s_0 s_1 s_2 s_3 s_4 s_5 s_6_b s_6_l s_6_c w R := by
  have hc := calls_of_block (args := #[.pointer c, .agg #[.int .i64 s_0, .int .i64 s_1, .int .i64 s_2, .int .i64 s_3, .int .i64 s_4, .int .i64 s_5, .slice s_6_b s_6_l s_6_c]]) Tryz.func193 (body := (Tryz.f193.body.getD .skip)) (by kernel_rfl) (by kernel_rfl) (args_slot _) (conn_Conn_inSynSent.B0_sound c s_0 s_1 s_2 s_3 s_4 s_5 s_6_b s_6_l s_6_c w h)
  exact hc.mono fun e w' he => by
    obtain ⟨v, rfl, hv⟩ := he
    exact conn_Conn_inSynSent.RV_elim hv
def conn_Conn_inSync.B1 (c none0_b : Option Addr) (none0_l none0_c : Nat) (t31 : Bool) (w : World)   (R : Option Addr → Nat → Nat → World → Prop) : Prop :=
  Bm t31 (
    conn_Conn_fail.Call c (17 : Int) w fun w1 =>
    R none0_b none0_l none0_c w1) (
    R none0_b none0_l none0_c w)
theorem conn_Conn_inSync.B1_eq (c none0_b : Option Addr) (none0_l none0_c : Nat) (t31 : Bool) (w : World)   (R : Option Addr → Nat → Nat → World → Prop)  :
    (
  Bm t31 (
    conn_Conn_fail.Call c (17 : Int) w fun w1 =>
    R none0_b none0_l none0_c w1) (
    R none0_b none0_l none0_c w)) = kstep Tryz.prog 139 Tryz.f194.results.toList (Tryz.f194.body.getD .skip) (conn_Conn_inSync.RV R) (kvc Tryz.prog 139 Tryz.f194.results.toList (Tryz.f194.body.getD .skip) (conn_Conn_inSync.RV R) [] 2000) [(0, [1, 1, 0, 1, 0, 1, 1, 0, 1]), (0, [1, 1, 0, 1, 0, 1, 1, 1]), (0, [1, 1, 1])] [(0, .pointer c), (5, .slice none0_b none0_l none0_c), (31, .bool t31)] w := by kernel_rfl
theorem conn_Conn_inSync.B1_sound {R : Option Addr → Nat → Nat → World → Prop}  (c none0_b : Option Addr) (none0_l none0_c : Nat) (t31 : Bool) (w : World) (h : conn_Conn_inSync.B1 c none0_b none0_l none0_c t31 w   R) :
    KW Tryz.prog 194 139 (conn_Conn_inSync.RV R) ([(0, [1, 1, 0, 1, 0, 1, 1, 0, 1]), (0, [1, 1, 0, 1, 0, 1, 1, 1]), (0, [1, 1, 1])].map (toItem (Tryz.f194.body.getD .skip))) [(0, .pointer c), (5, .slice none0_b none0_l none0_c), (31, .bool t31)] w := by
  exact block_spec Tryz.func194 Tryz.mixed stops_nil (Eq.mp (conn_Conn_inSync.B1_eq c none0_b none0_l none0_c t31 w   R ) h)
def conn_Conn_inSync.B5 (c out_b : Option Addr) (out_l out_c : Nat) (t119 : Bool) (w : World)   (R : Option Addr → Nat → Nat → World → Prop) : Prop :=
  Bm t119 (
    Pn c fun a =>
    Sts [.int .i64 (4 : Int)] (a.add 2) 0 w fun w1 =>
    Pn c fun a_1 =>
    Sts [.int .i64 (10 : Int)] (a_1.add 13) 0 w1 fun w2 =>
    Pn c fun a_2 =>
    Sts [.int .i64 (0 : Int)] (a_2.add 10) 0 w2 fun w3 =>
    Pn c fun a_3 =>
    Sts [.int .i64 (0 : Int)] (a_3.add 11) 0 w3 fun w4 =>
    Pn c fun a_4 =>
    Sts [.int .i64 (0 : Int)] (a_4.add 12) 0 w4 fun w5 =>
    Pn c fun a_5 =>
    Sts [.int .i64 (0 : Int)] (a_5.add 9) 0 w5 fun w6 =>
    R out_b out_l out_c w6) (
    R out_b out_l out_c w)
theorem conn_Conn_inSync.B5_eq (c out_b : Option Addr) (out_l out_c : Nat) (t119 : Bool) (w : World)   (R : Option Addr → Nat → Nat → World → Prop)  :
    (
  Bm t119 (
    Pn c fun a =>
    Sts [.int .i64 (4 : Int)] (a.add 2) 0 w fun w1 =>
    Pn c fun a_1 =>
    Sts [.int .i64 (10 : Int)] (a_1.add 13) 0 w1 fun w2 =>
    Pn c fun a_2 =>
    Sts [.int .i64 (0 : Int)] (a_2.add 10) 0 w2 fun w3 =>
    Pn c fun a_3 =>
    Sts [.int .i64 (0 : Int)] (a_3.add 11) 0 w3 fun w4 =>
    Pn c fun a_4 =>
    Sts [.int .i64 (0 : Int)] (a_4.add 12) 0 w4 fun w5 =>
    Pn c fun a_5 =>
    Sts [.int .i64 (0 : Int)] (a_5.add 9) 0 w5 fun w6 =>
    R out_b out_l out_c w6) (
    R out_b out_l out_c w)) = kstep Tryz.prog 139 Tryz.f194.results.toList (Tryz.f194.body.getD .skip) (conn_Conn_inSync.RV R) (kvc Tryz.prog 139 Tryz.f194.results.toList (Tryz.f194.body.getD .skip) (conn_Conn_inSync.RV R) [] 2000) [(0, [1, 1, 1, 1, 1, 1, 1, 1, 1, 1, 1, 0, 1]), (0, [1, 1, 1, 1, 1, 1, 1, 1, 1, 1, 1, 1])] [(0, .pointer c), (12, .slice out_b out_l out_c), (119, .bool t119)] w := by kernel_rfl
theorem conn_Conn_inSync.B5_sound {R : Option Addr → Nat → Nat → World → Prop}  (c out_b : Option Addr) (out_l out_c : Nat) (t119 : Bool) (w : World) (h : conn_Conn_inSync.B5 c out_b out_l out_c t119 w   R) :
    KW Tryz.prog 194 139 (conn_Conn_inSync.RV R) ([(0, [1, 1, 1, 1, 1, 1, 1, 1, 1, 1, 1, 0, 1]), (0, [1, 1, 1, 1, 1, 1, 1, 1, 1, 1, 1, 1])].map (toItem (Tryz.f194.body.getD .skip))) [(0, .pointer c), (12, .slice out_b out_l out_c), (119, .bool t119)] w := by
  exact block_spec Tryz.func194 Tryz.mixed stops_nil (Eq.mp (conn_Conn_inSync.B5_eq c out_b out_l out_c t119 w   R ) h)
def conn_Conn_inSync.B4 (c out_b : Option Addr) (out_l out_c : Nat) (w : World)   (R : Option Addr → Nat → Nat → World → Prop) : Prop :=
  conn_Conn_pump.Call c w fun r106_b r106_l r106_c w1 =>
  Append 177 (.agg #[.int .i64 (0 : Int), .int .i64 (0 : Int), .int .i64 (0 : Int), .int .i64 (0 : Int), .int .i64 (0 : Int), .int .i64 (0 : Int), .slice none 0 0]) 7 72 out_b out_l out_c r106_b r106_l w1 fun b109 c109 w2 =>
  Pn c fun a =>
  LdB (a.add 6) w2 fun x113 =>
  Bm x113 (
    Pn c fun a_1 =>
    LdB (a_1.add 7) w2 fun x118 =>
    conn_Conn_inSync.B5 c b109 (out_l + r106_l) c109 x118 w2  R) (
    conn_Conn_inSync.B5 c b109 (out_l + r106_l) c109 false w2  R)
theorem conn_Conn_inSync.B4_eq (c out_b : Option Addr) (out_l out_c : Nat) (w : World)   (R : Option Addr → Nat → Nat → World → Prop) (sB5 : Option Addr → Option Addr → Nat → Nat → Bool → World → Prop) :
    (
  conn_Conn_pump.Call c w fun r106_b r106_l r106_c w1 =>
  Append 177 (.agg #[.int .i64 (0 : Int), .int .i64 (0 : Int), .int .i64 (0 : Int), .int .i64 (0 : Int), .int .i64 (0 : Int), .int .i64 (0 : Int), .slice none 0 0]) 7 72 out_b out_l out_c r106_b r106_l w1 fun b109 c109 w2 =>
  Pn c fun a =>
  LdB (a.add 6) w2 fun x113 =>
  Bm x113 (
    Pn c fun a_1 =>
    LdB (a_1.add 7) w2 fun x118 =>
    sB5 c b109 (out_l + r106_l) c109 x118 w2) (
    sB5 c b109 (out_l + r106_l) c109 false w2)) = kstep Tryz.prog 139 Tryz.f194.results.toList (Tryz.f194.body.getD .skip) (conn_Conn_inSync.RV R) (kvc Tryz.prog 139 Tryz.f194.results.toList (Tryz.f194.body.getD .skip) (conn_Conn_inSync.RV R) [([(0, [1, 1, 1, 1, 1, 1, 1, 1, 1, 1, 1, 0, 1]), (0, [1, 1, 1, 1, 1, 1, 1, 1, 1, 1, 1, 1])], fun σ w => dP (slotOf σ 0) fun c_ => dL (slotOf σ 12) fun out_b_ out_l_ out_c_ => dB (slotOf σ 119) fun t119_ => sB5 c_ out_b_ out_l_ out_c_ t119_ w)] 2000) [(0, [1, 1, 1, 1, 1, 1, 1, 1, 1])] [(0, .pointer c), (12, .slice out_b out_l out_c)] w := by kernel_rfl
theorem conn_Conn_inSync.B4_sound {R : Option Addr → Nat → Nat → World → Prop}  (c out_b : Option Addr) (out_l out_c : Nat) (w : World) (h : conn_Conn_inSync.B4 c out_b out_l out_c w   R) :
    KW Tryz.prog 194 139 (conn_Conn_inSync.RV R) ([(0, [1, 1, 1, 1, 1, 1, 1, 1, 1])].map (toItem (Tryz.f194.body.getD .skip))) [(0, .pointer c), (12, .slice out_b out_l out_c)] w := by
  exact block_spec Tryz.func194 Tryz.mixed (stops_cons (fun σ w h => by
      obtain ⟨c_, e0, h⟩ := dP_elim h
      obtain ⟨out_b_, out_l_, out_c_, e1, h⟩ := dL_elim h
      obtain ⟨t119_, e2, h⟩ := dB_elim h
      exact (conn_Conn_inSync.B5_sound  c_ out_b_ out_l_ out_c_ t119_ w h).weaken (Sub.cons (Sub.cons (Sub.cons (Sub.nil _) e2) e1) e0)) stops_nil) (Eq.mp (conn_Conn_inSync.B4_eq c out_b out_l out_c w   R (fun c_ out_b_ out_l_ out_c_ t119_ w => conn_Conn_inSync.B5 c_ out_b_ out_l_ out_c_ t119_ w  R)) h)
def conn_Conn_inSync.B3 (c : Option Addr) (s : Nat) (out_b : Option Addr) (out_l out_c : Nat) (t95 : Bool) (w : World)   (R : Option Addr → Nat → Nat → World → Prop) : Prop :=
  Bm t95 (
    LdI .i64 ⟨s, 0, none⟩ w fun x97_0 =>
    LdI .i64 ⟨s, 1, none⟩ w fun x97_1 =>
    LdI .i64 ⟨s, 2, none⟩ w fun x97_2 =>
    LdI .i64 ⟨s, 3, none⟩ w fun x97_3 =>
    LdI .i64 ⟨s, 4, none⟩ w fun x97_4 =>
    LdI .i64 ⟨s, 5, none⟩ w fun x97_5 =>
    LdL ⟨s, 6, none⟩ w fun x97_6_b x97_6_l x97_6_c =>
    conn_Conn_take.Call c x97_0 x97_1 x97_2 x97_3 x97_4 x97_5 x97_6_b x97_6_l x97_6_c w fun w1 =>
    conn_Conn_ack.Call c w1 fun r100_0 r100_1 r100_2 r100_3 r100_4 r100_5 r100_6_b r100_6_l r100_6_c w2 =>
    New (.cells #[.int .i64 (0 : Int), .int .i64 (0 : Int), .int .i64 (0 : Int), .int .i64 (0 : Int), .int .i64 (0 : Int), .int .i64 (0 : Int), .slice none 0 0] 177) w2 fun a_ w3 =>
    Sts [.int .i64 r100_0, .int .i64 r100_1, .int .i64 r100_2, .int .i64 r100_3, .int .i64 r100_4, .int .i64 r100_5, .slice r100_6_b r100_6_l r100_6_c] ⟨a_, 0, none⟩ 0 w3 fun w4 =>
    LdI .i64 ⟨a_, 0, none⟩ w4 fun x102_0 =>
    LdI .i64 ⟨a_, 1, none⟩ w4 fun x102_1 =>
    LdI .i64 ⟨a_, 2, none⟩ w4 fun x102_2 =>
    LdI .i64 ⟨a_, 3, none⟩ w4 fun x102_3 =>
    LdI .i64 ⟨a_, 4, none⟩ w4 fun x102_4 =>
    LdI .i64 ⟨a_, 5, none⟩ w4 fun x102_5 =>
    LdL ⟨a_, 6, none⟩ w4 fun x102_6_b x102_6_l x102_6_c =>
    New (.cells #[.int .i64 x102_0, .int .i64 x102_1, .int .i64 x102_2, .int .i64 x102_3, .int .i64 x102_4, .int .i64 x102_5, .slice x102_6_b x102_6_l x102_6_c] 177) w4 fun b103 w5 =>
    Append 177 (.agg #[.int .i64 (0 : Int), .int .i64 (0 : Int), .int .i64 (0 : Int), .int .i64 (0 : Int), .int .i64 (0 : Int), .int .i64 (0 : Int), .slice none 0 0]) 7 72 out_b out_l out_c (some ⟨b103, 0, none⟩) 1 w5 fun b104 c104 w6 =>
    conn_Conn_inSync.B4 c b104 (out_l + 1) c104 w6  R) (
    conn_Conn_inSync.B4 c out_b out_l out_c w  R)
theorem conn_Conn_inSync.B3_eq (c : Option Addr) (s : Nat) (out_b : Option Addr) (out_l out_c : Nat) (t95 : Bool) (w : World)   (R : Option Addr → Nat → Nat → World → Prop) (sB4 : Option Addr → Option Addr → Nat → Nat → World → Prop) :
    (
  Bm t95 (
    LdI .i64 ⟨s, 0, none⟩ w fun x97_0 =>
    LdI .i64 ⟨s, 1, none⟩ w fun x97_1 =>
    LdI .i64 ⟨s, 2, none⟩ w fun x97_2 =>
    LdI .i64 ⟨s, 3, none⟩ w fun x97_3 =>
    LdI .i64 ⟨s, 4, none⟩ w fun x97_4 =>
    LdI .i64 ⟨s, 5, none⟩ w fun x97_5 =>
    LdL ⟨s, 6, none⟩ w fun x97_6_b x97_6_l x97_6_c =>
    conn_Conn_take.Call c x97_0 x97_1 x97_2 x97_3 x97_4 x97_5 x97_6_b x97_6_l x97_6_c w fun w1 =>
    conn_Conn_ack.Call c w1 fun r100_0 r100_1 r100_2 r100_3 r100_4 r100_5 r100_6_b r100_6_l r100_6_c w2 =>
    New (.cells #[.int .i64 (0 : Int), .int .i64 (0 : Int), .int .i64 (0 : Int), .int .i64 (0 : Int), .int .i64 (0 : Int), .int .i64 (0 : Int), .slice none 0 0] 177) w2 fun a_ w3 =>
    Sts [.int .i64 r100_0, .int .i64 r100_1, .int .i64 r100_2, .int .i64 r100_3, .int .i64 r100_4, .int .i64 r100_5, .slice r100_6_b r100_6_l r100_6_c] ⟨a_, 0, none⟩ 0 w3 fun w4 =>
    LdI .i64 ⟨a_, 0, none⟩ w4 fun x102_0 =>
    LdI .i64 ⟨a_, 1, none⟩ w4 fun x102_1 =>
    LdI .i64 ⟨a_, 2, none⟩ w4 fun x102_2 =>
    LdI .i64 ⟨a_, 3, none⟩ w4 fun x102_3 =>
    LdI .i64 ⟨a_, 4, none⟩ w4 fun x102_4 =>
    LdI .i64 ⟨a_, 5, none⟩ w4 fun x102_5 =>
    LdL ⟨a_, 6, none⟩ w4 fun x102_6_b x102_6_l x102_6_c =>
    New (.cells #[.int .i64 x102_0, .int .i64 x102_1, .int .i64 x102_2, .int .i64 x102_3, .int .i64 x102_4, .int .i64 x102_5, .slice x102_6_b x102_6_l x102_6_c] 177) w4 fun b103 w5 =>
    Append 177 (.agg #[.int .i64 (0 : Int), .int .i64 (0 : Int), .int .i64 (0 : Int), .int .i64 (0 : Int), .int .i64 (0 : Int), .int .i64 (0 : Int), .slice none 0 0]) 7 72 out_b out_l out_c (some ⟨b103, 0, none⟩) 1 w5 fun b104 c104 w6 =>
    sB4 c b104 (out_l + 1) c104 w6) (
    sB4 c out_b out_l out_c w)) = kstep Tryz.prog 139 Tryz.f194.results.toList (Tryz.f194.body.getD .skip) (conn_Conn_inSync.RV R) (kvc Tryz.prog 139 Tryz.f194.results.toList (Tryz.f194.body.getD .skip) (conn_Conn_inSync.RV R) [([(0, [1, 1, 1, 1, 1, 1, 1, 1, 1])], fun σ w => dP (slotOf σ 0) fun c_ => dL (slotOf σ 12) fun out_b_ out_l_ out_c_ => sB4 c_ out_b_ out_l_ out_c_ w)] 2000) [(0, [1, 1, 1, 1, 1, 1, 1, 1, 0, 1]), (0, [1, 1, 1, 1, 1, 1, 1, 1, 1])] [(0, .pointer c), (3, .pointer (some ⟨s, 0, none⟩)), (12, .slice out_b out_l out_c), (95, .bool t95)] w := by kernel_rfl
theorem conn_Conn_inSync.B3_sound {R : Option Addr → Nat → Nat → World → Prop}  (c : Option Addr) (s : Nat) (out_b : Option Addr) (out_l out_c : Nat) (t95 : Bool) (w : World) (h : conn_Conn_inSync.B3 c s out_b out_l out_c t95 w   R) :
    KW Tryz.prog 194 139 (conn_Conn_inSync.RV R) ([(0, [1, 1, 1, 1, 1, 1, 1, 1, 0, 1]), (0, [1, 1, 1, 1, 1, 1, 1, 1, 1])].map (toItem (Tryz.f194.body.getD .skip))) [(0, .pointer c), (3, .pointer (some ⟨s, 0, none⟩)), (12, .slice out_b out_l out_c), (95, .bool t95)] w := by
  exact block_spec Tryz.func194 Tryz.mixed (stops_cons (fun σ w h => by
      obtain ⟨c_, e0, h⟩ := dP_elim h
      obtain ⟨out_b_, out_l_, out_c_, e1, h⟩ := dL_elim h
      exact (conn_Conn_inSync.B4_sound  c_ out_b_ out_l_ out_c_ w h).weaken (Sub.cons (Sub.cons (Sub.nil _) e1) e0)) stops_nil) (Eq.mp (conn_Conn_inSync.B3_eq c s out_b out_l out_c t95 w   R (fun c_ out_b_ out_l_ out_c_ w => conn_Conn_inSync.B4 c_ out_b_ out_l_ out_c_ w  R)) h)
def conn_Conn_inSync.B2 (c : Option Addr) (s : Nat) (none0_b : Option Addr) (none0_l none0_c : Nat) (w : World)   (R : Option Addr → Nat → Nat → World → Prop) : Prop :=
  LdI .i64 ⟨s, 0, none⟩ w fun x78_0 =>
  LdI .i64 ⟨s, 1, none⟩ w fun x78_1 =>
  LdI .i64 ⟨s, 2, none⟩ w fun x78_2 =>
  LdI .i64 ⟨s, 3, none⟩ w fun x78_3 =>
  LdI .i64 ⟨s, 4, none⟩ w fun x78_4 =>
  LdI .i64 ⟨s, 5, none⟩ w fun x78_5 =>
  LdL ⟨s, 6, none⟩ w fun x78_6_b x78_6_l x78_6_c =>
  conn_Conn_acked.Call c x78_0 x78_1 x78_2 x78_3 x78_4 x78_5 x78_6_b x78_6_l x78_6_c w fun r79 w1 =>
  Bm (!r79) (
    conn_Conn_ack.Call c w1 fun r82_0 r82_1 r82_2 r82_3 r82_4 r82_5 r82_6_b r82_6_l r82_6_c w2 =>
    New (.cells #[.int .i64 (0 : Int), .int .i64 (0 : Int), .int .i64 (0 : Int), .int .i64 (0 : Int), .int .i64 (0 : Int), .int .i64 (0 : Int), .slice none 0 0] 177) w2 fun a_ w3 =>
    Sts [.int .i64 r82_0, .int .i64 r82_1, .int .i64 r82_2, .int .i64 r82_3, .int .i64 r82_4, .int .i64 r82_5, .slice r82_6_b r82_6_l r82_6_c] ⟨a_, 0, none⟩ 0 w3 fun w4 =>
    LdI .i64 ⟨a_, 0, none⟩ w4 fun x83_0 =>
    LdI .i64 ⟨a_, 1, none⟩ w4 fun x83_1 =>
    LdI .i64 ⟨a_, 2, none⟩ w4 fun x83_2 =>
    LdI .i64 ⟨a_, 3, none⟩ w4 fun x83_3 =>
    LdI .i64 ⟨a_, 4, none⟩ w4 fun x83_4 =>
    LdI .i64 ⟨a_, 5, none⟩ w4 fun x83_5 =>
    LdL ⟨a_, 6, none⟩ w4 fun x83_6_b x83_6_l x83_6_c =>
    conn_one.Call x83_0 x83_1 x83_2 x83_3 x83_4 x83_5 x83_6_b x83_6_l x83_6_c w4 fun r84_b r84_l r84_c w5 =>
    R r84_b r84_l r84_c w5) (
    LdL ⟨s, 6, none⟩ w1 fun x87_b x87_l x87_c =>
    Bm (decide (((x87_l : Nat) : Int) > (0 : Int))) (
      conn_Conn_inSync.B3 c s none0_b none0_l none0_c true w1  R) (
      LdI .i64 ⟨s, 4, none⟩ w1 fun x92 =>
      conn_Conn_inSync.B3 c s none0_b none0_l none0_c ((IntKind.i64.wrap (BitVec.ofInt IntKind.i64.bits x92 &&& BitVec.ofInt IntKind.i64.bits (4 : Int)).toNat) != (0 : Int)) w1  R))
theorem conn_Conn_inSync.B2_eq (c : Option Addr) (s : Nat) (none0_b : Option Addr) (none0_l none0_c : Nat) (w : World)   (R : Option Addr → Nat → Nat → World → Prop) (sB3 : Option Addr → Nat → Option Addr → Nat → Nat → Bool → World → Prop) :
    (
  LdI .i64 ⟨s, 0, none⟩ w fun x78_0 =>
  LdI .i64 ⟨s, 1, none⟩ w fun x78_1 =>
  LdI .i64 ⟨s, 2, none⟩ w fun x78_2 =>
  LdI .i64 ⟨s, 3, none⟩ w fun x78_3 =>
  LdI .i64 ⟨s, 4, none⟩ w fun x78_4 =>
  LdI .i64 ⟨s, 5, none⟩ w fun x78_5 =>
  LdL ⟨s, 6, none⟩ w fun x78_6_b x78_6_l x78_6_c =>
  conn_Conn_acked.Call c x78_0 x78_1 x78_2 x78_3 x78_4 x78_5 x78_6_b x78_6_l x78_6_c w fun r79 w1 =>
  Bm (!r79) (
    conn_Conn_ack.Call c w1 fun r82_0 r82_1 r82_2 r82_3 r82_4 r82_5 r82_6_b r82_6_l r82_6_c w2 =>
    New (.cells #[.int .i64 (0 : Int), .int .i64 (0 : Int), .int .i64 (0 : Int), .int .i64 (0 : Int), .int .i64 (0 : Int), .int .i64 (0 : Int), .slice none 0 0] 177) w2 fun a_ w3 =>
    Sts [.int .i64 r82_0, .int .i64 r82_1, .int .i64 r82_2, .int .i64 r82_3, .int .i64 r82_4, .int .i64 r82_5, .slice r82_6_b r82_6_l r82_6_c] ⟨a_, 0, none⟩ 0 w3 fun w4 =>
    LdI .i64 ⟨a_, 0, none⟩ w4 fun x83_0 =>
    LdI .i64 ⟨a_, 1, none⟩ w4 fun x83_1 =>
    LdI .i64 ⟨a_, 2, none⟩ w4 fun x83_2 =>
    LdI .i64 ⟨a_, 3, none⟩ w4 fun x83_3 =>
    LdI .i64 ⟨a_, 4, none⟩ w4 fun x83_4 =>
    LdI .i64 ⟨a_, 5, none⟩ w4 fun x83_5 =>
    LdL ⟨a_, 6, none⟩ w4 fun x83_6_b x83_6_l x83_6_c =>
    conn_one.Call x83_0 x83_1 x83_2 x83_3 x83_4 x83_5 x83_6_b x83_6_l x83_6_c w4 fun r84_b r84_l r84_c w5 =>
    R r84_b r84_l r84_c w5) (
    LdL ⟨s, 6, none⟩ w1 fun x87_b x87_l x87_c =>
    Bm (decide (((x87_l : Nat) : Int) > (0 : Int))) (
      sB3 c s none0_b none0_l none0_c true w1) (
      LdI .i64 ⟨s, 4, none⟩ w1 fun x92 =>
      sB3 c s none0_b none0_l none0_c ((IntKind.i64.wrap (BitVec.ofInt IntKind.i64.bits x92 &&& BitVec.ofInt IntKind.i64.bits (4 : Int)).toNat) != (0 : Int)) w1))) = kstep Tryz.prog 139 Tryz.f194.results.toList (Tryz.f194.body.getD .skip) (conn_Conn_inSync.RV R) (kvc Tryz.prog 139 Tryz.f194.results.toList (Tryz.f194.body.getD .skip) (conn_Conn_inSync.RV R) [([(0, [1, 1, 1, 1, 1, 1, 1, 1, 0, 1]), (0, [1, 1, 1, 1, 1, 1, 1, 1, 1])], fun σ w => dP (slotOf σ 0) fun c_ => dK (slotOf σ 3) fun s_ => dL (slotOf σ 12) fun out_b_ out_l_ out_c_ => dB (slotOf σ 95) fun t95_ => sB3 c_ s_ out_b_ out_l_ out_c_ t95_ w)] 2000) [(0, [1, 1, 1, 1, 1, 1])] [(0, .pointer c), (3, .pointer (some ⟨s, 0, none⟩)), (5, .slice none0_b none0_l none0_c)] w := by kernel_rfl
theorem conn_Conn_inSync.B2_sound {R : Option Addr → Nat → Nat → World → Prop}  (c : Option Addr) (s : Nat) (none0_b : Option Addr) (none0_l none0_c : Nat) (w : World) (h : conn_Conn_inSync.B2 c s none0_b none0_l none0_c w   R) :
    KW Tryz.prog 194 139 (conn_Conn_inSync.RV R) ([(0, [1, 1, 1, 1, 1, 1])].map (toItem (Tryz.f194.body.getD .skip))) [(0, .pointer c), (3, .pointer (some ⟨s, 0, none⟩)), (5, .slice none0_b none0_l none0_c)] w := by
  exact block_spec Tryz.func194 Tryz.mixed (stops_cons (fun σ w h => by
      obtain ⟨c_, e0, h⟩ := dP_elim h
      obtain ⟨s_, e1, h⟩ := dK_elim h
      obtain ⟨out_b_, out_l_, out_c_, e2, h⟩ := dL_elim h
      obtain ⟨t95_, e3, h⟩ := dB_elim h
      exact (conn_Conn_inSync.B3_sound  c_ s_ out_b_ out_l_ out_c_ t95_ w h).weaken (Sub.cons (Sub.cons (Sub.cons (Sub.cons (Sub.nil _) e3) e2) e1) e0)) stops_nil) (Eq.mp (conn_Conn_inSync.B2_eq c s none0_b none0_l none0_c w   R (fun c_ s_ out_b_ out_l_ out_c_ t95_ w => conn_Conn_inSync.B3 c_ s_ out_b_ out_l_ out_c_ t95_ w  R)) h)
def conn_Conn_inSync.B0 (c : Option Addr) (s_0 s_1 s_2 s_3 s_4 s_5 : Int) (s_6_b : Option Addr) (s_6_l s_6_c : Nat) (w : World)   (R : Option Addr → Nat → Nat → World → Prop) : Prop :=
  New (.cells #[.int .i64 s_0, .int .i64 s_1, .int .i64 s_2, .int .i64 s_3, .int .i64 s_4, .int .i64 s_5, .slice s_6_b s_6_l s_6_c] 177) w fun s_ w1 =>
  New (.cells #[] 177) w1 fun b15 w2 =>
  LdI .i64 ⟨s_, 4, none⟩ w2 fun x17 =>
  Bm ((IntKind.i64.wrap (BitVec.ofInt IntKind.i64.bits x17 &&& BitVec.ofInt IntKind.i64.bits (8 : Int)).toNat) != (0 : Int)) (
    conn_Conn_rcvNxt.Call c w2 fun r21 w3 =>
    LdI .i64 ⟨s_, 2, none⟩ w3 fun x23 =>
    api_SeqDiff.Call x23 r21 w3 fun r25 w4 =>
    Bm (decide (r25 ≥ (0 : Int))) (
      conn_Conn_inSync.B1 c (some ⟨b15, 0, none⟩) 0 0 (decide (r25 ≤ (17 : Int))) w4  R) (
      conn_Conn_inSync.B1 c (some ⟨b15, 0, none⟩) 0 0 false w4  R)) (
    LdI .i64 ⟨s_, 4, none⟩ w2 fun x36 =>
    Bm ((IntKind.i64.wrap (BitVec.ofInt IntKind.i64.bits x36 &&& BitVec.ofInt IntKind.i64.bits (1 : Int)).toNat) != (0 : Int)) (
      Pn c fun a =>
      LdI .i64 (a.add 2) w2 fun x42 =>
      Bm (x42 == (2 : Int)) (
        conn_Conn_again.Call c w2 fun r45_0 r45_1 r45_2 r45_3 r45_4 r45_5 r45_6_b r45_6_l r45_6_c w5 =>
        New (.cells #[.int .i64 (0 : Int), .int .i64 (0 : Int), .int .i64 (0 : Int), .int .i64 (0 : Int), .int .i64 (0 : Int), .int .i64 (0 : Int), .slice none 0 0] 177) w5 fun a_ w6 =>
        Sts [.int .i64 r45_0, .int .i64 r45_1, .int .i64 r45_2, .int .i64 r45_3, .int .i64 r45_4, .int .i64 r45_5, .slice r45_6_b r45_6_l r45_6_c] ⟨a_, 0, none⟩ 0 w6 fun w7 =>
        LdI .i64 ⟨a_, 0, none⟩ w7 fun x46_0 =>
        LdI .i64 ⟨a_, 1, none⟩ w7 fun x46_1 =>
        LdI .i64 ⟨a_, 2, none⟩ w7 fun x46_2 =>
        LdI .i64 ⟨a_, 3, none⟩ w7 fun x46_3 =>
        LdI .i64 ⟨a_, 4, none⟩ w7 fun x46_4 =>
        LdI .i64 ⟨a_, 5, none⟩ w7 fun x46_5 =>
        LdL ⟨a_, 6, none⟩ w7 fun x46_6_b x46_6_l x46_6_c =>
        conn_one.Call x46_0 x46_1 x46_2 x46_3 x46_4 x46_5 x46_6_b x46_6_l x46_6_c w7 fun r47_b r47_l r47_c w8 =>
        R r47_b r47_l r47_c w8) (
        conn_Conn_ack.Call c w2 fun r49_0 r49_1 r49_2 r49_3 r49_4 r49_5 r49_6_b r49_6_l r49_6_c w9 =>
        New (.cells #[.int .i64 (0 : Int), .int .i64 (0 : Int), .int .i64 (0 : Int), .int .i64 (0 : Int), .int .i64 (0 : Int), .int .i64 (0 : Int), .slice none 0 0] 177) w9 fun a__1 w10 =>
        Sts [.int .i64 r49_0, .int .i64 r49_1, .int .i64 r49_2, .int .i64 r49_3, .int .i64 r49_4, .int .i64 r49_5, .slice r49_6_b r49_6_l r49_6_c] ⟨a__1, 0, none⟩ 0 w10 fun w11 =>
        LdI .i64 ⟨a__1, 0, none⟩ w11 fun x50_0 =>
        LdI .i64 ⟨a__1, 1, none⟩ w11 fun x50_1 =>
        LdI .i64 ⟨a__1, 2, none⟩ w11 fun x50_2 =>
        LdI .i64 ⟨a__1, 3, none⟩ w11 fun x50_3 =>
        LdI .i64 ⟨a__1, 4, none⟩ w11 fun x50_4 =>
        LdI .i64 ⟨a__1, 5, none⟩ w11 fun x50_5 =>
        LdL ⟨a__1, 6, none⟩ w11 fun x50_6_b x50_6_l x50_6_c =>
        conn_one.Call x50_0 x50_1 x50_2 x50_3 x50_4 x50_5 x50_6_b x50_6_l x50_6_c w11 fun r51_b r51_l r51_c w12 =>
        R r51_b r51_l r51_c w12)) (
      LdI .i64 ⟨s_, 4, none⟩ w2 fun x53 =>
      Bm ((IntKind.i64.wrap (BitVec.ofInt IntKind.i64.bits x53 &&& BitVec.ofInt IntKind.i64.bits (2 : Int)).toNat) == (0 : Int)) (
        R (some ⟨b15, 0, none⟩) 0 0 w2) (
        Pn c fun a_1 =>
        LdI .i64 (a_1.add 2) w2 fun x60 =>
        Bm (x60 == (2 : Int)) (
          LdI .i64 ⟨s_, 3, none⟩ w2.drew fun x63 =>
          Pn c fun a_2 =>
          LdI .i64 (a_2.add 8) w2.drew fun x67 =>
          api_SeqAdd.Call x67 (1 : Int) w2.drew fun r68 w13 =>
          w13.cell? ⟨s_, 3, none⟩ = some (.int .i64 x63) ∧
          Bm (x63 != r68) (
            LdI .i64 ⟨s_, 3, none⟩ w13 fun x71 =>
            conn_rst.Call x71 w13 fun r72_0 r72_1 r72_2 r72_3 r72_4 r72_5 r72_6_b r72_6_l r72_6_c w14 =>
            New (.cells #[.int .i64 (0 : Int), .int .i64 (0 : Int), .int .i64 (0 : Int), .int .i64 (0 : Int), .int .i64 (0 : Int), .int .i64 (0 : Int), .slice none 0 0] 177) w14 fun r_ w15 =>
            Sts [.int .i64 r72_0, .int .i64 r72_1, .int .i64 r72_2, .int .i64 r72_3, .int .i64 r72_4, .int .i64 r72_5, .slice r72_6_b r72_6_l r72_6_c] ⟨r_, 0, none⟩ 0 w15 fun w16 =>
            LdI .i64 ⟨r_, 0, none⟩ w16 fun x73_0 =>
            LdI .i64 ⟨r_, 1, none⟩ w16 fun x73_1 =>
            LdI .i64 ⟨r_, 2, none⟩ w16 fun x73_2 =>
            LdI .i64 ⟨r_, 3, none⟩ w16 fun x73_3 =>
            LdI .i64 ⟨r_, 4, none⟩ w16 fun x73_4 =>
            LdI .i64 ⟨r_, 5, none⟩ w16 fun x73_5 =>
            LdL ⟨r_, 6, none⟩ w16 fun x73_6_b x73_6_l x73_6_c =>
            conn_one.Call x73_0 x73_1 x73_2 x73_3 x73_4 x73_5 x73_6_b x73_6_l x73_6_c w16 fun r74_b r74_l r74_c w17 =>
            R r74_b r74_l r74_c w17) (
            conn_Conn_opened.Call c w13 fun w18 =>
            conn_Conn_inSync.B2 c s_ (some ⟨b15, 0, none⟩) 0 0 w18  R)) (
          conn_Conn_inSync.B2 c s_ (some ⟨b15, 0, none⟩) 0 0 w2  R))))
theorem conn_Conn_inSync.B0_eq (c : Option Addr) (s_0 s_1 s_2 s_3 s_4 s_5 : Int) (s_6_b : Option Addr) (s_6_l s_6_c : Nat) (w : World)   (R : Option Addr → Nat → Nat → World → Prop) (sB1 : Option Addr → Option Addr → Nat → Nat → Bool → World → Prop) (sB2 : Option Addr → Nat → Option Addr → Nat → Nat → World → Prop) :
    (
  New (.cells #[.int .i64 s_0, .int .i64 s_1, .int .i64 s_2, .int .i64 s_3, .int .i64 s_4, .int .i64 s_5, .slice s_6_b s_6_l s_6_c] 177) w fun s_ w1 =>
  New (.cells #[] 177) w1 fun b15 w2 =>
  LdI .i64 ⟨s_, 4, none⟩ w2 fun x17 =>
  Bm ((IntKind.i64.wrap (BitVec.ofInt IntKind.i64.bits x17 &&& BitVec.ofInt IntKind.i64.bits (8 : Int)).toNat) != (0 : Int)) (
    conn_Conn_rcvNxt.Call c w2 fun r21 w3 =>
    LdI .i64 ⟨s_, 2, none⟩ w3 fun x23 =>
    api_SeqDiff.Call x23 r21 w3 fun r25 w4 =>
    Bm (decide (r25 ≥ (0 : Int))) (
      sB1 c (some ⟨b15, 0, none⟩) 0 0 (decide (r25 ≤ (17 : Int))) w4) (
      sB1 c (some ⟨b15, 0, none⟩) 0 0 false w4)) (
    LdI .i64 ⟨s_, 4, none⟩ w2 fun x36 =>
    Bm ((IntKind.i64.wrap (BitVec.ofInt IntKind.i64.bits x36 &&& BitVec.ofInt IntKind.i64.bits (1 : Int)).toNat) != (0 : Int)) (
      Pn c fun a =>
      LdI .i64 (a.add 2) w2 fun x42 =>
      Bm (x42 == (2 : Int)) (
        conn_Conn_again.Call c w2 fun r45_0 r45_1 r45_2 r45_3 r45_4 r45_5 r45_6_b r45_6_l r45_6_c w5 =>
        New (.cells #[.int .i64 (0 : Int), .int .i64 (0 : Int), .int .i64 (0 : Int), .int .i64 (0 : Int), .int .i64 (0 : Int), .int .i64 (0 : Int), .slice none 0 0] 177) w5 fun a_ w6 =>
        Sts [.int .i64 r45_0, .int .i64 r45_1, .int .i64 r45_2, .int .i64 r45_3, .int .i64 r45_4, .int .i64 r45_5, .slice r45_6_b r45_6_l r45_6_c] ⟨a_, 0, none⟩ 0 w6 fun w7 =>
        LdI .i64 ⟨a_, 0, none⟩ w7 fun x46_0 =>
        LdI .i64 ⟨a_, 1, none⟩ w7 fun x46_1 =>
        LdI .i64 ⟨a_, 2, none⟩ w7 fun x46_2 =>
        LdI .i64 ⟨a_, 3, none⟩ w7 fun x46_3 =>
        LdI .i64 ⟨a_, 4, none⟩ w7 fun x46_4 =>
        LdI .i64 ⟨a_, 5, none⟩ w7 fun x46_5 =>
        LdL ⟨a_, 6, none⟩ w7 fun x46_6_b x46_6_l x46_6_c =>
        conn_one.Call x46_0 x46_1 x46_2 x46_3 x46_4 x46_5 x46_6_b x46_6_l x46_6_c w7 fun r47_b r47_l r47_c w8 =>
        R r47_b r47_l r47_c w8) (
        conn_Conn_ack.Call c w2 fun r49_0 r49_1 r49_2 r49_3 r49_4 r49_5 r49_6_b r49_6_l r49_6_c w9 =>
        New (.cells #[.int .i64 (0 : Int), .int .i64 (0 : Int), .int .i64 (0 : Int), .int .i64 (0 : Int), .int .i64 (0 : Int), .int .i64 (0 : Int), .slice none 0 0] 177) w9 fun a__1 w10 =>
        Sts [.int .i64 r49_0, .int .i64 r49_1, .int .i64 r49_2, .int .i64 r49_3, .int .i64 r49_4, .int .i64 r49_5, .slice r49_6_b r49_6_l r49_6_c] ⟨a__1, 0, none⟩ 0 w10 fun w11 =>
        LdI .i64 ⟨a__1, 0, none⟩ w11 fun x50_0 =>
        LdI .i64 ⟨a__1, 1, none⟩ w11 fun x50_1 =>
        LdI .i64 ⟨a__1, 2, none⟩ w11 fun x50_2 =>
        LdI .i64 ⟨a__1, 3, none⟩ w11 fun x50_3 =>
        LdI .i64 ⟨a__1, 4, none⟩ w11 fun x50_4 =>
        LdI .i64 ⟨a__1, 5, none⟩ w11 fun x50_5 =>
        LdL ⟨a__1, 6, none⟩ w11 fun x50_6_b x50_6_l x50_6_c =>
        conn_one.Call x50_0 x50_1 x50_2 x50_3 x50_4 x50_5 x50_6_b x50_6_l x50_6_c w11 fun r51_b r51_l r51_c w12 =>
        R r51_b r51_l r51_c w12)) (
      LdI .i64 ⟨s_, 4, none⟩ w2 fun x53 =>
      Bm ((IntKind.i64.wrap (BitVec.ofInt IntKind.i64.bits x53 &&& BitVec.ofInt IntKind.i64.bits (2 : Int)).toNat) == (0 : Int)) (
        R (some ⟨b15, 0, none⟩) 0 0 w2) (
        Pn c fun a_1 =>
        LdI .i64 (a_1.add 2) w2 fun x60 =>
        Bm (x60 == (2 : Int)) (
          LdI .i64 ⟨s_, 3, none⟩ w2.drew fun x63 =>
          Pn c fun a_2 =>
          LdI .i64 (a_2.add 8) w2.drew fun x67 =>
          api_SeqAdd.Call x67 (1 : Int) w2.drew fun r68 w13 =>
          w13.cell? ⟨s_, 3, none⟩ = some (.int .i64 x63) ∧
          Bm (x63 != r68) (
            LdI .i64 ⟨s_, 3, none⟩ w13 fun x71 =>
            conn_rst.Call x71 w13 fun r72_0 r72_1 r72_2 r72_3 r72_4 r72_5 r72_6_b r72_6_l r72_6_c w14 =>
            New (.cells #[.int .i64 (0 : Int), .int .i64 (0 : Int), .int .i64 (0 : Int), .int .i64 (0 : Int), .int .i64 (0 : Int), .int .i64 (0 : Int), .slice none 0 0] 177) w14 fun r_ w15 =>
            Sts [.int .i64 r72_0, .int .i64 r72_1, .int .i64 r72_2, .int .i64 r72_3, .int .i64 r72_4, .int .i64 r72_5, .slice r72_6_b r72_6_l r72_6_c] ⟨r_, 0, none⟩ 0 w15 fun w16 =>
            LdI .i64 ⟨r_, 0, none⟩ w16 fun x73_0 =>
            LdI .i64 ⟨r_, 1, none⟩ w16 fun x73_1 =>
            LdI .i64 ⟨r_, 2, none⟩ w16 fun x73_2 =>
            LdI .i64 ⟨r_, 3, none⟩ w16 fun x73_3 =>
            LdI .i64 ⟨r_, 4, none⟩ w16 fun x73_4 =>
            LdI .i64 ⟨r_, 5, none⟩ w16 fun x73_5 =>
            LdL ⟨r_, 6, none⟩ w16 fun x73_6_b x73_6_l x73_6_c =>
            conn_one.Call x73_0 x73_1 x73_2 x73_3 x73_4 x73_5 x73_6_b x73_6_l x73_6_c w16 fun r74_b r74_l r74_c w17 =>
            R r74_b r74_l r74_c w17) (
            conn_Conn_opened.Call c w13 fun w18 =>
            sB2 c s_ (some ⟨b15, 0, none⟩) 0 0 w18)) (
          sB2 c s_ (some ⟨b15, 0, none⟩) 0 0 w2))))) = kstep Tryz.prog 139 Tryz.f194.results.toList (Tryz.f194.body.getD .skip) (conn_Conn_inSync.RV R) (kvc Tryz.prog 139 Tryz.f194.results.toList (Tryz.f194.body.getD .skip) (conn_Conn_inSync.RV R) [([(0, [1, 1, 0, 1, 0, 1, 1, 0, 1]), (0, [1, 1, 0, 1, 0, 1, 1, 1]), (0, [1, 1, 1])], fun σ w => dP (slotOf σ 0) fun c_ => dL (slotOf σ 5) fun none0_b_ none0_l_ none0_c_ => dB (slotOf σ 31) fun t31_ => sB1 c_ none0_b_ none0_l_ none0_c_ t31_ w),
    ([(0, [1, 1, 1, 1, 1, 1])], fun σ w => dP (slotOf σ 0) fun c_ => dK (slotOf σ 3) fun s_ => dL (slotOf σ 5) fun none0_b_ none0_l_ none0_c_ => sB2 c_ s_ none0_b_ none0_l_ none0_c_ w)] 2000) [(0, [])] [(0, .pointer c), (1, .agg #[.int .i64 s_0, .int .i64 s_1, .int .i64 s_2, .int .i64 s_3, .int .i64 s_4, .int .i64 s_5, .slice s_6_b s_6_l s_6_c])] w := by kernel_rfl
theorem conn_Conn_inSync.B0_sound {R : Option Addr → Nat → Nat → World → Prop}  (c : Option Addr) (s_0 s_1 s_2 s_3 s_4 s_5 : Int) (s_6_b : Option Addr) (s_6_l s_6_c : Nat) (w : World) (h : conn_Conn_inSync.B0 c s_0 s_1 s_2 s_3 s_4 s_5 s_6_b s_6_l s_6_c w   R) :
    KW Tryz.prog 194 139 (conn_Conn_inSync.RV R) ([(0, [])].map (toItem (Tryz.f194.body.getD .skip))) [(0, .pointer c), (1, .agg #[.int .i64 s_0, .int .i64 s_1, .int .i64 s_2, .int .i64 s_3, .int .i64 s_4, .int .i64 s_5, .slice s_6_b s_6_l s_6_c])] w := by
  exact block_spec Tryz.func194 Tryz.mixed (stops_cons (fun σ w h => by
      obtain ⟨c_, e0, h⟩ := dP_elim h
      obtain ⟨none0_b_, none0_l_, none0_c_, e1, h⟩ := dL_elim h
      obtain ⟨t31_, e2, h⟩ := dB_elim h
      exact (conn_Conn_inSync.B1_sound  c_ none0_b_ none0_l_ none0_c_ t31_ w h).weaken (Sub.cons (Sub.cons (Sub.cons (Sub.nil _) e2) e1) e0)) (stops_cons (fun σ w h => by
      obtain ⟨c_, e0, h⟩ := dP_elim h
      obtain ⟨s_, e1, h⟩ := dK_elim h
      obtain ⟨none0_b_, none0_l_, none0_c_, e2, h⟩ := dL_elim h
      exact (conn_Conn_inSync.B2_sound  c_ s_ none0_b_ none0_l_ none0_c_ w h).weaken (Sub.cons (Sub.cons (Sub.cons (Sub.nil _) e2) e1) e0)) stops_nil)) (Eq.mp (conn_Conn_inSync.B0_eq c s_0 s_1 s_2 s_3 s_4 s_5 s_6_b s_6_l s_6_c w   R (fun c_ none0_b_ none0_l_ none0_c_ t31_ w => conn_Conn_inSync.B1 c_ none0_b_ none0_l_ none0_c_ t31_ w  R) (fun c_ s_ none0_b_ none0_l_ none0_c_ w => conn_Conn_inSync.B2 c_ s_ none0_b_ none0_l_ none0_c_ w  R)) h)
theorem conn_Conn_inSync.sound (c : Option Addr) (s_0 s_1 s_2 s_3 s_4 s_5 : Int) (s_6_b : Option Addr) (s_6_l s_6_c : Nat) (w : World) (R : Option Addr → Nat → Nat → World → Prop) (h : conn_Conn_inSync.B0 c s_0 s_1 s_2 s_3 s_4 s_5 s_6_b s_6_l s_6_c w R) : conn_Conn_inSync.Call c s_0 s_1 s_2 s_3 s_4 s_5 s_6_b s_6_l s_6_c w R := by
  have hc := calls_of_block (args := #[.pointer c, .agg #[.int .i64 s_0, .int .i64 s_1, .int .i64 s_2, .int .i64 s_3, .int .i64 s_4, .int .i64 s_5, .slice s_6_b s_6_l s_6_c]]) Tryz.func194 (body := (Tryz.f194.body.getD .skip)) (by kernel_rfl) (by kernel_rfl) (args_slot _) (conn_Conn_inSync.B0_sound c s_0 s_1 s_2 s_3 s_4 s_5 s_6_b s_6_l s_6_c w h)
  exact hc.mono fun e w' he => by
    obtain ⟨v, rfl, hv⟩ := he
    exact conn_Conn_inSync.RV_elim hv
end Go.Proofs.Qxb6500424aGreat
