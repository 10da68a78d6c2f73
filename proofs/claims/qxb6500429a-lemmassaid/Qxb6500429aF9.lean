import Derived.Test.Qxb6500429aSig
set_option maxRecDepth 100000
set_option linter.unusedVariables false
open Go.Vc
namespace Go.Proofs.Qxb6500429a
def kv_keyIs.L1b (key : ByteArray) (c : Nat) (i : Int) (w : World)  (N1 : ByteArray → Nat → Int → World → Prop) (R : Bool → World → Prop) : Prop :=
  LdI .i64 ⟨c, 1, none⟩ w fun x18 =>
  Bm (decide (i < x18)) (
    (0 ≤ i ∧ i < ((2 : Nat) : Int)) ∧
    LdI .u8 (Addr.add ⟨c, 2, none⟩ (i.toNat * 1)) w.drew fun x25 =>
    (0 ≤ i ∧ i < ((key.size : Nat) : Int)) ∧
    Bm (x25 != (byteAt key i)) (
      R false w.drew) (
      N1 key c (IntKind.i64.wrap (i + (1 : Int))) w.drew)) (
    R true w)
theorem kv_keyIs.L1b_eq (key : ByteArray) (c : Nat) (i : Int) (w : World)  (N1 : ByteArray → Nat → Int → World → Prop) (R : Bool → World → Prop)  :
    (
  LdI .i64 ⟨c, 1, none⟩ w fun x18 =>
  Bm (decide (i < x18)) (
    (0 ≤ i ∧ i < ((2 : Nat) : Int)) ∧
    LdI .u8 (Addr.add ⟨c, 2, none⟩ (i.toNat * 1)) w.drew fun x25 =>
    (0 ≤ i ∧ i < ((key.size : Nat) : Int)) ∧
    Bm (x25 != (byteAt key i)) (
      R false w.drew) (
      N1 key c (IntKind.i64.wrap (i + (1 : Int))) w.drew)) (
    R true w)) = kstep Try.prog 30 Try.f70.results.toList (Try.f70.body.getD .skip) (kv_keyIs.RV R) (kvc Try.prog 30 Try.f70.results.toList (Try.f70.body.getD .skip) (kv_keyIs.RV R) [([(0, [1, 1, 0, 1, 0, 0]), (2, [1, 1, 0, 1, 0, 0]), (1, [0]), (0, [1, 1, 1])], fun σ w => dS (slotOf σ 1) fun key_ => dK (slotOf σ 2) fun c_ => dI .i64 (slotOf σ 5) fun i_ => N1 key_ c_ i_ w)] 2000) [(0, [1, 1, 0, 1, 0, 0]), (2, [1, 1, 0, 1, 0, 0]), (1, [0]), (0, [1, 1, 1])] [(1, .string key), (2, .pointer (some ⟨c, 0, none⟩)), (5, .int .i64 i)] w := by kernel_rfl
theorem kv_keyIs.L1b_sound {R : Bool → World → Prop} {N1 : ByteArray → Nat → Int → World → Prop} (hN1 : ∀ key c i w, N1 key c i w → KW Try.prog 70 30 (kv_keyIs.RV R) ([(0, [1, 1, 0, 1, 0, 0]), (2, [1, 1, 0, 1, 0, 0]), (1, [0]), (0, [1, 1, 1])].map (toItem (Try.f70.body.getD .skip))) [(1, .string key), (2, .pointer (some ⟨c, 0, none⟩)), (5, .int .i64 i)] w) (key : ByteArray) (c : Nat) (i : Int) (w : World) (h : kv_keyIs.L1b key c i w  N1 R) :
    KW Try.prog 70 30 (kv_keyIs.RV R) ([(0, [1, 1, 0, 1, 0, 0]), (2, [1, 1, 0, 1, 0, 0]), (1, [0]), (0, [1, 1, 1])].map (toItem (Try.f70.body.getD .skip))) [(1, .string key), (2, .pointer (some ⟨c, 0, none⟩)), (5, .int .i64 i)] w := by
  exact block_spec Try.func70 Try.mixed (stops_cons (fun σ w h => by
      obtain ⟨key_, e0, h⟩ := dS_elim h
      obtain ⟨c_, e1, h⟩ := dK_elim h
      obtain ⟨i_, e2, h⟩ := dI_elim h
      exact (hN1 key_ c_ i_ w h).weaken (Sub.cons (Sub.cons (Sub.cons (Sub.nil _) e2) e1) e0)) stops_nil) (Eq.mp (kv_keyIs.L1b_eq key c i w  N1 R ) h)
def kv_keyIs.L1 (key : ByteArray) (c : Nat) (i : Int) (w : World)  (R : Bool → World → Prop) : Prop :=
  ∃ (I : Nat → ByteArray → Nat → Int → World → Prop) (m : Nat), I m key c i w ∧ ∀ m key c i w, I m key c i w → kv_keyIs.L1b key c i w  (fun key' c' i' w' => ∃ m', m' < m ∧ I m' key' c' i' w') R
theorem kv_keyIs.L1_sound {R : Bool → World → Prop}  (key : ByteArray) (c : Nat) (i : Int) (w : World) (h : kv_keyIs.L1 key c i w  R) :
    KW Try.prog 70 30 (kv_keyIs.RV R) ([(0, [1, 1, 0, 1, 0, 0]), (2, [1, 1, 0, 1, 0, 0]), (1, [0]), (0, [1, 1, 1])].map (toItem (Try.f70.body.getD .skip))) [(1, .string key), (2, .pointer (some ⟨c, 0, none⟩)), (5, .int .i64 i)] w := by
  obtain ⟨I, m, hBase, hr⟩ := h
  refine KW.loop (fun m σ w => ∃ (key : ByteArray) (c : Nat) (i : Int), σ = [(1, .string key), (2, .pointer (some ⟨c, 0, none⟩)), (5, .int .i64 i)] ∧ I m key c i w) ?_ m _ w ⟨key, c, i, rfl, hBase⟩
  rintro m ih σ w ⟨key, c, i, rfl, hI⟩
  exact kv_keyIs.L1b_sound  (N1 := fun key' c' i' w' => ∃ m', m' < m ∧ I m' key' c' i' w') (fun key' c' i' w' hx => by obtain ⟨m', hlt, hI'⟩ := hx; exact ih m' hlt _ w' ⟨key', c', i', rfl, hI'⟩) key c i w (hr m key c i w hI)
def kv_keyIs.B1 (key : ByteArray) (c : Nat) (t15 : Bool) (w : World)   (R : Bool → World → Prop) : Prop :=
  Bm t15 (
    R false w) (
    kv_keyIs.L1 key c (0 : Int) w  R)
theorem kv_keyIs.B1_eq (key : ByteArray) (c : Nat) (t15 : Bool) (w : World)   (R : Bool → World → Prop) (sL1 : ByteArray → Nat → Int → World → Prop) :
    (
  Bm t15 (
    R false w) (
    sL1 key c (0 : Int) w)) = kstep Try.prog 30 Try.f70.results.toList (Try.f70.body.getD .skip) (kv_keyIs.RV R) (kvc Try.prog 30 Try.f70.results.toList (Try.f70.body.getD .skip) (kv_keyIs.RV R) [([(0, [1, 1, 0, 1, 0, 0]), (2, [1, 1, 0, 1, 0, 0]), (1, [0]), (0, [1, 1, 1])], fun σ w => dS (slotOf σ 1) fun key_ => dK (slotOf σ 2) fun c_ => dI .i64 (slotOf σ 5) fun i_ => sL1 key_ c_ i_ w)] 2000) [(0, [1, 0, 1]), (0, [1, 1])] [(1, .string key), (2, .pointer (some ⟨c, 0, none⟩)), (15, .bool t15)] w := by kernel_rfl
theorem kv_keyIs.B1_sound {R : Bool → World → Prop}  (key : ByteArray) (c : Nat) (t15 : Bool) (w : World) (h : kv_keyIs.B1 key c t15 w   R) :
    KW Try.prog 70 30 (kv_keyIs.RV R) ([(0, [1, 0, 1]), (0, [1, 1])].map (toItem (Try.f70.body.getD .skip))) [(1, .string key), (2, .pointer (some ⟨c, 0, none⟩)), (15, .bool t15)] w := by
  exact block_spec Try.func70 Try.mixed (stops_cons (fun σ w h => by
      obtain ⟨key_, e0, h⟩ := dS_elim h
      obtain ⟨c_, e1, h⟩ := dK_elim h
      obtain ⟨i_, e2, h⟩ := dI_elim h
      exact (kv_keyIs.L1_sound  key_ c_ i_ w h).weaken (Sub.cons (Sub.cons (Sub.cons (Sub.nil _) e2) e1) e0)) stops_nil) (Eq.mp (kv_keyIs.B1_eq key c t15 w   R (fun key_ c_ i_ w => kv_keyIs.L1 key_ c_ i_ w  R)) h)
def kv_keyIs.B0 (c_0 c_1 c_2 c_3 c_4 c_5 c_6 c_7 : Int) (key : ByteArray) (w : World)   (R : Bool → World → Prop) : Prop :=
  New (.cells #[.int .i64 c_0, .int .i64 c_1, .int .u8 c_2, .int .u8 c_3, .int .i64 c_4, .int .u8 c_5, .int .u8 c_6, .int .u8 c_7] 42) w fun c_ w1 =>
  LdI .i64 ⟨c_, 1, none⟩ w1 fun x7 =>
  Bm (x7 != ((key.size : Nat) : Int)) (
    kv_keyIs.B1 key c_ true w1  R) (
    LdI .i64 ⟨c_, 1, none⟩ w1 fun x13 =>
    kv_keyIs.B1 key c_ (decide (x13 > (2 : Int))) w1  R)
theorem kv_keyIs.B0_eq (c_0 c_1 c_2 c_3 c_4 c_5 c_6 c_7 : Int) (key : ByteArray) (w : World)   (R : Bool → World → Prop) (sB1 : ByteArray → Nat → Bool → World → Prop) :
    (
  New (.cells #[.int .i64 c_0, .int .i64 c_1, .int .u8 c_2, .int .u8 c_3, .int .i64 c_4, .int .u8 c_5, .int .u8 c_6, .int .u8 c_7] 42) w fun c_ w1 =>
  LdI .i64 ⟨c_, 1, none⟩ w1 fun x7 =>
  Bm (x7 != ((key.size : Nat) : Int)) (
    sB1 key c_ true w1) (
    LdI .i64 ⟨c_, 1, none⟩ w1 fun x13 =>
    sB1 key c_ (decide (x13 > (2 : Int))) w1)) = kstep Try.prog 30 Try.f70.results.toList (Try.f70.body.getD .skip) (kv_keyIs.RV R) (kvc Try.prog 30 Try.f70.results.toList (Try.f70.body.getD .skip) (kv_keyIs.RV R) [([(0, [1, 0, 1]), (0, [1, 1])], fun σ w => dS (slotOf σ 1) fun key_ => dK (slotOf σ 2) fun c_ => dB (slotOf σ 15) fun t15_ => sB1 key_ c_ t15_ w)] 2000) [(0, [])] [(0, .agg #[.int .i64 c_0, .int .i64 c_1, .int .u8 c_2, .int .u8 c_3, .int .i64 c_4, .int .u8 c_5, .int .u8 c_6, .int .u8 c_7]), (1, .string key)] w := by kernel_rfl
theorem kv_keyIs.B0_sound {R : Bool → World → Prop}  (c_0 c_1 c_2 c_3 c_4 c_5 c_6 c_7 : Int) (key : ByteArray) (w : World) (h : kv_keyIs.B0 c_0 c_1 c_2 c_3 c_4 c_5 c_6 c_7 key w   R) :
    KW Try.prog 70 30 (kv_keyIs.RV R) ([(0, [])].map (toItem (Try.f70.body.getD .skip))) [(0, .agg #[.int .i64 c_0, .int .i64 c_1, .int .u8 c_2, .int .u8 c_3, .int .i64 c_4, .int .u8 c_5, .int .u8 c_6, .int .u8 c_7]), (1, .string key)] w := by
  exact block_spec Try.func70 Try.mixed (stops_cons (fun σ w h => by
      obtain ⟨key_, e0, h⟩ := dS_elim h
      obtain ⟨c_, e1, h⟩ := dK_elim h
      obtain ⟨t15_, e2, h⟩ := dB_elim h
      exact (kv_keyIs.B1_sound  key_ c_ t15_ w h).weaken (Sub.cons (Sub.cons (Sub.cons (Sub.nil _) e2) e1) e0)) stops_nil) (Eq.mp (kv_keyIs.B0_eq c_0 c_1 c_2 c_3 c_4 c_5 c_6 c_7 key w   R (fun key_ c_ t15_ w => kv_keyIs.B1 key_ c_ t15_ w  R)) h)
theorem kv_keyIs.sound (c_0 c_1 c_2 c_3 c_4 c_5 c_6 c_7 : Int) (key : ByteArray) (w : World) (R : Bool → World → Prop) (h : kv_keyIs.B0 c_0 c_1 c_2 c_3 c_4 c_5 c_6 c_7 key w R) : kv_keyIs.Call c_0 c_1 c_2 c_3 c_4 c_5 c_6 c_7 key w R := by
  have hc := calls_of_block (args := #[.agg #[.int .i64 c_0, .int .i64 c_1, .int .u8 c_2, .int .u8 c_3, .int .i64 c_4, .int .u8 c_5, .int .u8 c_6, .int .u8 c_7], .string key]) Try.func70 (body := (Try.f70.body.getD .skip)) (by kernel_rfl) (by kernel_rfl) (args_slot _) (kv_keyIs.B0_sound c_0 c_1 c_2 c_3 c_4 c_5 c_6 c_7 key w h)
  exact hc.mono fun e w' he => by
    obtain ⟨v, rfl, hv⟩ := he
    exact kv_keyIs.RV_elim hv
def kv_next.B0 (i : Int) (w : World)   (R : Int → World → Prop) : Prop :=
  R (IntKind.i64.wrap (BitVec.ofInt IntKind.i64.bits (IntKind.i64.wrap (i + (1 : Int))) &&& BitVec.ofInt IntKind.i64.bits (7 : Int)).toNat) w
theorem kv_next.B0_eq (i : Int) (w : World)   (R : Int → World → Prop)  :
    (
  R (IntKind.i64.wrap (BitVec.ofInt IntKind.i64.bits (IntKind.i64.wrap (i + (1 : Int))) &&& BitVec.ofInt IntKind.i64.bits (7 : Int)).toNat) w) = kstep Try.prog 6 Try.f71.results.toList (Try.f71.body.getD .skip) (kv_next.RV R) (kvc Try.prog 6 Try.f71.results.toList (Try.f71.body.getD .skip) (kv_next.RV R) [] 2000) [(0, [])] [(0, .int .i64 i)] w := by kernel_rfl
theorem kv_next.B0_sound {R : Int → World → Prop}  (i : Int) (w : World) (h : kv_next.B0 i w   R) :
    KW Try.prog 71 6 (kv_next.RV R) ([(0, [])].map (toItem (Try.f71.body.getD .skip))) [(0, .int .i64 i)] w := by
  exact block_spec Try.func71 Try.mixed stops_nil (Eq.mp (kv_next.B0_eq i w   R ) h)
theorem kv_next.sound (i : Int) (w : World) (R : Int → World → Prop) (h : kv_next.B0 i w R) : kv_next.Call i w R := by
  have hc := calls_of_block (args := #[.int .i64 i]) Try.func71 (body := (Try.f71.body.getD .skip)) (by kernel_rfl) (by kernel_rfl) (args_slot _) (kv_next.B0_sound i w h)
  exact hc.mono fun e w' he => by
    obtain ⟨v, rfl, hv⟩ := he
    exact kv_next.RV_elim hv
def kv_KV_put.B0 (k : Option Addr) (i c_0 c_1 c_2 : Int) (c_3 c_4 c_5 : ByteArray) (w : World)   (R : Int → ByteArray → World → Prop) : Prop :=
  New (.cells #[.int .i64 c_0, .int .i64 c_1, .int .i64 c_2, .string c_3, .string c_4, .string c_5] 71) w fun c_ w1 =>
  New (.cells #[.int .i64 (0 : Int), .string (ByteArray.mk #[])] 54) w1 fun b6 w2 =>
  Bm (decide (i ≥ (0 : Int))) (
    LdS ⟨c_, 3, none⟩ w2.drew fun x12 =>
    LdS ⟨c_, 4, none⟩ w2.drew fun x14 =>
    Pn k fun a =>
    kv_mkCell.Call x12 x14 w2.drew fun r15_0 r15_1 r15_2 r15_3 r15_4 r15_5 r15_6 r15_7 w3 =>
    (0 ≤ i ∧ i < ((8 : Nat) : Int)) ∧
    Sts [.int .i64 r15_0, .int .i64 r15_1, .int .u8 r15_2, .int .u8 r15_3, .int .i64 r15_4, .int .u8 r15_5, .int .u8 r15_6, .int .u8 r15_7] (Addr.add a (i.toNat * 8)) 0 w3 fun w4 =>
    Sts [.int .i64 (0 : Int), .string (ByteArray.mk #[])] ⟨b6, 0, none⟩ 0 w4 fun w5 =>
    LdI .i64 ⟨b6, 0, none⟩ w5 fun r_0 =>
    LdS ⟨b6, 1, none⟩ w5 fun r_1 =>
    R r_0 r_1 w5) (
    Pn k fun a_1 =>
    LdI .i64 (a_1.add 64) w2 fun x25 =>
    Bm (decide (x25 ≥ (4 : Int))) (
      Sts [.int .i64 (6 : Int), .string (ByteArray.mk #[])] ⟨b6, 0, none⟩ 0 w2 fun w6 =>
      LdI .i64 ⟨b6, 0, none⟩ w6 fun r_0_1 =>
      LdS ⟨b6, 1, none⟩ w6 fun r_1_1 =>
      R r_0_1 r_1_1 w6) (
      Pn k fun a_2 =>
      LdS ⟨c_, 3, none⟩ w2.drew fun x32 =>
      LdS ⟨c_, 4, none⟩ w2.drew fun x34 =>
      kv_table_add.Call (some a_2) x32 x34 w2.drew fun w7 =>
      Sts [.int .i64 (0 : Int), .string (ByteArray.mk #[])] ⟨b6, 0, none⟩ 0 w7 fun w8 =>
      LdI .i64 ⟨b6, 0, none⟩ w8 fun r_0_2 =>
      LdS ⟨b6, 1, none⟩ w8 fun r_1_2 =>
      R r_0_2 r_1_2 w8))
theorem kv_KV_put.B0_eq (k : Option Addr) (i c_0 c_1 c_2 : Int) (c_3 c_4 c_5 : ByteArray) (w : World)   (R : Int → ByteArray → World → Prop)  :
    (
  New (.cells #[.int .i64 c_0, .int .i64 c_1, .int .i64 c_2, .string c_3, .string c_4, .string c_5] 71) w fun c_ w1 =>
  New (.cells #[.int .i64 (0 : Int), .string (ByteArray.mk #[])] 54) w1 fun b6 w2 =>
  Bm (decide (i ≥ (0 : Int))) (
    LdS ⟨c_, 3, none⟩ w2.drew fun x12 =>
    LdS ⟨c_, 4, none⟩ w2.drew fun x14 =>
    Pn k fun a =>
    kv_mkCell.Call x12 x14 w2.drew fun r15_0 r15_1 r15_2 r15_3 r15_4 r15_5 r15_6 r15_7 w3 =>
    (0 ≤ i ∧ i < ((8 : Nat) : Int)) ∧
    Sts [.int .i64 r15_0, .int .i64 r15_1, .int .u8 r15_2, .int .u8 r15_3, .int .i64 r15_4, .int .u8 r15_5, .int .u8 r15_6, .int .u8 r15_7] (Addr.add a (i.toNat * 8)) 0 w3 fun w4 =>
    Sts [.int .i64 (0 : Int), .string (ByteArray.mk #[])] ⟨b6, 0, none⟩ 0 w4 fun w5 =>
    LdI .i64 ⟨b6, 0, none⟩ w5 fun r_0 =>
    LdS ⟨b6, 1, none⟩ w5 fun r_1 =>
    R r_0 r_1 w5) (
    Pn k fun a_1 =>
    LdI .i64 (a_1.add 64) w2 fun x25 =>
    Bm (decide (x25 ≥ (4 : Int))) (
      Sts [.int .i64 (6 : Int), .string (ByteArray.mk #[])] ⟨b6, 0, none⟩ 0 w2 fun w6 =>
      LdI .i64 ⟨b6, 0, none⟩ w6 fun r_0_1 =>
      LdS ⟨b6, 1, none⟩ w6 fun r_1_1 =>
      R r_0_1 r_1_1 w6) (
      Pn k fun a_2 =>
      LdS ⟨c_, 3, none⟩ w2.drew fun x32 =>
      LdS ⟨c_, 4, none⟩ w2.drew fun x34 =>
      kv_table_add.Call (some a_2) x32 x34 w2.drew fun w7 =>
      Sts [.int .i64 (0 : Int), .string (ByteArray.mk #[])] ⟨b6, 0, none⟩ 0 w7 fun w8 =>
      LdI .i64 ⟨b6, 0, none⟩ w8 fun r_0_2 =>
      LdS ⟨b6, 1, none⟩ w8 fun r_1_2 =>
      R r_0_2 r_1_2 w8))) = kstep Try.prog 37 Try.f72.results.toList (Try.f72.body.getD .skip) (kv_KV_put.RV R) (kvc Try.prog 37 Try.f72.results.toList (Try.f72.body.getD .skip) (kv_KV_put.RV R) [] 2000) [(0, [])] [(0, .pointer k), (1, .int .i64 i), (2, .agg #[.int .i64 c_0, .int .i64 c_1, .int .i64 c_2, .string c_3, .string c_4, .string c_5])] w := by kernel_rfl
theorem kv_KV_put.B0_sound {R : Int → ByteArray → World → Prop}  (k : Option Addr) (i c_0 c_1 c_2 : Int) (c_3 c_4 c_5 : ByteArray) (w : World) (h : kv_KV_put.B0 k i c_0 c_1 c_2 c_3 c_4 c_5 w   R) :
    KW Try.prog 72 37 (kv_KV_put.RV R) ([(0, [])].map (toItem (Try.f72.body.getD .skip))) [(0, .pointer k), (1, .int .i64 i), (2, .agg #[.int .i64 c_0, .int .i64 c_1, .int .i64 c_2, .string c_3, .string c_4, .string c_5])] w := by
  exact block_spec Try.func72 Try.mixed stops_nil (Eq.mp (kv_KV_put.B0_eq k i c_0 c_1 c_2 c_3 c_4 c_5 w   R ) h)
theorem kv_KV_put.sound (k : Option Addr) (i c_0 c_1 c_2 : Int) (c_3 c_4 c_5 : ByteArray) (w : World) (R : Int → ByteArray → World → Prop) (h : kv_KV_put.B0 k i c_0 c_1 c_2 c_3 c_4 c_5 w R) : kv_KV_put.Call k i c_0 c_1 c_2 c_3 c_4 c_5 w R := by
  have hc := calls_of_block (args := #[.pointer k, .int .i64 i, .agg #[.int .i64 c_0, .int .i64 c_1, .int .i64 c_2, .string c_3, .string c_4, .string c_5]]) Try.func72 (body := (Try.f72.body.getD .skip)) (by kernel_rfl) (by kernel_rfl) (args_slot _) (kv_KV_put.B0_sound k i c_0 c_1 c_2 c_3 c_4 c_5 w h)
  exact hc.mono fun e w' he => by
    obtain ⟨v, rfl, hv⟩ := he
    exact kv_KV_put.RV_elim hv
def kv_table_drop.B0 (t : Option Addr) (i : Int) (w : World)   (R : World → Prop) : Prop :=
  Pn t fun a =>
  (0 ≤ i ∧ i < ((8 : Nat) : Int)) ∧
  Sts [.int .i64 (2 : Int), .int .i64 (0 : Int), .int .u8 (0 : Int), .int .u8 (0 : Int), .int .i64 (0 : Int), .int .u8 (0 : Int), .int .u8 (0 : Int), .int .u8 (0 : Int)] (Addr.add a (i.toNat * 8)) 0 w fun w1 =>
  Pn t fun a_1 =>
  LdI .i64 (a_1.add 64) w1 fun x13 =>
  Pn t fun a_2 =>
  Sts [.int .i64 (IntKind.i64.wrap (x13 - (1 : Int)))] (a_2.add 64) 0 w1 fun w2 =>
  Pn t fun a_3 =>
  LdI .i64 (a_3.add 65) w2 fun x20 =>
  Pn t fun a_4 =>
  Sts [.int .i64 (IntKind.i64.wrap (x20 + (1 : Int)))] (a_4.add 65) 0 w2 fun w3 =>
  R  w3
theorem kv_table_drop.B0_eq (t : Option Addr) (i : Int) (w : World)   (R : World → Prop)  :
    (
  Pn t fun a =>
  (0 ≤ i ∧ i < ((8 : Nat) : Int)) ∧
  Sts [.int .i64 (2 : Int), .int .i64 (0 : Int), .int .u8 (0 : Int), .int .u8 (0 : Int), .int .i64 (0 : Int), .int .u8 (0 : Int), .int .u8 (0 : Int), .int .u8 (0 : Int)] (Addr.add a (i.toNat * 8)) 0 w fun w1 =>
  Pn t fun a_1 =>
  LdI .i64 (a_1.add 64) w1 fun x13 =>
  Pn t fun a_2 =>
  Sts [.int .i64 (IntKind.i64.wrap (x13 - (1 : Int)))] (a_2.add 64) 0 w1 fun w2 =>
  Pn t fun a_3 =>
  LdI .i64 (a_3.add 65) w2 fun x20 =>
  Pn t fun a_4 =>
  Sts [.int .i64 (IntKind.i64.wrap (x20 + (1 : Int)))] (a_4.add 65) 0 w2 fun w3 =>
  R  w3) = kstep Try.prog 24 Try.f73.results.toList (Try.f73.body.getD .skip) (kv_table_drop.RV R) (kvc Try.prog 24 Try.f73.results.toList (Try.f73.body.getD .skip) (kv_table_drop.RV R) [] 2000) [(0, [])] [(0, .pointer t), (1, .int .i64 i)] w := by kernel_rfl
theorem kv_table_drop.B0_sound {R : World → Prop}  (t : Option Addr) (i : Int) (w : World) (h : kv_table_drop.B0 t i w   R) :
    KW Try.prog 73 24 (kv_table_drop.RV R) ([(0, [])].map (toItem (Try.f73.body.getD .skip))) [(0, .pointer t), (1, .int .i64 i)] w := by
  exact block_spec Try.func73 Try.mixed stops_nil (Eq.mp (kv_table_drop.B0_eq t i w   R ) h)
theorem kv_table_drop.sound (t : Option Addr) (i : Int) (w : World) (R : World → Prop) (h : kv_table_drop.B0 t i w R) : kv_table_drop.Call t i w R := by
  have hc := calls_of_block (args := #[.pointer t, .int .i64 i]) Try.func73 (body := (Try.f73.body.getD .skip)) (by kernel_rfl) (by kernel_rfl) (args_slot _) (kv_table_drop.B0_sound t i w h)
  exact hc.mono fun e w' he => by
    obtain ⟨v, rfl, hv⟩ := he
    exact kv_table_drop.RV_elim hv
def kvm_KV_put.B1 (k : Option Addr) (key val : ByteArray) (j : Int) (t41 : Bool) (w : World) (N1 : Option Addr → ByteArray → ByteArray → Int → World → Prop)  (R : Int → World → Prop) : Prop :=
  Bm t41 (
    Pn k fun a =>
    (0 ≤ (IntKind.i64.wrap (j - (1 : Int))) ∧ (IntKind.i64.wrap (j - (1 : Int))) < ((4 : Nat) : Int)) ∧
    LdS (Addr.add (a.add 1) ((IntKind.i64.wrap (j - (1 : Int))).toNat * 1)) w.drew fun x52 =>
    Pn k fun a_1 =>
    (0 ≤ (IntKind.i64.wrap (j - (1 : Int))) ∧ (IntKind.i64.wrap (j - (1 : Int))) < ((4 : Nat) : Int)) ∧
    LdS (Addr.add (a_1.add 5) ((IntKind.i64.wrap (j - (1 : Int))).toNat * 1)) w.drew fun x59 =>
    Pn k fun a_2 =>
    (0 ≤ j ∧ j < ((4 : Nat) : Int)) ∧
    Pn k fun a_3 =>
    Sts [.string x52] (Addr.add (a_2.add 1) (j.toNat * 1)) 0 w.drew fun w1 =>
    (0 ≤ j ∧ j < ((4 : Nat) : Int)) ∧
    Sts [.string x59] (Addr.add (a_3.add 5) (j.toNat * 1)) 0 w1 fun w2 =>
    N1 k key val (IntKind.i64.wrap (j - (1 : Int))) w2) (
    Pn k fun a_4 =>
    (0 ≤ j ∧ j < ((4 : Nat) : Int)) ∧
    Pn k fun a_5 =>
    Sts [.string key] (Addr.add (a_4.add 1) (j.toNat * 1)) 0 w.drew fun w3 =>
    (0 ≤ j ∧ j < ((4 : Nat) : Int)) ∧
    Sts [.string val] (Addr.add (a_5.add 5) (j.toNat * 1)) 0 w3 fun w4 =>
    Pn k fun a_6 =>
    LdI .i64 a_6 w4 fun x83 =>
    Pn k fun a_7 =>
    Sts [.int .i64 (IntKind.i64.wrap (x83 + (1 : Int)))] a_7 0 w4 fun w5 =>
    R (0 : Int) w5)
theorem kvm_KV_put.B1_eq (k : Option Addr) (key val : ByteArray) (j : Int) (t41 : Bool) (w : World) (N1 : Option Addr → ByteArray → ByteArray → Int → World → Prop)  (R : Int → World → Prop)  :
    (
  Bm t41 (
    Pn k fun a =>
    (0 ≤ (IntKind.i64.wrap (j - (1 : Int))) ∧ (IntKind.i64.wrap (j - (1 : Int))) < ((4 : Nat) : Int)) ∧
    LdS (Addr.add (a.add 1) ((IntKind.i64.wrap (j - (1 : Int))).toNat * 1)) w.drew fun x52 =>
    Pn k fun a_1 =>
    (0 ≤ (IntKind.i64.wrap (j - (1 : Int))) ∧ (IntKind.i64.wrap (j - (1 : Int))) < ((4 : Nat) : Int)) ∧
    LdS (Addr.add (a_1.add 5) ((IntKind.i64.wrap (j - (1 : Int))).toNat * 1)) w.drew fun x59 =>
    Pn k fun a_2 =>
    (0 ≤ j ∧ j < ((4 : Nat) : Int)) ∧
    Pn k fun a_3 =>
    Sts [.string x52] (Addr.add (a_2.add 1) (j.toNat * 1)) 0 w.drew fun w1 =>
    (0 ≤ j ∧ j < ((4 : Nat) : Int)) ∧
    Sts [.string x59] (Addr.add (a_3.add 5) (j.toNat * 1)) 0 w1 fun w2 =>
    N1 k key val (IntKind.i64.wrap (j - (1 : Int))) w2) (
    Pn k fun a_4 =>
    (0 ≤ j ∧ j < ((4 : Nat) : Int)) ∧
    Pn k fun a_5 =>
    Sts [.string key] (Addr.add (a_4.add 1) (j.toNat * 1)) 0 w.drew fun w3 =>
    (0 ≤ j ∧ j < ((4 : Nat) : Int)) ∧
    Sts [.string val] (Addr.add (a_5.add 5) (j.toNat * 1)) 0 w3 fun w4 =>
    Pn k fun a_6 =>
    LdI .i64 a_6 w4 fun x83 =>
    Pn k fun a_7 =>
    Sts [.int .i64 (IntKind.i64.wrap (x83 + (1 : Int)))] a_7 0 w4 fun w5 =>
    R (0 : Int) w5)) = kstep Try.prog 87 Try.f74.results.toList (Try.f74.body.getD .skip) (kvm_KV_put.RV R) (kvc Try.prog 87 Try.f74.results.toList (Try.f74.body.getD .skip) (kvm_KV_put.RV R) [([(0, [1, 1, 1, 1, 1, 0, 0, 0]), (2, [1, 1, 1, 1, 1, 0, 0, 0]), (1, [0]), (0, [1, 1, 1, 1, 1, 1])], fun σ w => dP (slotOf σ 0) fun k_ => dS (slotOf σ 1) fun key_ => dS (slotOf σ 2) fun val_ => dI .i64 (slotOf σ 8) fun j_ => N1 k_ key_ val_ j_ w)] 2000) [(0, [1, 1, 1, 1, 1, 0, 0, 0, 0, 1]), (0, [1, 1, 1, 1, 1, 0, 0, 0, 1]), (2, [1, 1, 1, 1, 1, 0, 0, 0]), (1, [0]), (0, [1, 1, 1, 1, 1, 1])] [(0, .pointer k), (1, .string key), (2, .string val), (8, .int .i64 j), (41, .bool t41)] w := by kernel_rfl
theorem kvm_KV_put.B1_sound {R : Int → World → Prop} {N1 : Option Addr → ByteArray → ByteArray → Int → World → Prop} (hN1 : ∀ k key val j w, N1 k key val j w → KW Try.prog 74 87 (kvm_KV_put.RV R) ([(0, [1, 1, 1, 1, 1, 0, 0, 0]), (2, [1, 1, 1, 1, 1, 0, 0, 0]), (1, [0]), (0, [1, 1, 1, 1, 1, 1])].map (toItem (Try.f74.body.getD .skip))) [(0, .pointer k), (1, .string key), (2, .string val), (8, .int .i64 j)] w) (k : Option Addr) (key val : ByteArray) (j : Int) (t41 : Bool) (w : World) (h : kvm_KV_put.B1 k key val j t41 w N1  R) :
    KW Try.prog 74 87 (kvm_KV_put.RV R) ([(0, [1, 1, 1, 1, 1, 0, 0, 0, 0, 1]), (0, [1, 1, 1, 1, 1, 0, 0, 0, 1]), (2, [1, 1, 1, 1, 1, 0, 0, 0]), (1, [0]), (0, [1, 1, 1, 1, 1, 1])].map (toItem (Try.f74.body.getD .skip))) [(0, .pointer k), (1, .string key), (2, .string val), (8, .int .i64 j), (41, .bool t41)] w := by
  exact block_spec Try.func74 Try.mixed (stops_cons (fun σ w h => by
      obtain ⟨k_, e0, h⟩ := dP_elim h
      obtain ⟨key_, e1, h⟩ := dS_elim h
      obtain ⟨val_, e2, h⟩ := dS_elim h
      obtain ⟨j_, e3, h⟩ := dI_elim h
      exact (hN1 k_ key_ val_ j_ w h).weaken (Sub.cons (Sub.cons (Sub.cons (Sub.cons (Sub.nil _) e3) e2) e1) e0)) stops_nil) (Eq.mp (kvm_KV_put.B1_eq k key val j t41 w N1  R ) h)
def kvm_KV_put.L1b (k : Option Addr) (key val : ByteArray) (j : Int) (w : World)  (N1 : Option Addr → ByteArray → ByteArray → Int → World → Prop) (R : Int → World → Prop) : Prop :=
  Bm (decide (j > (0 : Int))) (
    Pn k fun a =>
    (0 ≤ (IntKind.i64.wrap (j - (1 : Int))) ∧ (IntKind.i64.wrap (j - (1 : Int))) < ((4 : Nat) : Int)) ∧
    LdS (Addr.add (a.add 1) ((IntKind.i64.wrap (j - (1 : Int))).toNat * 1)) w fun x39 =>
    kvm_KV_put.B1 k key val j (Op.bytesLess key.toList x39.toList) w N1 R) (
    kvm_KV_put.B1 k key val j false w N1 R)
theorem kvm_KV_put.L1b_eq (k : Option Addr) (key val : ByteArray) (j : Int) (w : World)  (N1 : Option Addr → ByteArray → ByteArray → Int → World → Prop) (R : Int → World → Prop) (sB1 : Option Addr → ByteArray → ByteArray → Int → Bool → World → Prop) :
    (
  Bm (decide (j > (0 : Int))) (
    Pn k fun a =>
    (0 ≤ (IntKind.i64.wrap (j - (1 : Int))) ∧ (IntKind.i64.wrap (j - (1 : Int))) < ((4 : Nat) : Int)) ∧
    LdS (Addr.add (a.add 1) ((IntKind.i64.wrap (j - (1 : Int))).toNat * 1)) w fun x39 =>
    sB1 k key val j (Op.bytesLess key.toList x39.toList) w) (
    sB1 k key val j false w)) = kstep Try.prog 87 Try.f74.results.toList (Try.f74.body.getD .skip) (kvm_KV_put.RV R) (kvc Try.prog 87 Try.f74.results.toList (Try.f74.body.getD .skip) (kvm_KV_put.RV R) [([(0, [1, 1, 1, 1, 1, 0, 0, 0, 0, 1]), (0, [1, 1, 1, 1, 1, 0, 0, 0, 1]), (2, [1, 1, 1, 1, 1, 0, 0, 0]), (1, [0]), (0, [1, 1, 1, 1, 1, 1])], fun σ w => dP (slotOf σ 0) fun k_ => dS (slotOf σ 1) fun key_ => dS (slotOf σ 2) fun val_ => dI .i64 (slotOf σ 8) fun j_ => dB (slotOf σ 41) fun t41_ => sB1 k_ key_ val_ j_ t41_ w)] 2000) [(0, [1, 1, 1, 1, 1, 0, 0, 0]), (2, [1, 1, 1, 1, 1, 0, 0, 0]), (1, [0]), (0, [1, 1, 1, 1, 1, 1])] [(0, .pointer k), (1, .string key), (2, .string val), (8, .int .i64 j)] w := by kernel_rfl
theorem kvm_KV_put.L1b_sound {R : Int → World → Prop} {N1 : Option Addr → ByteArray → ByteArray → Int → World → Prop} (hN1 : ∀ k key val j w, N1 k key val j w → KW Try.prog 74 87 (kvm_KV_put.RV R) ([(0, [1, 1, 1, 1, 1, 0, 0, 0]), (2, [1, 1, 1, 1, 1, 0, 0, 0]), (1, [0]), (0, [1, 1, 1, 1, 1, 1])].map (toItem (Try.f74.body.getD .skip))) [(0, .pointer k), (1, .string key), (2, .string val), (8, .int .i64 j)] w) (k : Option Addr) (key val : ByteArray) (j : Int) (w : World) (h : kvm_KV_put.L1b k key val j w  N1 R) :
    KW Try.prog 74 87 (kvm_KV_put.RV R) ([(0, [1, 1, 1, 1, 1, 0, 0, 0]), (2, [1, 1, 1, 1, 1, 0, 0, 0]), (1, [0]), (0, [1, 1, 1, 1, 1, 1])].map (toItem (Try.f74.body.getD .skip))) [(0, .pointer k), (1, .string key), (2, .string val), (8, .int .i64 j)] w := by
  exact block_spec Try.func74 Try.mixed (stops_cons (fun σ w h => by
      obtain ⟨k_, e0, h⟩ := dP_elim h
      obtain ⟨key_, e1, h⟩ := dS_elim h
      obtain ⟨val_, e2, h⟩ := dS_elim h
      obtain ⟨j_, e3, h⟩ := dI_elim h
      obtain ⟨t41_, e4, h⟩ := dB_elim h
      exact (kvm_KV_put.B1_sound hN1 k_ key_ val_ j_ t41_ w h).weaken (Sub.cons (Sub.cons (Sub.cons (Sub.cons (Sub.cons (Sub.nil _) e4) e3) e2) e1) e0)) stops_nil) (Eq.mp (kvm_KV_put.L1b_eq k key val j w  N1 R (fun k_ key_ val_ j_ t41_ w => kvm_KV_put.B1 k_ key_ val_ j_ t41_ w N1 R)) h)
def kvm_KV_put.L1 (k : Option Addr) (key val : ByteArray) (j : Int) (w : World)  (R : Int → World → Prop) : Prop :=
  ∃ (I : Nat → Option Addr → ByteArray → ByteArray → Int → World → Prop) (m : Nat), I m k key val j w ∧ ∀ m k key val j w, I m k key val j w → kvm_KV_put.L1b k key val j w  (fun k' key' val' j' w' => ∃ m', m' < m ∧ I m' k' key' val' j' w') R
theorem kvm_KV_put.L1_sound {R : Int → World → Prop}  (k : Option Addr) (key val : ByteArray) (j : Int) (w : World) (h : kvm_KV_put.L1 k key val j w  R) :
    KW Try.prog 74 87 (kvm_KV_put.RV R) ([(0, [1, 1, 1, 1, 1, 0, 0, 0]), (2, [1, 1, 1, 1, 1, 0, 0, 0]), (1, [0]), (0, [1, 1, 1, 1, 1, 1])].map (toItem (Try.f74.body.getD .skip))) [(0, .pointer k), (1, .string key), (2, .string val), (8, .int .i64 j)] w := by
  obtain ⟨I, m, hBase, hr⟩ := h
  refine KW.loop (fun m σ w => ∃ (k : Option Addr) (key val : ByteArray) (j : Int), σ = [(0, .pointer k), (1, .string key), (2, .string val), (8, .int .i64 j)] ∧ I m k key val j w) ?_ m _ w ⟨k, key, val, j, rfl, hBase⟩
  rintro m ih σ w ⟨k, key, val, j, rfl, hI⟩
  exact kvm_KV_put.L1b_sound  (N1 := fun k' key' val' j' w' => ∃ m', m' < m ∧ I m' k' key' val' j' w') (fun k' key' val' j' w' hx => by obtain ⟨m', hlt, hI'⟩ := hx; exact ih m' hlt _ w' ⟨k', key', val', j', rfl, hI'⟩) k key val j w (hr m k key val j w hI)
def kvm_KV_put.B0 (k : Option Addr) (key val : ByteArray) (w : World)   (R : Int → World → Prop) : Prop :=
  kvm_KV_find.Call k key w fun r11 w1 =>
  Bm (decide (r11 ≥ (0 : Int))) (
    Pn k fun a =>
    (0 ≤ r11 ∧ r11 < ((4 : Nat) : Int)) ∧
    Sts [.string val] (Addr.add (a.add 5) (r11.toNat * 1)) 0 w1 fun w2 =>
    R (0 : Int) w2) (
    Pn k fun a_1 =>
    LdI .i64 a_1 w1 fun x23 =>
    Bm (decide (x23 ≥ (4 : Int))) (
      R (6 : Int) w1) (
      Pn k fun a_2 =>
      LdI .i64 a_2 w1 fun x28 =>
      kvm_KV_put.L1 k key val x28 w1  R))
theorem kvm_KV_put.B0_eq (k : Option Addr) (key val : ByteArray) (w : World)   (R : Int → World → Prop) (sL1 : Option Addr → ByteArray → ByteArray → Int → World → Prop) :
    (
  kvm_KV_find.Call k key w fun r11 w1 =>
  Bm (decide (r11 ≥ (0 : Int))) (
    Pn k fun a =>
    (0 ≤ r11 ∧ r11 < ((4 : Nat) : Int)) ∧
    Sts [.string val] (Addr.add (a.add 5) (r11.toNat * 1)) 0 w1 fun w2 =>
    R (0 : Int) w2) (
    Pn k fun a_1 =>
    LdI .i64 a_1 w1 fun x23 =>
    Bm (decide (x23 ≥ (4 : Int))) (
      R (6 : Int) w1) (
      Pn k fun a_2 =>
      LdI .i64 a_2 w1 fun x28 =>
      sL1 k key val x28 w1))) = kstep Try.prog 87 Try.f74.results.toList (Try.f74.body.getD .skip) (kvm_KV_put.RV R) (kvc Try.prog 87 Try.f74.results.toList (Try.f74.body.getD .skip) (kvm_KV_put.RV R) [([(0, [1, 1, 1, 1, 1, 0, 0, 0]), (2, [1, 1, 1, 1, 1, 0, 0, 0]), (1, [0]), (0, [1, 1, 1, 1, 1, 1])], fun σ w => dP (slotOf σ 0) fun k_ => dS (slotOf σ 1) fun key_ => dS (slotOf σ 2) fun val_ => dI .i64 (slotOf σ 8) fun j_ => sL1 k_ key_ val_ j_ w)] 2000) [(0, [])] [(0, .pointer k), (1, .string key), (2, .string val)] w := by kernel_rfl
theorem kvm_KV_put.B0_sound {R : Int → World → Prop}  (k : Option Addr) (key val : ByteArray) (w : World) (h : kvm_KV_put.B0 k key val w   R) :
    KW Try.prog 74 87 (kvm_KV_put.RV R) ([(0, [])].map (toItem (Try.f74.body.getD .skip))) [(0, .pointer k), (1, .string key), (2, .string val)] w := by
  exact block_spec Try.func74 Try.mixed (stops_cons (fun σ w h => by
      obtain ⟨k_, e0, h⟩ := dP_elim h
      obtain ⟨key_, e1, h⟩ := dS_elim h
      obtain ⟨val_, e2, h⟩ := dS_elim h
      obtain ⟨j_, e3, h⟩ := dI_elim h
      exact (kvm_KV_put.L1_sound  k_ key_ val_ j_ w h).weaken (Sub.cons (Sub.cons (Sub.cons (Sub.cons (Sub.nil _) e3) e2) e1) e0)) stops_nil) (Eq.mp (kvm_KV_put.B0_eq k key val w   R (fun k_ key_ val_ j_ w => kvm_KV_put.L1 k_ key_ val_ j_ w  R)) h)
theorem kvm_KV_put.sound (k : Option Addr) (key val : ByteArray) (w : World) (R : Int → World → Prop) (h : kvm_KV_put.B0 k key val w R) : kvm_KV_put.Call k key val w R := by
  have hc := calls_of_block (args := #[.pointer k, .string key, .string val]) Try.func74 (body := (Try.f74.body.getD .skip)) (by kernel_rfl) (by kernel_rfl) (args_slot _) (kvm_KV_put.B0_sound k key val w h)
  exact hc.mono fun e w' he => by
    obtain ⟨v, rfl, hv⟩ := he
    exact kvm_KV_put.RV_elim hv
end Go.Proofs.Qxb6500429a
