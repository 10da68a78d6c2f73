import Derived.Test.Qxb6500424aGreatSig
set_option maxRecDepth 100000
set_option linter.unusedVariables false
open Go.Vc
namespace Go.Proofs.Qxb6500424aGreat
def frame_Link_count.B0 (l : Option Addr) (c : Int) (w : World)   (R : World → Prop) : Prop :=
  Pn l fun a =>
  (0 ≤ c ∧ c < ((4 : Nat) : Int)) ∧
  LdI .i64 (Addr.add (a.add 1) (c.toNat * 1)) w.drew fun x9 =>
  Pn l fun a_1 =>
  (0 ≤ c ∧ c < ((4 : Nat) : Int)) ∧
  Sts [.int .i64 (IntKind.i64.wrap (x9 + (1 : Int)))] (Addr.add (a_1.add 1) (c.toNat * 1)) 0 w.drew fun w1 =>
  Pn l fun a_2 =>
  LdI .i64 (a_2.add 5) w1 fun x17 =>
  Pn l fun a_3 =>
  Sts [.int .i64 (IntKind.i64.wrap (x17 + (1 : Int)))] (a_3.add 5) 0 w1 fun w2 =>
  R  w2
theorem frame_Link_count.B0_eq (l : Option Addr) (c : Int) (w : World)   (R : World → Prop)  :
    (
  Pn l fun a =>
  (0 ≤ c ∧ c < ((4 : Nat) : Int)) ∧
  LdI .i64 (Addr.add (a.add 1) (c.toNat * 1)) w.drew fun x9 =>
  Pn l fun a_1 =>
  (0 ≤ c ∧ c < ((4 : Nat) : Int)) ∧
  Sts [.int .i64 (IntKind.i64.wrap (x9 + (1 : Int)))] (Addr.add (a_1.add 1) (c.toNat * 1)) 0 w.drew fun w1 =>
  Pn l fun a_2 =>
  LdI .i64 (a_2.add 5) w1 fun x17 =>
  Pn l fun a_3 =>
  Sts [.int .i64 (IntKind.i64.wrap (x17 + (1 : Int)))] (a_3.add 5) 0 w1 fun w2 =>
  R  w2) = kstep Tryz.prog 21 Tryz.f146.results.toList (Tryz.f146.body.getD .skip) (frame_Link_count.RV R) (kvc Tryz.prog 21 Tryz.f146.results.toList (Tryz.f146.body.getD .skip) (frame_Link_count.RV R) [] 2000) [(0, [])] [(0, .pointer l), (1, .int .i64 c)] w := by kernel_rfl
theorem frame_Link_count.B0_sound {R : World → Prop}  (l : Option Addr) (c : Int) (w : World) (h : frame_Link_count.B0 l c w   R) :
    KW Tryz.prog 146 21 (frame_Link_count.RV R) ([(0, [])].map (toItem (Tryz.f146.body.getD .skip))) [(0, .pointer l), (1, .int .i64 c)] w := by
  exact block_spec Tryz.func146 Tryz.mixed stops_nil (Eq.mp (frame_Link_count.B0_eq l c w   R ) h)
theorem frame_Link_count.sound (l : Option Addr) (c : Int) (w : World) (R : World → Prop) (h : frame_Link_count.B0 l c w R) : frame_Link_count.Call l c w R := by
  have hc := calls_of_block (args := #[.pointer l, .int .i64 c]) Tryz.func146 (body := (Tryz.f146.body.getD .skip)) (by kernel_rfl) (by kernel_rfl) (args_slot _) (frame_Link_count.B0_sound l c w h)
  exact hc.mono fun e w' he => by
    obtain ⟨v, rfl, hv⟩ := he
    exact frame_Link_count.RV_elim hv
def ip_sumOf.L1b (b_b : Option Addr) (b_l b_c : Nat) (s i : Int) (w : World)  (N1 : Option Addr → Nat → Nat → Int → Int → World → Prop) (R : Int → World → Prop) : Prop :=
  Bm (decide (i < (7 : Int))) (
    Pn b_b fun a =>
    (0 ≤ i ∧ i < ((b_l : Nat) : Int)) ∧
    LdI .u8 (Addr.add a (i.toNat * 1)) w fun x13 =>
    N1 b_b b_l b_c (IntKind.u8.wrap (s + x13)) (IntKind.i64.wrap (i + (1 : Int))) w) (
    R (IntKind.u8.wrap ((255 : Int) - s)) w)
theorem ip_sumOf.L1b_eq (b_b : Option Addr) (b_l b_c : Nat) (s i : Int) (w : World)  (N1 : Option Addr → Nat → Nat → Int → Int → World → Prop) (R : Int → World → Prop)  :
    (
  Bm (decide (i < (7 : Int))) (
    Pn b_b fun a =>
    (0 ≤ i ∧ i < ((b_l : Nat) : Int)) ∧
    LdI .u8 (Addr.add a (i.toNat * 1)) w fun x13 =>
    N1 b_b b_l b_c (IntKind.u8.wrap (s + x13)) (IntKind.i64.wrap (i + (1 : Int))) w) (
    R (IntKind.u8.wrap ((255 : Int) - s)) w)) = kstep Tryz.prog 17 Tryz.f147.results.toList (Tryz.f147.body.getD .skip) (ip_sumOf.RV R) (kvc Tryz.prog 17 Tryz.f147.results.toList (Tryz.f147.body.getD .skip) (ip_sumOf.RV R) [([(0, [1, 1, 0, 1, 0, 0]), (2, [1, 1, 0, 1, 0, 0]), (1, [0]), (0, [1, 1, 1])], fun σ w => dL (slotOf σ 0) fun b_b_ b_l_ b_c_ => dI .u8 (slotOf σ 3) fun s_ => dI .i64 (slotOf σ 4) fun i_ => N1 b_b_ b_l_ b_c_ s_ i_ w)] 2000) [(0, [1, 1, 0, 1, 0, 0]), (2, [1, 1, 0, 1, 0, 0]), (1, [0]), (0, [1, 1, 1])] [(0, .slice b_b b_l b_c), (3, .int .u8 s), (4, .int .i64 i)] w := by kernel_rfl
theorem ip_sumOf.L1b_sound {R : Int → World → Prop} {N1 : Option Addr → Nat → Nat → Int → Int → World → Prop} (hN1 : ∀ b_b b_l b_c s i w, N1 b_b b_l b_c s i w → KW Tryz.prog 147 17 (ip_sumOf.RV R) ([(0, [1, 1, 0, 1, 0, 0]), (2, [1, 1, 0, 1, 0, 0]), (1, [0]), (0, [1, 1, 1])].map (toItem (Tryz.f147.body.getD .skip))) [(0, .slice b_b b_l b_c), (3, .int .u8 s), (4, .int .i64 i)] w) (b_b : Option Addr) (b_l b_c : Nat) (s i : Int) (w : World) (h : ip_sumOf.L1b b_b b_l b_c s i w  N1 R) :
    KW Tryz.prog 147 17 (ip_sumOf.RV R) ([(0, [1, 1, 0, 1, 0, 0]), (2, [1, 1, 0, 1, 0, 0]), (1, [0]), (0, [1, 1, 1])].map (toItem (Tryz.f147.body.getD .skip))) [(0, .slice b_b b_l b_c), (3, .int .u8 s), (4, .int .i64 i)] w := by
  exact block_spec Tryz.func147 Tryz.mixed (stops_cons (fun σ w h => by
      obtain ⟨b_b_, b_l_, b_c_, e0, h⟩ := dL_elim h
      obtain ⟨s_, e1, h⟩ := dI_elim h
      obtain ⟨i_, e2, h⟩ := dI_elim h
      exact (hN1 b_b_ b_l_ b_c_ s_ i_ w h).weaken (Sub.cons (Sub.cons (Sub.cons (Sub.nil _) e2) e1) e0)) stops_nil) (Eq.mp (ip_sumOf.L1b_eq b_b b_l b_c s i w  N1 R ) h)
def ip_sumOf.L1 (b_b : Option Addr) (b_l b_c : Nat) (s i : Int) (w : World)  (R : Int → World → Prop) : Prop :=
  ∃ (I : Nat → Option Addr → Nat → Nat → Int → Int → World → Prop) (m : Nat), I m b_b b_l b_c s i w ∧ ∀ m b_b b_l b_c s i w, I m b_b b_l b_c s i w → ip_sumOf.L1b b_b b_l b_c s i w  (fun b_b' b_l' b_c' s' i' w' => ∃ m', m' < m ∧ I m' b_b' b_l' b_c' s' i' w') R
theorem ip_sumOf.L1_sound {R : Int → World → Prop}  (b_b : Option Addr) (b_l b_c : Nat) (s i : Int) (w : World) (h : ip_sumOf.L1 b_b b_l b_c s i w  R) :
    KW Tryz.prog 147 17 (ip_sumOf.RV R) ([(0, [1, 1, 0, 1, 0, 0]), (2, [1, 1, 0, 1, 0, 0]), (1, [0]), (0, [1, 1, 1])].map (toItem (Tryz.f147.body.getD .skip))) [(0, .slice b_b b_l b_c), (3, .int .u8 s), (4, .int .i64 i)] w := by
  obtain ⟨I, m, hBase, hr⟩ := h
  refine KW.loop (fun m σ w => ∃ (b_b : Option Addr) (b_l b_c : Nat) (s i : Int), σ = [(0, .slice b_b b_l b_c), (3, .int .u8 s), (4, .int .i64 i)] ∧ I m b_b b_l b_c s i w) ?_ m _ w ⟨b_b, b_l, b_c, s, i, rfl, hBase⟩
  rintro m ih σ w ⟨b_b, b_l, b_c, s, i, rfl, hI⟩
  exact ip_sumOf.L1b_sound  (N1 := fun b_b' b_l' b_c' s' i' w' => ∃ m', m' < m ∧ I m' b_b' b_l' b_c' s' i' w') (fun b_b' b_l' b_c' s' i' w' hx => by obtain ⟨m', hlt, hI'⟩ := hx; exact ih m' hlt _ w' ⟨b_b', b_l', b_c', s', i', rfl, hI'⟩) b_b b_l b_c s i w (hr m b_b b_l b_c s i w hI)
def ip_sumOf.B0 (b_b : Option Addr) (b_l b_c : Nat) (w : World)   (R : Int → World → Prop) : Prop :=
  ip_sumOf.L1 b_b b_l b_c (0 : Int) (0 : Int) w  R
theorem ip_sumOf.B0_eq (b_b : Option Addr) (b_l b_c : Nat) (w : World)   (R : Int → World → Prop) (sL1 : Option Addr → Nat → Nat → Int → Int → World → Prop) :
    (
  sL1 b_b b_l b_c (0 : Int) (0 : Int) w) = kstep Tryz.prog 17 Tryz.f147.results.toList (Tryz.f147.body.getD .skip) (ip_sumOf.RV R) (kvc Tryz.prog 17 Tryz.f147.results.toList (Tryz.f147.body.getD .skip) (ip_sumOf.RV R) [([(0, [1, 1, 0, 1, 0, 0]), (2, [1, 1, 0, 1, 0, 0]), (1, [0]), (0, [1, 1, 1])], fun σ w => dL (slotOf σ 0) fun b_b_ b_l_ b_c_ => dI .u8 (slotOf σ 3) fun s_ => dI .i64 (slotOf σ 4) fun i_ => sL1 b_b_ b_l_ b_c_ s_ i_ w)] 2000) [(0, [])] [(0, .slice b_b b_l b_c)] w := by kernel_rfl
theorem ip_sumOf.B0_sound {R : Int → World → Prop}  (b_b : Option Addr) (b_l b_c : Nat) (w : World) (h : ip_sumOf.B0 b_b b_l b_c w   R) :
    KW Tryz.prog 147 17 (ip_sumOf.RV R) ([(0, [])].map (toItem (Tryz.f147.body.getD .skip))) [(0, .slice b_b b_l b_c)] w := by
  exact block_spec Tryz.func147 Tryz.mixed (stops_cons (fun σ w h => by
      obtain ⟨b_b_, b_l_, b_c_, e0, h⟩ := dL_elim h
      obtain ⟨s_, e1, h⟩ := dI_elim h
      obtain ⟨i_, e2, h⟩ := dI_elim h
      exact (ip_sumOf.L1_sound  b_b_ b_l_ b_c_ s_ i_ w h).weaken (Sub.cons (Sub.cons (Sub.cons (Sub.nil _) e2) e1) e0)) stops_nil) (Eq.mp (ip_sumOf.B0_eq b_b b_l b_c w   R (fun b_b_ b_l_ b_c_ s_ i_ w => ip_sumOf.L1 b_b_ b_l_ b_c_ s_ i_ w  R)) h)
theorem ip_sumOf.sound (b_b : Option Addr) (b_l b_c : Nat) (w : World) (R : Int → World → Prop) (h : ip_sumOf.B0 b_b b_l b_c w R) : ip_sumOf.Call b_b b_l b_c w R := by
  have hc := calls_of_block (args := #[.slice b_b b_l b_c]) Tryz.func147 (body := (Tryz.f147.body.getD .skip)) (by kernel_rfl) (by kernel_rfl) (args_slot _) (ip_sumOf.B0_sound b_b b_l b_c w h)
  exact hc.mono fun e w' he => by
    obtain ⟨v, rfl, hv⟩ := he
    exact ip_sumOf.RV_elim hv
def ip_keyOf.B0 (src proto id0 : Int) (w : World)   (R : Int → World → Prop) : Prop :=
  0 ≤ (16 : Int) ∧
  0 ≤ (8 : Int) ∧
  R (IntKind.i64.wrap (BitVec.ofInt IntKind.i64.bits (IntKind.i64.wrap (BitVec.ofInt IntKind.i64.bits (IntKind.i64.wrap (src * 2 ^ (min (16 : Int).toNat IntKind.i64.bits))) ||| BitVec.ofInt IntKind.i64.bits (IntKind.i64.wrap (proto * 2 ^ (min (8 : Int).toNat IntKind.i64.bits)))).toNat) ||| BitVec.ofInt IntKind.i64.bits id0).toNat) w
theorem ip_keyOf.B0_eq (src proto id0 : Int) (w : World)   (R : Int → World → Prop)  :
    (
  0 ≤ (16 : Int) ∧
  0 ≤ (8 : Int) ∧
  R (IntKind.i64.wrap (BitVec.ofInt IntKind.i64.bits (IntKind.i64.wrap (BitVec.ofInt IntKind.i64.bits (IntKind.i64.wrap (src * 2 ^ (min (16 : Int).toNat IntKind.i64.bits))) ||| BitVec.ofInt IntKind.i64.bits (IntKind.i64.wrap (proto * 2 ^ (min (8 : Int).toNat IntKind.i64.bits)))).toNat) ||| BitVec.ofInt IntKind.i64.bits id0).toNat) w) = kstep Tryz.prog 14 Tryz.f148.results.toList (Tryz.f148.body.getD .skip) (ip_keyOf.RV R) (kvc Tryz.prog 14 Tryz.f148.results.toList (Tryz.f148.body.getD .skip) (ip_keyOf.RV R) [] 2000) [(0, [])] [(0, .int .i64 src), (1, .int .i64 proto), (2, .int .i64 id0)] w := by kernel_rfl
theorem ip_keyOf.B0_sound {R : Int → World → Prop}  (src proto id0 : Int) (w : World) (h : ip_keyOf.B0 src proto id0 w   R) :
    KW Tryz.prog 148 14 (ip_keyOf.RV R) ([(0, [])].map (toItem (Tryz.f148.body.getD .skip))) [(0, .int .i64 src), (1, .int .i64 proto), (2, .int .i64 id0)] w := by
  exact block_spec Tryz.func148 Tryz.mixed stops_nil (Eq.mp (ip_keyOf.B0_eq src proto id0 w   R ) h)
theorem ip_keyOf.sound (src proto id0 : Int) (w : World) (R : Int → World → Prop) (h : ip_keyOf.B0 src proto id0 w R) : ip_keyOf.Call src proto id0 w R := by
  have hc := calls_of_block (args := #[.int .i64 src, .int .i64 proto, .int .i64 id0]) Tryz.func148 (body := (Tryz.f148.body.getD .skip)) (by kernel_rfl) (by kernel_rfl) (args_slot _) (ip_keyOf.B0_sound src proto id0 w h)
  exact hc.mono fun e w' he => by
    obtain ⟨v, rfl, hv⟩ := he
    exact ip_keyOf.RV_elim hv
def ip_IP_find.B1 (p : Option Addr) (key i : Int) (t27 : Bool) (w : World) (N1 : Option Addr → Int → Int → World → Prop)  (R : Int → World → Prop) : Prop :=
  Bm t27 (
    R i w) (
    N1 p key (IntKind.i64.wrap (i + (1 : Int))) w)
theorem ip_IP_find.B1_eq (p : Option Addr) (key i : Int) (t27 : Bool) (w : World) (N1 : Option Addr → Int → Int → World → Prop)  (R : Int → World → Prop)  :
    (
  Bm t27 (
    R i w) (
    N1 p key (IntKind.i64.wrap (i + (1 : Int))) w)) = kstep Tryz.prog 29 Tryz.f149.results.toList (Tryz.f149.body.getD .skip) (ip_IP_find.RV R) (kvc Tryz.prog 29 Tryz.f149.results.toList (Tryz.f149.body.getD .skip) (ip_IP_find.RV R) [([(0, [1, 0, 1, 0, 0]), (2, [1, 0, 1, 0, 0]), (1, [0]), (0, [1, 1])], fun σ w => dP (slotOf σ 0) fun p_ => dI .i64 (slotOf σ 1) fun key_ => dI .i64 (slotOf σ 5) fun i_ => N1 p_ key_ i_ w)] 2000) [(0, [1, 0, 1, 0, 0, 1, 0, 0, 1]), (1, [1]), (0, [1, 0, 1, 0, 0, 1, 1]), (2, [1, 0, 1, 0, 0]), (1, [0]), (0, [1, 1])] [(0, .pointer p), (1, .int .i64 key), (5, .int .i64 i), (27, .bool t27)] w := by kernel_rfl
theorem ip_IP_find.B1_sound {R : Int → World → Prop} {N1 : Option Addr → Int → Int → World → Prop} (hN1 : ∀ p key i w, N1 p key i w → KW Tryz.prog 149 29 (ip_IP_find.RV R) ([(0, [1, 0, 1, 0, 0]), (2, [1, 0, 1, 0, 0]), (1, [0]), (0, [1, 1])].map (toItem (Tryz.f149.body.getD .skip))) [(0, .pointer p), (1, .int .i64 key), (5, .int .i64 i)] w) (p : Option Addr) (key i : Int) (t27 : Bool) (w : World) (h : ip_IP_find.B1 p key i t27 w N1  R) :
    KW Tryz.prog 149 29 (ip_IP_find.RV R) ([(0, [1, 0, 1, 0, 0, 1, 0, 0, 1]), (1, [1]), (0, [1, 0, 1, 0, 0, 1, 1]), (2, [1, 0, 1, 0, 0]), (1, [0]), (0, [1, 1])].map (toItem (Tryz.f149.body.getD .skip))) [(0, .pointer p), (1, .int .i64 key), (5, .int .i64 i), (27, .bool t27)] w := by
  exact block_spec Tryz.func149 Tryz.mixed (stops_cons (fun σ w h => by
      obtain ⟨p_, e0, h⟩ := dP_elim h
      obtain ⟨key_, e1, h⟩ := dI_elim h
      obtain ⟨i_, e2, h⟩ := dI_elim h
      exact (hN1 p_ key_ i_ w h).weaken (Sub.cons (Sub.cons (Sub.cons (Sub.nil _) e2) e1) e0)) stops_nil) (Eq.mp (ip_IP_find.B1_eq p key i t27 w N1  R ) h)
def ip_IP_find.L1b (p : Option Addr) (key i : Int) (w : World)  (N1 : Option Addr → Int → Int → World → Prop) (R : Int → World → Prop) : Prop :=
  Bm (decide (i < (3 : Int))) (
    Pn p fun a =>
    (0 ≤ i ∧ i < ((3 : Nat) : Int)) ∧
    LdB (Addr.add (a.add 3) (i.toNat * 45)) w fun x16 =>
    Bm x16 (
      Pn p fun a_1 =>
      (0 ≤ i ∧ i < ((3 : Nat) : Int)) ∧
      LdI .i64 ((Addr.add (a_1.add 3) (i.toNat * 45)).add 1) w fun x24 =>
      ip_IP_find.B1 p key i (x24 == key) w N1 R) (
      ip_IP_find.B1 p key i false w N1 R)) (
    R (-1 : Int) w)
theorem ip_IP_find.L1b_eq (p : Option Addr) (key i : Int) (w : World)  (N1 : Option Addr → Int → Int → World → Prop) (R : Int → World → Prop) (sB1 : Option Addr → Int → Int → Bool → World → Prop) :
    (
  Bm (decide (i < (3 : Int))) (
    Pn p fun a =>
    (0 ≤ i ∧ i < ((3 : Nat) : Int)) ∧
    LdB (Addr.add (a.add 3) (i.toNat * 45)) w fun x16 =>
    Bm x16 (
      Pn p fun a_1 =>
      (0 ≤ i ∧ i < ((3 : Nat) : Int)) ∧
      LdI .i64 ((Addr.add (a_1.add 3) (i.toNat * 45)).add 1) w fun x24 =>
      sB1 p key i (x24 == key) w) (
      sB1 p key i false w)) (
    R (-1 : Int) w)) = kstep Tryz.prog 29 Tryz.f149.results.toList (Tryz.f149.body.getD .skip) (ip_IP_find.RV R) (kvc Tryz.prog 29 Tryz.f149.results.toList (Tryz.f149.body.getD .skip) (ip_IP_find.RV R) [([(0, [1, 0, 1, 0, 0, 1, 0, 0, 1]), (1, [1]), (0, [1, 0, 1, 0, 0, 1, 1]), (2, [1, 0, 1, 0, 0]), (1, [0]), (0, [1, 1])], fun σ w => dP (slotOf σ 0) fun p_ => dI .i64 (slotOf σ 1) fun key_ => dI .i64 (slotOf σ 5) fun i_ => dB (slotOf σ 27) fun t27_ => sB1 p_ key_ i_ t27_ w)] 2000) [(0, [1, 0, 1, 0, 0]), (2, [1, 0, 1, 0, 0]), (1, [0]), (0, [1, 1])] [(0, .pointer p), (1, .int .i64 key), (5, .int .i64 i)] w := by kernel_rfl
theorem ip_IP_find.L1b_sound {R : Int → World → Prop} {N1 : Option Addr → Int → Int → World → Prop} (hN1 : ∀ p key i w, N1 p key i w → KW Tryz.prog 149 29 (ip_IP_find.RV R) ([(0, [1, 0, 1, 0, 0]), (2, [1, 0, 1, 0, 0]), (1, [0]), (0, [1, 1])].map (toItem (Tryz.f149.body.getD .skip))) [(0, .pointer p), (1, .int .i64 key), (5, .int .i64 i)] w) (p : Option Addr) (key i : Int) (w : World) (h : ip_IP_find.L1b p key i w  N1 R) :
    KW Tryz.prog 149 29 (ip_IP_find.RV R) ([(0, [1, 0, 1, 0, 0]), (2, [1, 0, 1, 0, 0]), (1, [0]), (0, [1, 1])].map (toItem (Tryz.f149.body.getD .skip))) [(0, .pointer p), (1, .int .i64 key), (5, .int .i64 i)] w := by
  exact block_spec Tryz.func149 Tryz.mixed (stops_cons (fun σ w h => by
      obtain ⟨p_, e0, h⟩ := dP_elim h
      obtain ⟨key_, e1, h⟩ := dI_elim h
      obtain ⟨i_, e2, h⟩ := dI_elim h
      obtain ⟨t27_, e3, h⟩ := dB_elim h
      exact (ip_IP_find.B1_sound hN1 p_ key_ i_ t27_ w h).weaken (Sub.cons (Sub.cons (Sub.cons (Sub.cons (Sub.nil _) e3) e2) e1) e0)) stops_nil) (Eq.mp (ip_IP_find.L1b_eq p key i w  N1 R (fun p_ key_ i_ t27_ w => ip_IP_find.B1 p_ key_ i_ t27_ w N1 R)) h)
def ip_IP_find.L1 (p : Option Addr) (key i : Int) (w : World)  (R : Int → World → Prop) : Prop :=
  ∃ (I : Nat → Option Addr → Int → Int → World → Prop) (m : Nat), I m p key i w ∧ ∀ m p key i w, I m p key i w → ip_IP_find.L1b p key i w  (fun p' key' i' w' => ∃ m', m' < m ∧ I m' p' key' i' w') R
theorem ip_IP_find.L1_sound {R : Int → World → Prop}  (p : Option Addr) (key i : Int) (w : World) (h : ip_IP_find.L1 p key i w  R) :
    KW Tryz.prog 149 29 (ip_IP_find.RV R) ([(0, [1, 0, 1, 0, 0]), (2, [1, 0, 1, 0, 0]), (1, [0]), (0, [1, 1])].map (toItem (Tryz.f149.body.getD .skip))) [(0, .pointer p), (1, .int .i64 key), (5, .int .i64 i)] w := by
  obtain ⟨I, m, hBase, hr⟩ := h
  refine KW.loop (fun m σ w => ∃ (p : Option Addr) (key i : Int), σ = [(0, .pointer p), (1, .int .i64 key), (5, .int .i64 i)] ∧ I m p key i w) ?_ m _ w ⟨p, key, i, rfl, hBase⟩
  rintro m ih σ w ⟨p, key, i, rfl, hI⟩
  exact ip_IP_find.L1b_sound  (N1 := fun p' key' i' w' => ∃ m', m' < m ∧ I m' p' key' i' w') (fun p' key' i' w' hx => by obtain ⟨m', hlt, hI'⟩ := hx; exact ih m' hlt _ w' ⟨p', key', i', rfl, hI'⟩) p key i w (hr m p key i w hI)
def ip_IP_find.B0 (p : Option Addr) (key : Int) (w : World)   (R : Int → World → Prop) : Prop :=
  ip_IP_find.L1 p key (0 : Int) w  R
theorem ip_IP_find.B0_eq (p : Option Addr) (key : Int) (w : World)   (R : Int → World → Prop) (sL1 : Option Addr → Int → Int → World → Prop) :
    (
  sL1 p key (0 : Int) w) = kstep Tryz.prog 29 Tryz.f149.results.toList (Tryz.f149.body.getD .skip) (ip_IP_find.RV R) (kvc Tryz.prog 29 Tryz.f149.results.toList (Tryz.f149.body.getD .skip) (ip_IP_find.RV R) [([(0, [1, 0, 1, 0, 0]), (2, [1, 0, 1, 0, 0]), (1, [0]), (0, [1, 1])], fun σ w => dP (slotOf σ 0) fun p_ => dI .i64 (slotOf σ 1) fun key_ => dI .i64 (slotOf σ 5) fun i_ => sL1 p_ key_ i_ w)] 2000) [(0, [])] [(0, .pointer p), (1, .int .i64 key)] w := by kernel_rfl
theorem ip_IP_find.B0_sound {R : Int → World → Prop}  (p : Option Addr) (key : Int) (w : World) (h : ip_IP_find.B0 p key w   R) :
    KW Tryz.prog 149 29 (ip_IP_find.RV R) ([(0, [])].map (toItem (Tryz.f149.body.getD .skip))) [(0, .pointer p), (1, .int .i64 key)] w := by
  exact block_spec Tryz.func149 Tryz.mixed (stops_cons (fun σ w h => by
      obtain ⟨p_, e0, h⟩ := dP_elim h
      obtain ⟨key_, e1, h⟩ := dI_elim h
      obtain ⟨i_, e2, h⟩ := dI_elim h
      exact (ip_IP_find.L1_sound  p_ key_ i_ w h).weaken (Sub.cons (Sub.cons (Sub.cons (Sub.nil _) e2) e1) e0)) stops_nil) (Eq.mp (ip_IP_find.B0_eq p key w   R (fun p_ key_ i_ w => ip_IP_find.L1 p_ key_ i_ w  R)) h)
theorem ip_IP_find.sound (p : Option Addr) (key : Int) (w : World) (R : Int → World → Prop) (h : ip_IP_find.B0 p key w R) : ip_IP_find.Call p key w R := by
  have hc := calls_of_block (args := #[.pointer p, .int .i64 key]) Tryz.func149 (body := (Tryz.f149.body.getD .skip)) (by kernel_rfl) (by kernel_rfl) (args_slot _) (ip_IP_find.B0_sound p key w h)
  exact hc.mono fun e w' he => by
    obtain ⟨v, rfl, hv⟩ := he
    exact ip_IP_find.RV_elim hv
def ip_IP_vacant.L1b (p : Option Addr) (i : Int) (w : World)  (N1 : Option Addr → Int → World → Prop) (R : Int → World → Prop) : Prop :=
  Bm (decide (i < (3 : Int))) (
    Pn p fun a =>
    (0 ≤ i ∧ i < ((3 : Nat) : Int)) ∧
    LdB (Addr.add (a.add 3) (i.toNat * 45)) w fun x14 =>
    Bm (!x14) (
      R i w) (
      N1 p (IntKind.i64.wrap (i + (1 : Int))) w)) (
    R (-1 : Int) w)
theorem ip_IP_vacant.L1b_eq (p : Option Addr) (i : Int) (w : World)  (N1 : Option Addr → Int → World → Prop) (R : Int → World → Prop)  :
    (
  Bm (decide (i < (3 : Int))) (
    Pn p fun a =>
    (0 ≤ i ∧ i < ((3 : Nat) : Int)) ∧
    LdB (Addr.add (a.add 3) (i.toNat * 45)) w fun x14 =>
    Bm (!x14) (
      R i w) (
      N1 p (IntKind.i64.wrap (i + (1 : Int))) w)) (
    R (-1 : Int) w)) = kstep Tryz.prog 17 Tryz.f150.results.toList (Tryz.f150.body.getD .skip) (ip_IP_vacant.RV R) (kvc Tryz.prog 17 Tryz.f150.results.toList (Tryz.f150.body.getD .skip) (ip_IP_vacant.RV R) [([(0, [1, 0, 1, 0, 0]), (2, [1, 0, 1, 0, 0]), (1, [0]), (0, [1, 1])], fun σ w => dP (slotOf σ 0) fun p_ => dI .i64 (slotOf σ 3) fun i_ => N1 p_ i_ w)] 2000) [(0, [1, 0, 1, 0, 0]), (2, [1, 0, 1, 0, 0]), (1, [0]), (0, [1, 1])] [(0, .pointer p), (3, .int .i64 i)] w := by kernel_rfl
theorem ip_IP_vacant.L1b_sound {R : Int → World → Prop} {N1 : Option Addr → Int → World → Prop} (hN1 : ∀ p i w, N1 p i w → KW Tryz.prog 150 17 (ip_IP_vacant.RV R) ([(0, [1, 0, 1, 0, 0]), (2, [1, 0, 1, 0, 0]), (1, [0]), (0, [1, 1])].map (toItem (Tryz.f150.body.getD .skip))) [(0, .pointer p), (3, .int .i64 i)] w) (p : Option Addr) (i : Int) (w : World) (h : ip_IP_vacant.L1b p i w  N1 R) :
    KW Tryz.prog 150 17 (ip_IP_vacant.RV R) ([(0, [1, 0, 1, 0, 0]), (2, [1, 0, 1, 0, 0]), (1, [0]), (0, [1, 1])].map (toItem (Tryz.f150.body.getD .skip))) [(0, .pointer p), (3, .int .i64 i)] w := by
  exact block_spec Tryz.func150 Tryz.mixed (stops_cons (fun σ w h => by
      obtain ⟨p_, e0, h⟩ := dP_elim h
      obtain ⟨i_, e1, h⟩ := dI_elim h
      exact (hN1 p_ i_ w h).weaken (Sub.cons (Sub.cons (Sub.nil _) e1) e0)) stops_nil) (Eq.mp (ip_IP_vacant.L1b_eq p i w  N1 R ) h)
def ip_IP_vacant.L1 (p : Option Addr) (i : Int) (w : World)  (R : Int → World → Prop) : Prop :=
  ∃ (I : Nat → Option Addr → Int → World → Prop) (m : Nat), I m p i w ∧ ∀ m p i w, I m p i w → ip_IP_vacant.L1b p i w  (fun p' i' w' => ∃ m', m' < m ∧ I m' p' i' w') R
theorem ip_IP_vacant.L1_sound {R : Int → World → Prop}  (p : Option Addr) (i : Int) (w : World) (h : ip_IP_vacant.L1 p i w  R) :
    KW Tryz.prog 150 17 (ip_IP_vacant.RV R) ([(0, [1, 0, 1, 0, 0]), (2, [1, 0, 1, 0, 0]), (1, [0]), (0, [1, 1])].map (toItem (Tryz.f150.body.getD .skip))) [(0, .pointer p), (3, .int .i64 i)] w := by
  obtain ⟨I, m, hBase, hr⟩ := h
  refine KW.loop (fun m σ w => ∃ (p : Option Addr) (i : Int), σ = [(0, .pointer p), (3, .int .i64 i)] ∧ I m p i w) ?_ m _ w ⟨p, i, rfl, hBase⟩
  rintro m ih σ w ⟨p, i, rfl, hI⟩
  exact ip_IP_vacant.L1b_sound  (N1 := fun p' i' w' => ∃ m', m' < m ∧ I m' p' i' w') (fun p' i' w' hx => by obtain ⟨m', hlt, hI'⟩ := hx; exact ih m' hlt _ w' ⟨p', i', rfl, hI'⟩) p i w (hr m p i w hI)
def ip_IP_vacant.B0 (p : Option Addr) (w : World)   (R : Int → World → Prop) : Prop :=
  ip_IP_vacant.L1 p (0 : Int) w  R
theorem ip_IP_vacant.B0_eq (p : Option Addr) (w : World)   (R : Int → World → Prop) (sL1 : Option Addr → Int → World → Prop) :
    (
  sL1 p (0 : Int) w) = kstep Tryz.prog 17 Tryz.f150.results.toList (Tryz.f150.body.getD .skip) (ip_IP_vacant.RV R) (kvc Tryz.prog 17 Tryz.f150.results.toList (Tryz.f150.body.getD .skip) (ip_IP_vacant.RV R) [([(0, [1, 0, 1, 0, 0]), (2, [1, 0, 1, 0, 0]), (1, [0]), (0, [1, 1])], fun σ w => dP (slotOf σ 0) fun p_ => dI .i64 (slotOf σ 3) fun i_ => sL1 p_ i_ w)] 2000) [(0, [])] [(0, .pointer p)] w := by kernel_rfl
theorem ip_IP_vacant.B0_sound {R : Int → World → Prop}  (p : Option Addr) (w : World) (h : ip_IP_vacant.B0 p w   R) :
    KW Tryz.prog 150 17 (ip_IP_vacant.RV R) ([(0, [])].map (toItem (Tryz.f150.body.getD .skip))) [(0, .pointer p)] w := by
  exact block_spec Tryz.func150 Tryz.mixed (stops_cons (fun σ w h => by
      obtain ⟨p_, e0, h⟩ := dP_elim h
      obtain ⟨i_, e1, h⟩ := dI_elim h
      exact (ip_IP_vacant.L1_sound  p_ i_ w h).weaken (Sub.cons (Sub.cons (Sub.nil _) e1) e0)) stops_nil) (Eq.mp (ip_IP_vacant.B0_eq p w   R (fun p_ i_ w => ip_IP_vacant.L1 p_ i_ w  R)) h)
theorem ip_IP_vacant.sound (p : Option Addr) (w : World) (R : Int → World → Prop) (h : ip_IP_vacant.B0 p w R) : ip_IP_vacant.Call p w R := by
  have hc := calls_of_block (args := #[.pointer p]) Tryz.func150 (body := (Tryz.f150.body.getD .skip)) (by kernel_rfl) (by kernel_rfl) (args_slot _) (ip_IP_vacant.B0_sound p w h)
  exact hc.mono fun e w' he => by
    obtain ⟨v, rfl, hv⟩ := he
    exact ip_IP_vacant.RV_elim hv
def ip_IP_clash.B1 (p : Option Addr) (i end0 : Int) (t31 : Bool) (w : World)   (R : Bool → World → Prop) : Prop :=
  Bm t31 (
    R true w) (
    Pn p fun a =>
    (0 ≤ i ∧ i < ((3 : Nat) : Int)) ∧
    LdI .u64 ((Addr.add (a.add 3) (i.toNat * 45)).add 4) w fun x38 =>
    0 ≤ (IntKind.u64.wrap end0) ∧
    R ((x38.fdiv (2 ^ (min (IntKind.u64.wrap end0).toNat IntKind.u64.bits))) != (0 : Int)) w)
theorem ip_IP_clash.B1_eq (p : Option Addr) (i end0 : Int) (t31 : Bool) (w : World)   (R : Bool → World → Prop)  :
    (
  Bm t31 (
    R true w) (
    Pn p fun a =>
    (0 ≤ i ∧ i < ((3 : Nat) : Int)) ∧
    LdI .u64 ((Addr.add (a.add 3) (i.toNat * 45)).add 4) w fun x38 =>
    0 ≤ (IntKind.u64.wrap end0) ∧
    R ((x38.fdiv (2 ^ (min (IntKind.u64.wrap end0).toNat IntKind.u64.bits))) != (0 : Int)) w)) = kstep Tryz.prog 43 Tryz.f151.results.toList (Tryz.f151.body.getD .skip) (ip_IP_clash.RV R) (kvc Tryz.prog 43 Tryz.f151.results.toList (Tryz.f151.body.getD .skip) (ip_IP_clash.RV R) [] 2000) [(0, [1, 1, 1, 0, 1]), (0, [1, 1, 1, 1])] [(0, .pointer p), (1, .int .i64 i), (2, .int .i64 end0), (31, .bool t31)] w := by kernel_rfl
theorem ip_IP_clash.B1_sound {R : Bool → World → Prop}  (p : Option Addr) (i end0 : Int) (t31 : Bool) (w : World) (h : ip_IP_clash.B1 p i end0 t31 w   R) :
    KW Tryz.prog 151 43 (ip_IP_clash.RV R) ([(0, [1, 1, 1, 0, 1]), (0, [1, 1, 1, 1])].map (toItem (Tryz.f151.body.getD .skip))) [(0, .pointer p), (1, .int .i64 i), (2, .int .i64 end0), (31, .bool t31)] w := by
  exact block_spec Tryz.func151 Tryz.mixed stops_nil (Eq.mp (ip_IP_clash.B1_eq p i end0 t31 w   R ) h)
def ip_IP_clash.B0 (p : Option Addr) (i end0 : Int) (more : Bool) (w : World)   (R : Bool → World → Prop) : Prop :=
  Pn p fun a =>
  (0 ≤ i ∧ i < ((3 : Nat) : Int)) ∧
  LdI .i64 ((Addr.add (a.add 3) (i.toNat * 45)).add 3) w fun x16 =>
  Bm more (
    Bm (decide (x16 ≥ (0 : Int))) (
      R (decide (end0 > x16)) w) (
      R false w)) (
    Bm (decide (x16 ≥ (0 : Int))) (
      ip_IP_clash.B1 p i end0 (x16 != end0) w  R) (
      ip_IP_clash.B1 p i end0 false w  R))
theorem ip_IP_clash.B0_eq (p : Option Addr) (i end0 : Int) (more : Bool) (w : World)   (R : Bool → World → Prop) (sB1 : Option Addr → Int → Int → Bool → World → Prop) :
    (
  Pn p fun a =>
  (0 ≤ i ∧ i < ((3 : Nat) : Int)) ∧
  LdI .i64 ((Addr.add (a.add 3) (i.toNat * 45)).add 3) w fun x16 =>
  Bm more (
    Bm (decide (x16 ≥ (0 : Int))) (
      R (decide (end0 > x16)) w) (
      R false w)) (
    Bm (decide (x16 ≥ (0 : Int))) (
      sB1 p i end0 (x16 != end0) w) (
      sB1 p i end0 false w))) = kstep Tryz.prog 43 Tryz.f151.results.toList (Tryz.f151.body.getD .skip) (ip_IP_clash.RV R) (kvc Tryz.prog 43 Tryz.f151.results.toList (Tryz.f151.body.getD .skip) (ip_IP_clash.RV R) [([(0, [1, 1, 1, 0, 1]), (0, [1, 1, 1, 1])], fun σ w => dP (slotOf σ 0) fun p_ => dI .i64 (slotOf σ 1) fun i_ => dI .i64 (slotOf σ 2) fun end0_ => dB (slotOf σ 31) fun t31_ => sB1 p_ i_ end0_ t31_ w)] 2000) [(0, [])] [(0, .pointer p), (1, .int .i64 i), (2, .int .i64 end0), (3, .bool more)] w := by kernel_rfl
theorem ip_IP_clash.B0_sound {R : Bool → World → Prop}  (p : Option Addr) (i end0 : Int) (more : Bool) (w : World) (h : ip_IP_clash.B0 p i end0 more w   R) :
    KW Tryz.prog 151 43 (ip_IP_clash.RV R) ([(0, [])].map (toItem (Tryz.f151.body.getD .skip))) [(0, .pointer p), (1, .int .i64 i), (2, .int .i64 end0), (3, .bool more)] w := by
  exact block_spec Tryz.func151 Tryz.mixed (stops_cons (fun σ w h => by
      obtain ⟨p_, e0, h⟩ := dP_elim h
      obtain ⟨i_, e1, h⟩ := dI_elim h
      obtain ⟨end0_, e2, h⟩ := dI_elim h
      obtain ⟨t31_, e3, h⟩ := dB_elim h
      exact (ip_IP_clash.B1_sound  p_ i_ end0_ t31_ w h).weaken (Sub.cons (Sub.cons (Sub.cons (Sub.cons (Sub.nil _) e3) e2) e1) e0)) stops_nil) (Eq.mp (ip_IP_clash.B0_eq p i end0 more w   R (fun p_ i_ end0_ t31_ w => ip_IP_clash.B1 p_ i_ end0_ t31_ w  R)) h)
theorem ip_IP_clash.sound (p : Option Addr) (i end0 : Int) (more : Bool) (w : World) (R : Bool → World → Prop) (h : ip_IP_clash.B0 p i end0 more w R) : ip_IP_clash.Call p i end0 more w R := by
  have hc := calls_of_block (args := #[.pointer p, .int .i64 i, .int .i64 end0, .bool more]) Tryz.func151 (body := (Tryz.f151.body.getD .skip)) (by kernel_rfl) (by kernel_rfl) (args_slot _) (ip_IP_clash.B0_sound p i end0 more w h)
  exact hc.mono fun e w' he => by
    obtain ⟨v, rfl, hv⟩ := he
    exact ip_IP_clash.RV_elim hv
def ip_IP_lay.L1b (p : Option Addr) (i off : Int) (payload_b : Option Addr) (payload_l payload_c : Nat) (k : Int) (w : World)  (N1 : Option Addr → Int → Int → Option Addr → Nat → Nat → Int → World → Prop) (R : World → Prop) : Prop :=
  Bm (decide (k < ((payload_l : Nat) : Int))) (
    Pn payload_b fun a =>
    (0 ≤ k ∧ k < ((payload_l : Nat) : Int)) ∧
    LdI .u8 (Addr.add a (k.toNat * 1)) w.drew fun x23 =>
    Pn p fun a_1 =>
    (0 ≤ i ∧ i < ((3 : Nat) : Int)) ∧
    (0 ≤ (IntKind.i64.wrap (off + k)) ∧ (IntKind.i64.wrap (off + k)) < ((40 : Nat) : Int)) ∧
    Sts [.int .u8 x23] (Addr.add ((Addr.add (a_1.add 3) (i.toNat * 45)).add 5) ((IntKind.i64.wrap (off + k)).toNat * 1)) 0 w.drew fun w1 =>
    N1 p i off payload_b payload_l payload_c (IntKind.i64.wrap (k + (1 : Int))) w1) (
    Pn p fun a_2 =>
    (0 ≤ i ∧ i < ((3 : Nat) : Int)) ∧
    LdI .u64 ((Addr.add (a_2.add 3) (i.toNat * 45)).add 4) w.drew fun x35 =>
    Pn p fun a_3 =>
    ip_below.Call ((payload_l : Nat) : Int) w.drew fun r38 w2 =>
    w2.cell? ((Addr.add (a_2.add 3) (i.toNat * 45)).add 4) = some (.int .u64 x35) ∧
    0 ≤ (IntKind.u64.wrap off) ∧
    (0 ≤ i ∧ i < ((3 : Nat) : Int)) ∧
    Sts [.int .u64 (IntKind.u64.wrap (BitVec.ofInt IntKind.u64.bits x35 ||| BitVec.ofInt IntKind.u64.bits (IntKind.u64.wrap (r38 * 2 ^ (min (IntKind.u64.wrap off).toNat IntKind.u64.bits)))).toNat)] ((Addr.add (a_3.add 3) (i.toNat * 45)).add 4) 0 w2 fun w3 =>
    R  w3)
theorem ip_IP_lay.L1b_eq (p : Option Addr) (i off : Int) (payload_b : Option Addr) (payload_l payload_c : Nat) (k : Int) (w : World)  (N1 : Option Addr → Int → Int → Option Addr → Nat → Nat → Int → World → Prop) (R : World → Prop)  :
    (
  Bm (decide (k < ((payload_l : Nat) : Int))) (
    Pn payload_b fun a =>
    (0 ≤ k ∧ k < ((payload_l : Nat) : Int)) ∧
    LdI .u8 (Addr.add a (k.toNat * 1)) w.drew fun x23 =>
    Pn p fun a_1 =>
    (0 ≤ i ∧ i < ((3 : Nat) : Int)) ∧
    (0 ≤ (IntKind.i64.wrap (off + k)) ∧ (IntKind.i64.wrap (off + k)) < ((40 : Nat) : Int)) ∧
    Sts [.int .u8 x23] (Addr.add ((Addr.add (a_1.add 3) (i.toNat * 45)).add 5) ((IntKind.i64.wrap (off + k)).toNat * 1)) 0 w.drew fun w1 =>
    N1 p i off payload_b payload_l payload_c (IntKind.i64.wrap (k + (1 : Int))) w1) (
    Pn p fun a_2 =>
    (0 ≤ i ∧ i < ((3 : Nat) : Int)) ∧
    LdI .u64 ((Addr.add (a_2.add 3) (i.toNat * 45)).add 4) w.drew fun x35 =>
    Pn p fun a_3 =>
    ip_below.Call ((payload_l : Nat) : Int) w.drew fun r38 w2 =>
    w2.cell? ((Addr.add (a_2.add 3) (i.toNat * 45)).add 4) = some (.int .u64 x35) ∧
    0 ≤ (IntKind.u64.wrap off) ∧
    (0 ≤ i ∧ i < ((3 : Nat) : Int)) ∧
    Sts [.int .u64 (IntKind.u64.wrap (BitVec.ofInt IntKind.u64.bits x35 ||| BitVec.ofInt IntKind.u64.bits (IntKind.u64.wrap (r38 * 2 ^ (min (IntKind.u64.wrap off).toNat IntKind.u64.bits)))).toNat)] ((Addr.add (a_3.add 3) (i.toNat * 45)).add 4) 0 w2 fun w3 =>
    R  w3)) = kstep Tryz.prog 47 Tryz.f152.results.toList (Tryz.f152.body.getD .skip) (ip_IP_lay.RV R) (kvc Tryz.prog 47 Tryz.f152.results.toList (Tryz.f152.body.getD .skip) (ip_IP_lay.RV R) [([(0, [0, 1, 0, 0]), (2, [0, 1, 0, 0]), (1, [0]), (0, [1])], fun σ w => dP (slotOf σ 0) fun p_ => dI .i64 (slotOf σ 1) fun i_ => dI .i64 (slotOf σ 2) fun off_ => dL (slotOf σ 3) fun payload_b_ payload_l_ payload_c_ => dI .i64 (slotOf σ 8) fun k_ => N1 p_ i_ off_ payload_b_ payload_l_ payload_c_ k_ w)] 2000) [(0, [0, 1, 0, 0]), (2, [0, 1, 0, 0]), (1, [0]), (0, [1])] [(0, .pointer p), (1, .int .i64 i), (2, .int .i64 off), (3, .slice payload_b payload_l payload_c), (8, .int .i64 k)] w := by kernel_rfl
theorem ip_IP_lay.L1b_sound {R : World → Prop} {N1 : Option Addr → Int → Int → Option Addr → Nat → Nat → Int → World → Prop} (hN1 : ∀ p i off payload_b payload_l payload_c k w, N1 p i off payload_b payload_l payload_c k w → KW Tryz.prog 152 47 (ip_IP_lay.RV R) ([(0, [0, 1, 0, 0]), (2, [0, 1, 0, 0]), (1, [0]), (0, [1])].map (toItem (Tryz.f152.body.getD .skip))) [(0, .pointer p), (1, .int .i64 i), (2, .int .i64 off), (3, .slice payload_b payload_l payload_c), (8, .int .i64 k)] w) (p : Option Addr) (i off : Int) (payload_b : Option Addr) (payload_l payload_c : Nat) (k : Int) (w : World) (h : ip_IP_lay.L1b p i off payload_b payload_l payload_c k w  N1 R) :
    KW Tryz.prog 152 47 (ip_IP_lay.RV R) ([(0, [0, 1, 0, 0]), (2, [0, 1, 0, 0]), (1, [0]), (0, [1])].map (toItem (Tryz.f152.body.getD .skip))) [(0, .pointer p), (1, .int .i64 i), (2, .int .i64 off), (3, .slice payload_b payload_l payload_c), (8, .int .i64 k)] w := by
  exact block_spec Tryz.func152 Tryz.mixed (stops_cons (fun σ w h => by
      obtain ⟨p_, e0, h⟩ := dP_elim h
      obtain ⟨i_, e1, h⟩ := dI_elim h
      obtain ⟨off_, e2, h⟩ := dI_elim h
      obtain ⟨payload_b_, payload_l_, payload_c_, e3, h⟩ := dL_elim h
      obtain ⟨k_, e4, h⟩ := dI_elim h
      exact (hN1 p_ i_ off_ payload_b_ payload_l_ payload_c_ k_ w h).weaken (Sub.cons (Sub.cons (Sub.cons (Sub.cons (Sub.cons (Sub.nil _) e4) e3) e2) e1) e0)) stops_nil) (Eq.mp (ip_IP_lay.L1b_eq p i off payload_b payload_l payload_c k w  N1 R ) h)
def ip_IP_lay.L1 (p : Option Addr) (i off : Int) (payload_b : Option Addr) (payload_l payload_c : Nat) (k : Int) (w : World)  (R : World → Prop) : Prop :=
  ∃ (I : Nat → Option Addr → Int → Int → Option Addr → Nat → Nat → Int → World → Prop) (m : Nat), I m p i off payload_b payload_l payload_c k w ∧ ∀ m p i off payload_b payload_l payload_c k w, I m p i off payload_b payload_l payload_c k w → ip_IP_lay.L1b p i off payload_b payload_l payload_c k w  (fun p' i' off' payload_b' payload_l' payload_c' k' w' => ∃ m', m' < m ∧ I m' p' i' off' payload_b' payload_l' payload_c' k' w') R
theorem ip_IP_lay.L1_sound {R : World → Prop}  (p : Option Addr) (i off : Int) (payload_b : Option Addr) (payload_l payload_c : Nat) (k : Int) (w : World) (h : ip_IP_lay.L1 p i off payload_b payload_l payload_c k w  R) :
    KW Tryz.prog 152 47 (ip_IP_lay.RV R) ([(0, [0, 1, 0, 0]), (2, [0, 1, 0, 0]), (1, [0]), (0, [1])].map (toItem (Tryz.f152.body.getD .skip))) [(0, .pointer p), (1, .int .i64 i), (2, .int .i64 off), (3, .slice payload_b payload_l payload_c), (8, .int .i64 k)] w := by
  obtain ⟨I, m, hBase, hr⟩ := h
  refine KW.loop (fun m σ w => ∃ (p : Option Addr) (i off : Int) (payload_b : Option Addr) (payload_l payload_c : Nat) (k : Int), σ = [(0, .pointer p), (1, .int .i64 i), (2, .int .i64 off), (3, .slice payload_b payload_l payload_c), (8, .int .i64 k)] ∧ I m p i off payload_b payload_l payload_c k w) ?_ m _ w ⟨p, i, off, payload_b, payload_l, payload_c, k, rfl, hBase⟩
  rintro m ih σ w ⟨p, i, off, payload_b, payload_l, payload_c, k, rfl, hI⟩
  exact ip_IP_lay.L1b_sound  (N1 := fun p' i' off' payload_b' payload_l' payload_c' k' w' => ∃ m', m' < m ∧ I m' p' i' off' payload_b' payload_l' payload_c' k' w') (fun p' i' off' payload_b' payload_l' payload_c' k' w' hx => by obtain ⟨m', hlt, hI'⟩ := hx; exact ih m' hlt _ w' ⟨p', i', off', payload_b', payload_l', payload_c', k', rfl, hI'⟩) p i off payload_b payload_l payload_c k w (hr m p i off payload_b payload_l payload_c k w hI)
def ip_IP_lay.B0 (p : Option Addr) (i off : Int) (payload_b : Option Addr) (payload_l payload_c : Nat) (w : World)   (R : World → Prop) : Prop :=
  ip_IP_lay.L1 p i off payload_b payload_l payload_c (0 : Int) w  R
theorem ip_IP_lay.B0_eq (p : Option Addr) (i off : Int) (payload_b : Option Addr) (payload_l payload_c : Nat) (w : World)   (R : World → Prop) (sL1 : Option Addr → Int → Int → Option Addr → Nat → Nat → Int → World → Prop) :
    (
  sL1 p i off payload_b payload_l payload_c (0 : Int) w) = kstep Tryz.prog 47 Tryz.f152.results.toList (Tryz.f152.body.getD .skip) (ip_IP_lay.RV R) (kvc Tryz.prog 47 Tryz.f152.results.toList (Tryz.f152.body.getD .skip) (ip_IP_lay.RV R) [([(0, [0, 1, 0, 0]), (2, [0, 1, 0, 0]), (1, [0]), (0, [1])], fun σ w => dP (slotOf σ 0) fun p_ => dI .i64 (slotOf σ 1) fun i_ => dI .i64 (slotOf σ 2) fun off_ => dL (slotOf σ 3) fun payload_b_ payload_l_ payload_c_ => dI .i64 (slotOf σ 8) fun k_ => sL1 p_ i_ off_ payload_b_ payload_l_ payload_c_ k_ w)] 2000) [(0, [])] [(0, .pointer p), (1, .int .i64 i), (2, .int .i64 off), (3, .slice payload_b payload_l payload_c)] w := by kernel_rfl
theorem ip_IP_lay.B0_sound {R : World → Prop}  (p : Option Addr) (i off : Int) (payload_b : Option Addr) (payload_l payload_c : Nat) (w : World) (h : ip_IP_lay.B0 p i off payload_b payload_l payload_c w   R) :
    KW Tryz.prog 152 47 (ip_IP_lay.RV R) ([(0, [])].map (toItem (Tryz.f152.body.getD .skip))) [(0, .pointer p), (1, .int .i64 i), (2, .int .i64 off), (3, .slice payload_b payload_l payload_c)] w := by
  exact block_spec Tryz.func152 Tryz.mixed (stops_cons (fun σ w h => by
      obtain ⟨p_, e0, h⟩ := dP_elim h
      obtain ⟨i_, e1, h⟩ := dI_elim h
      obtain ⟨off_, e2, h⟩ := dI_elim h
      obtain ⟨payload_b_, payload_l_, payload_c_, e3, h⟩ := dL_elim h
      obtain ⟨k_, e4, h⟩ := dI_elim h
      exact (ip_IP_lay.L1_sound  p_ i_ off_ payload_b_ payload_l_ payload_c_ k_ w h).weaken (Sub.cons (Sub.cons (Sub.cons (Sub.cons (Sub.cons (Sub.nil _) e4) e3) e2) e1) e0)) stops_nil) (Eq.mp (ip_IP_lay.B0_eq p i off payload_b payload_l payload_c w   R (fun p_ i_ off_ payload_b_ payload_l_ payload_c_ k_ w => ip_IP_lay.L1 p_ i_ off_ payload_b_ payload_l_ payload_c_ k_ w  R)) h)
theorem ip_IP_lay.sound (p : Option Addr) (i off : Int) (payload_b : Option Addr) (payload_l payload_c : Nat) (w : World) (R : World → Prop) (h : ip_IP_lay.B0 p i off payload_b payload_l payload_c w R) : ip_IP_lay.Call p i off payload_b payload_l payload_c w R := by
  have hc := calls_of_block (args := #[.pointer p, .int .i64 i, .int .i64 off, .slice payload_b payload_l payload_c]) Tryz.func152 (body := (Tryz.f152.body.getD .skip)) (by kernel_rfl) (by kernel_rfl) (args_slot _) (ip_IP_lay.B0_sound p i off payload_b payload_l payload_c w h)
  exact hc.mono fun e w' he => by
    obtain ⟨v, rfl, hv⟩ := he
    exact ip_IP_lay.RV_elim hv
def ip_IP_whole.B0 (p : Option Addr) (i : Int) (w : World)   (R : Bool → World → Prop) : Prop :=
  Pn p fun a =>
  (0 ≤ i ∧ i < ((3 : Nat) : Int)) ∧
  LdI .i64 ((Addr.add (a.add 3) (i.toNat * 45)).add 3) w fun x13 =>
  Bm (decide (x13 < (0 : Int))) (
    R false w) (
    ip_below.Call x13 w fun r17 w1 =>
    Pn p fun a_1 =>
    (0 ≤ i ∧ i < ((3 : Nat) : Int)) ∧
    LdI .u64 ((Addr.add (a_1.add 3) (i.toNat * 45)).add 4) w1 fun x24 =>
    R ((IntKind.u64.wrap (BitVec.ofInt IntKind.u64.bits x24 &&& BitVec.ofInt IntKind.u64.bits r17).toNat) == r17) w1)
theorem ip_IP_whole.B0_eq (p : Option Addr) (i : Int) (w : World)   (R : Bool → World → Prop)  :
    (
  Pn p fun a =>
  (0 ≤ i ∧ i < ((3 : Nat) : Int)) ∧
  LdI .i64 ((Addr.add (a.add 3) (i.toNat * 45)).add 3) w fun x13 =>
  Bm (decide (x13 < (0 : Int))) (
    R false w) (
    ip_below.Call x13 w fun r17 w1 =>
    Pn p fun a_1 =>
    (0 ≤ i ∧ i < ((3 : Nat) : Int)) ∧
    LdI .u64 ((Addr.add (a_1.add 3) (i.toNat * 45)).add 4) w1 fun x24 =>
    R ((IntKind.u64.wrap (BitVec.ofInt IntKind.u64.bits x24 &&& BitVec.ofInt IntKind.u64.bits r17).toNat) == r17) w1)) = kstep Tryz.prog 29 Tryz.f153.results.toList (Tryz.f153.body.getD .skip) (ip_IP_whole.RV R) (kvc Tryz.prog 29 Tryz.f153.results.toList (Tryz.f153.body.getD .skip) (ip_IP_whole.RV R) [] 2000) [(0, [])] [(0, .pointer p), (1, .int .i64 i)] w := by kernel_rfl
theorem ip_IP_whole.B0_sound {R : Bool → World → Prop}  (p : Option Addr) (i : Int) (w : World) (h : ip_IP_whole.B0 p i w   R) :
    KW Tryz.prog 153 29 (ip_IP_whole.RV R) ([(0, [])].map (toItem (Tryz.f153.body.getD .skip))) [(0, .pointer p), (1, .int .i64 i)] w := by
  exact block_spec Tryz.func153 Tryz.mixed stops_nil (Eq.mp (ip_IP_whole.B0_eq p i w   R ) h)
theorem ip_IP_whole.sound (p : Option Addr) (i : Int) (w : World) (R : Bool → World → Prop) (h : ip_IP_whole.B0 p i w R) : ip_IP_whole.Call p i w R := by
  have hc := calls_of_block (args := #[.pointer p, .int .i64 i]) Tryz.func153 (body := (Tryz.f153.body.getD .skip)) (by kernel_rfl) (by kernel_rfl) (args_slot _) (ip_IP_whole.B0_sound p i w h)
  exact hc.mono fun e w' he => by
    obtain ⟨v, rfl, hv⟩ := he
    exact ip_IP_whole.RV_elim hv
def seg_over.B0 (src dst : Int) (head_b : Option Addr) (head_l head_c : Nat) (data_b : Option Addr) (data_l data_c : Nat) (w : World)   (R : Int → Int → World → Prop) : Prop :=
  New (.cells #[.int .u8 (0 : Int), .int .u8 (0 : Int)] 203) w fun b8 w1 =>
  New (.cells #[.int .u8 (0 : Int), .int .u8 (0 : Int)] 203) w1 fun b w2 =>
  Sts [.int .u8 (0 : Int), .int .u8 (0 : Int)] ⟨b, 0, none⟩ 0 w2 fun w3 =>
  seg_sums_add.Call (some ⟨b, 0, none⟩) (IntKind.u8.wrap src) w3 fun w4 =>
  seg_sums_add.Call (some ⟨b, 0, none⟩) (IntKind.u8.wrap dst) w4 fun w5 =>
  seg_sums_all.Call (some ⟨b, 0, none⟩) head_b head_l head_c w5 fun w6 =>
  seg_sums_all.Call (some ⟨b, 0, none⟩) data_b data_l data_c w6 fun w7 =>
  LdI .u8 ⟨b, 0, none⟩ w7 fun x21_0 =>
  LdI .u8 ⟨b, 1, none⟩ w7 fun x21_1 =>
  Sts [.int .u8 x21_0, .int .u8 x21_1] ⟨b8, 0, none⟩ 0 w7 fun w8 =>
  LdI .u8 ⟨b8, 0, none⟩ w8 fun r_0 =>
  LdI .u8 ⟨b8, 1, none⟩ w8 fun r_1 =>
  R r_0 r_1 w8
theorem seg_over.B0_eq (src dst : Int) (head_b : Option Addr) (head_l head_c : Nat) (data_b : Option Addr) (data_l data_c : Nat) (w : World)   (R : Int → Int → World → Prop)  :
    (
  New (.cells #[.int .u8 (0 : Int), .int .u8 (0 : Int)] 203) w fun b8 w1 =>
  New (.cells #[.int .u8 (0 : Int), .int .u8 (0 : Int)] 203) w1 fun b w2 =>
  Sts [.int .u8 (0 : Int), .int .u8 (0 : Int)] ⟨b, 0, none⟩ 0 w2 fun w3 =>
  seg_sums_add.Call (some ⟨b, 0, none⟩) (IntKind.u8.wrap src) w3 fun w4 =>
  seg_sums_add.Call (some ⟨b, 0, none⟩) (IntKind.u8.wrap dst) w4 fun w5 =>
  seg_sums_all.Call (some ⟨b, 0, none⟩) head_b head_l head_c w5 fun w6 =>
  seg_sums_all.Call (some ⟨b, 0, none⟩) data_b data_l data_c w6 fun w7 =>
  LdI .u8 ⟨b, 0, none⟩ w7 fun x21_0 =>
  LdI .u8 ⟨b, 1, none⟩ w7 fun x21_1 =>
  Sts [.int .u8 x21_0, .int .u8 x21_1] ⟨b8, 0, none⟩ 0 w7 fun w8 =>
  LdI .u8 ⟨b8, 0, none⟩ w8 fun r_0 =>
  LdI .u8 ⟨b8, 1, none⟩ w8 fun r_1 =>
  R r_0 r_1 w8) = kstep Tryz.prog 22 Tryz.f154.results.toList (Tryz.f154.body.getD .skip) (seg_over.RV R) (kvc Tryz.prog 22 Tryz.f154.results.toList (Tryz.f154.body.getD .skip) (seg_over.RV R) [] 2000) [(0, [])] [(0, .int .i64 src), (1, .int .i64 dst), (2, .slice head_b head_l head_c), (3, .slice data_b data_l data_c)] w := by kernel_rfl
theorem seg_over.B0_sound {R : Int → Int → World → Prop}  (src dst : Int) (head_b : Option Addr) (head_l head_c : Nat) (data_b : Option Addr) (data_l data_c : Nat) (w : World) (h : seg_over.B0 src dst head_b head_l head_c data_b data_l data_c w   R) :
    KW Tryz.prog 154 22 (seg_over.RV R) ([(0, [])].map (toItem (Tryz.f154.body.getD .skip))) [(0, .int .i64 src), (1, .int .i64 dst), (2, .slice head_b head_l head_c), (3, .slice data_b data_l data_c)] w := by
  exact block_spec Tryz.func154 Tryz.mixed stops_nil (Eq.mp (seg_over.B0_eq src dst head_b head_l head_c data_b data_l data_c w   R ) h)
theorem seg_over.sound (src dst : Int) (head_b : Option Addr) (head_l head_c : Nat) (data_b : Option Addr) (data_l data_c : Nat) (w : World) (R : Int → Int → World → Prop) (h : seg_over.B0 src dst head_b head_l head_c data_b data_l data_c w R) : seg_over.Call src dst head_b head_l head_c data_b data_l data_c w R := by
  have hc := calls_of_block (args := #[.int .i64 src, .int .i64 dst, .slice head_b head_l head_c, .slice data_b data_l data_c]) Tryz.func154 (body := (Tryz.f154.body.getD .skip)) (by kernel_rfl) (by kernel_rfl) (args_slot _) (seg_over.B0_sound src dst head_b head_l head_c data_b data_l data_c w h)
  exact hc.mono fun e w' he => by
    obtain ⟨v, rfl, hv⟩ := he
    exact seg_over.RV_elim hv
def sock_hash.B0 (lport rhost rport : Int) (w : World)   (R : Int → World → Prop) : Prop :=
  R (IntKind.i64.wrap (BitVec.ofInt IntKind.i64.bits (IntKind.i64.wrap (BitVec.ofInt IntKind.i64.bits (IntKind.i64.wrap (BitVec.ofInt IntKind.i64.bits lport ^^^ BitVec.ofInt IntKind.i64.bits rhost).toNat) ^^^ BitVec.ofInt IntKind.i64.bits rport).toNat) &&& BitVec.ofInt IntKind.i64.bits (3 : Int)).toNat) w
theorem sock_hash.B0_eq (lport rhost rport : Int) (w : World)   (R : Int → World → Prop)  :
    (
  R (IntKind.i64.wrap (BitVec.ofInt IntKind.i64.bits (IntKind.i64.wrap (BitVec.ofInt IntKind.i64.bits (IntKind.i64.wrap (BitVec.ofInt IntKind.i64.bits lport ^^^ BitVec.ofInt IntKind.i64.bits rhost).toNat) ^^^ BitVec.ofInt IntKind.i64.bits rport).toNat) &&& BitVec.ofInt IntKind.i64.bits (3 : Int)).toNat) w) = kstep Tryz.prog 13 Tryz.f155.results.toList (Tryz.f155.body.getD .skip) (sock_hash.RV R) (kvc Tryz.prog 13 Tryz.f155.results.toList (Tryz.f155.body.getD .skip) (sock_hash.RV R) [] 2000) [(0, [])] [(0, .int .i64 lport), (1, .int .i64 rhost), (2, .int .i64 rport)] w := by kernel_rfl
theorem sock_hash.B0_sound {R : Int → World → Prop}  (lport rhost rport : Int) (w : World) (h : sock_hash.B0 lport rhost rport w   R) :
    KW Tryz.prog 155 13 (sock_hash.RV R) ([(0, [])].map (toItem (Tryz.f155.body.getD .skip))) [(0, .int .i64 lport), (1, .int .i64 rhost), (2, .int .i64 rport)] w := by
  exact block_spec Tryz.func155 Tryz.mixed stops_nil (Eq.mp (sock_hash.B0_eq lport rhost rport w   R ) h)
theorem sock_hash.sound (lport rhost rport : Int) (w : World) (R : Int → World → Prop) (h : sock_hash.B0 lport rhost rport w R) : sock_hash.Call lport rhost rport w R := by
  have hc := calls_of_block (args := #[.int .i64 lport, .int .i64 rhost, .int .i64 rport]) Tryz.func155 (body := (Tryz.f155.body.getD .skip)) (by kernel_rfl) (by kernel_rfl) (args_slot _) (sock_hash.B0_sound lport rhost rport w h)
  exact hc.mono fun e w' he => by
    obtain ⟨v, rfl, hv⟩ := he
    exact sock_hash.RV_elim hv
def conn_Conn_Input.B1 (c : Option Addr) (s : Nat) (t31 : Bool) (w : World)   (R : Option Addr → Nat → Nat → World → Prop) : Prop :=
  Bm t31 (
    LdI .i64 ⟨s, 0, none⟩ w fun x35_0 =>
    LdI .i64 ⟨s, 1, none⟩ w fun x35_1 =>
    LdI .i64 ⟨s, 2, none⟩ w fun x35_2 =>
    LdI .i64 ⟨s, 3, none⟩ w fun x35_3 =>
    LdI .i64 ⟨s, 4, none⟩ w fun x35_4 =>
    LdI .i64 ⟨s, 5, none⟩ w fun x35_5 =>
    LdL ⟨s, 6, none⟩ w fun x35_6_b x35_6_l x35_6_c =>
    conn_Conn_inSync.Call c x35_0 x35_1 x35_2 x35_3 x35_4 x35_5 x35_6_b x35_6_l x35_6_c w fun r36_b r36_l r36_c w1 =>
    R r36_b r36_l r36_c w1) (
    New (.cells #[] 177) w fun b37 w2 =>
    R (some ⟨b37, 0, none⟩) 0 0 w2)
theorem conn_Conn_Input.B1_eq (c : Option Addr) (s : Nat) (t31 : Bool) (w : World)   (R : Option Addr → Nat → Nat → World → Prop)  :
    (
  Bm t31 (
    LdI .i64 ⟨s, 0, none⟩ w fun x35_0 =>
    LdI .i64 ⟨s, 1, none⟩ w fun x35_1 =>
    LdI .i64 ⟨s, 2, none⟩ w fun x35_2 =>
    LdI .i64 ⟨s, 3, none⟩ w fun x35_3 =>
    LdI .i64 ⟨s, 4, none⟩ w fun x35_4 =>
    LdI .i64 ⟨s, 5, none⟩ w fun x35_5 =>
    LdL ⟨s, 6, none⟩ w fun x35_6_b x35_6_l x35_6_c =>
    conn_Conn_inSync.Call c x35_0 x35_1 x35_2 x35_3 x35_4 x35_5 x35_6_b x35_6_l x35_6_c w fun r36_b r36_l r36_c w1 =>
    R r36_b r36_l r36_c w1) (
    New (.cells #[] 177) w fun b37 w2 =>
    R (some ⟨b37, 0, none⟩) 0 0 w2)) = kstep Tryz.prog 38 Tryz.f156.results.toList (Tryz.f156.body.getD .skip) (conn_Conn_Input.RV R) (kvc Tryz.prog 38 Tryz.f156.results.toList (Tryz.f156.body.getD .skip) (conn_Conn_Input.RV R) [] 2000) [(0, [1, 1, 1, 1, 0, 1, 0, 1, 1, 1, 1, 1]), (1, [0]), (0, [1, 1, 1, 1, 1])] [(0, .pointer c), (3, .pointer (some ⟨s, 0, none⟩)), (31, .bool t31)] w := by kernel_rfl
theorem conn_Conn_Input.B1_sound {R : Option Addr → Nat → Nat → World → Prop}  (c : Option Addr) (s : Nat) (t31 : Bool) (w : World) (h : conn_Conn_Input.B1 c s t31 w   R) :
    KW Tryz.prog 156 38 (conn_Conn_Input.RV R) ([(0, [1, 1, 1, 1, 0, 1, 0, 1, 1, 1, 1, 1]), (1, [0]), (0, [1, 1, 1, 1, 1])].map (toItem (Tryz.f156.body.getD .skip))) [(0, .pointer c), (3, .pointer (some ⟨s, 0, none⟩)), (31, .bool t31)] w := by
  exact block_spec Tryz.func156 Tryz.mixed stops_nil (Eq.mp (conn_Conn_Input.B1_eq c s t31 w   R ) h)
def conn_Conn_Input.B0 (c : Option Addr) (s_0 s_1 s_2 s_3 s_4 s_5 : Int) (s_6_b : Option Addr) (s_6_l s_6_c : Nat) (w : World)   (R : Option Addr → Nat → Nat → World → Prop) : Prop :=
  New (.cells #[.int .i64 s_0, .int .i64 s_1, .int .i64 s_2, .int .i64 s_3, .int .i64 s_4, .int .i64 s_5, .slice s_6_b s_6_l s_6_c] 177) w fun s_ w1 =>
  LdI .i64 ⟨s_, 2, none⟩ w1 fun x6 =>
  api_SeqAdd.Call x6 (0 : Int) w1 fun r7 w2 =>
  Sts [.int .i64 r7] ⟨s_, 2, none⟩ 0 w2 fun w3 =>
  LdI .i64 ⟨s_, 3, none⟩ w3 fun x10 =>
  api_SeqAdd.Call x10 (0 : Int) w3 fun r11 w4 =>
  Sts [.int .i64 r11] ⟨s_, 3, none⟩ 0 w4 fun w5 =>
  LdI .i64 ⟨s_, 4, none⟩ w5 fun x14 =>
  Sts [.int .i64 (IntKind.i64.wrap (BitVec.ofInt IntKind.i64.bits x14 &&& BitVec.ofInt IntKind.i64.bits (15 : Int)).toNat)] ⟨s_, 4, none⟩ 0 w5 fun w6 =>
  Pn c fun a =>
  LdI .i64 (a.add 2) w6 fun x20 =>
  Bm (x20 == (4 : Int)) (
    LdI .i64 ⟨s_, 0, none⟩ w6 fun x24_0 =>
    LdI .i64 ⟨s_, 1, none⟩ w6 fun x24_1 =>
    LdI .i64 ⟨s_, 2, none⟩ w6 fun x24_2 =>
    LdI .i64 ⟨s_, 3, none⟩ w6 fun x24_3 =>
    LdI .i64 ⟨s_, 4, none⟩ w6 fun x24_4 =>
    LdI .i64 ⟨s_, 5, none⟩ w6 fun x24_5 =>
    LdL ⟨s_, 6, none⟩ w6 fun x24_6_b x24_6_l x24_6_c =>
    conn_Conn_inQuiet.Call c x24_0 x24_1 x24_2 x24_3 x24_4 x24_5 x24_6_b x24_6_l x24_6_c w6 fun r25_b r25_l r25_c w7 =>
    R r25_b r25_l r25_c w7) (
    Bm (x20 == (1 : Int)) (
      LdI .i64 ⟨s_, 0, none⟩ w6 fun x29_0 =>
      LdI .i64 ⟨s_, 1, none⟩ w6 fun x29_1 =>
      LdI .i64 ⟨s_, 2, none⟩ w6 fun x29_2 =>
      LdI .i64 ⟨s_, 3, none⟩ w6 fun x29_3 =>
      LdI .i64 ⟨s_, 4, none⟩ w6 fun x29_4 =>
      LdI .i64 ⟨s_, 5, none⟩ w6 fun x29_5 =>
      LdL ⟨s_, 6, none⟩ w6 fun x29_6_b x29_6_l x29_6_c =>
      conn_Conn_inSynSent.Call c x29_0 x29_1 x29_2 x29_3 x29_4 x29_5 x29_6_b x29_6_l x29_6_c w6 fun r30_b r30_l r30_c w8 =>
      R r30_b r30_l r30_c w8) (
      Bm (x20 == (2 : Int)) (
        conn_Conn_Input.B1 c s_ (x20 == (2 : Int)) w6  R) (
        conn_Conn_Input.B1 c s_ (x20 == (3 : Int)) w6  R)))
theorem conn_Conn_Input.B0_eq (c : Option Addr) (s_0 s_1 s_2 s_3 s_4 s_5 : Int) (s_6_b : Option Addr) (s_6_l s_6_c : Nat) (w : World)   (R : Option Addr → Nat → Nat → World → Prop) (sB1 : Option Addr → Nat → Bool → World → Prop) :
    (
  New (.cells #[.int .i64 s_0, .int .i64 s_1, .int .i64 s_2, .int .i64 s_3, .int .i64 s_4, .int .i64 s_5, .slice s_6_b s_6_l s_6_c] 177) w fun s_ w1 =>
  LdI .i64 ⟨s_, 2, none⟩ w1 fun x6 =>
  api_SeqAdd.Call x6 (0 : Int) w1 fun r7 w2 =>
  Sts [.int .i64 r7] ⟨s_, 2, none⟩ 0 w2 fun w3 =>
  LdI .i64 ⟨s_, 3, none⟩ w3 fun x10 =>
  api_SeqAdd.Call x10 (0 : Int) w3 fun r11 w4 =>
  Sts [.int .i64 r11] ⟨s_, 3, none⟩ 0 w4 fun w5 =>
  LdI .i64 ⟨s_, 4, none⟩ w5 fun x14 =>
  Sts [.int .i64 (IntKind.i64.wrap (BitVec.ofInt IntKind.i64.bits x14 &&& BitVec.ofInt IntKind.i64.bits (15 : Int)).toNat)] ⟨s_, 4, none⟩ 0 w5 fun w6 =>
  Pn c fun a =>
  LdI .i64 (a.add 2) w6 fun x20 =>
  Bm (x20 == (4 : Int)) (
    LdI .i64 ⟨s_, 0, none⟩ w6 fun x24_0 =>
    LdI .i64 ⟨s_, 1, none⟩ w6 fun x24_1 =>
    LdI .i64 ⟨s_, 2, none⟩ w6 fun x24_2 =>
    LdI .i64 ⟨s_, 3, none⟩ w6 fun x24_3 =>
    LdI .i64 ⟨s_, 4, none⟩ w6 fun x24_4 =>
    LdI .i64 ⟨s_, 5, none⟩ w6 fun x24_5 =>
    LdL ⟨s_, 6, none⟩ w6 fun x24_6_b x24_6_l x24_6_c =>
    conn_Conn_inQuiet.Call c x24_0 x24_1 x24_2 x24_3 x24_4 x24_5 x24_6_b x24_6_l x24_6_c w6 fun r25_b r25_l r25_c w7 =>
    R r25_b r25_l r25_c w7) (
    Bm (x20 == (1 : Int)) (
      LdI .i64 ⟨s_, 0, none⟩ w6 fun x29_0 =>
      LdI .i64 ⟨s_, 1, none⟩ w6 fun x29_1 =>
      LdI .i64 ⟨s_, 2, none⟩ w6 fun x29_2 =>
      LdI .i64 ⟨s_, 3, none⟩ w6 fun x29_3 =>
      LdI .i64 ⟨s_, 4, none⟩ w6 fun x29_4 =>
      LdI .i64 ⟨s_, 5, none⟩ w6 fun x29_5 =>
      LdL ⟨s_, 6, none⟩ w6 fun x29_6_b x29_6_l x29_6_c =>
      conn_Conn_inSynSent.Call c x29_0 x29_1 x29_2 x29_3 x29_4 x29_5 x29_6_b x29_6_l x29_6_c w6 fun r30_b r30_l r30_c w8 =>
      R r30_b r30_l r30_c w8) (
      Bm (x20 == (2 : Int)) (
        sB1 c s_ (x20 == (2 : Int)) w6) (
        sB1 c s_ (x20 == (3 : Int)) w6)))) = kstep Tryz.prog 38 Tryz.f156.results.toList (Tryz.f156.body.getD .skip) (conn_Conn_Input.RV R) (kvc Tryz.prog 38 Tryz.f156.results.toList (Tryz.f156.body.getD .skip) (conn_Conn_Input.RV R) [([(0, [1, 1, 1, 1, 0, 1, 0, 1, 1, 1, 1, 1]), (1, [0]), (0, [1, 1, 1, 1, 1])], fun σ w => dP (slotOf σ 0) fun c_ => dK (slotOf σ 3) fun s_ => dB (slotOf σ 31) fun t31_ => sB1 c_ s_ t31_ w)] 2000) [(0, [])] [(0, .pointer c), (1, .agg #[.int .i64 s_0, .int .i64 s_1, .int .i64 s_2, .int .i64 s_3, .int .i64 s_4, .int .i64 s_5, .slice s_6_b s_6_l s_6_c])] w := by kernel_rfl
theorem conn_Conn_Input.B0_sound {R : Option Addr → Nat → Nat → World → Prop}  (c : Option Addr) (s_0 s_1 s_2 s_3 s_4 s_5 : Int) (s_6_b : Option Addr) (s_6_l s_6_c : Nat) (w : World) (h : conn_Conn_Input.B0 c s_0 s_1 s_2 s_3 s_4 s_5 s_6_b s_6_l s_6_c w   R) :
    KW Tryz.prog 156 38 (conn_Conn_Input.RV R) ([(0, [])].map (toItem (Tryz.f156.body.getD .skip))) [(0, .pointer c), (1, .agg #[.int .i64 s_0, .int .i64 s_1, .int .i64 s_2, .int .i64 s_3, .int .i64 s_4, .int .i64 s_5, .slice s_6_b s_6_l s_6_c])] w := by
  exact block_spec Tryz.func156 Tryz.mixed (stops_cons (fun σ w h => by
      obtain ⟨c_, e0, h⟩ := dP_elim h
      obtain ⟨s_, e1, h⟩ := dK_elim h
      obtain ⟨t31_, e2, h⟩ := dB_elim h
      exact (conn_Conn_Input.B1_sound  c_ s_ t31_ w h).weaken (Sub.cons (Sub.cons (Sub.cons (Sub.nil _) e2) e1) e0)) stops_nil) (Eq.mp (conn_Conn_Input.B0_eq c s_0 s_1 s_2 s_3 s_4 s_5 s_6_b s_6_l s_6_c w   R (fun c_ s_ t31_ w => conn_Conn_Input.B1 c_ s_ t31_ w  R)) h)
theorem conn_Conn_Input.sound (c : Option Addr) (s_0 s_1 s_2 s_3 s_4 s_5 : Int) (s_6_b : Option Addr) (s_6_l s_6_c : Nat) (w : World) (R : Option Addr → Nat → Nat → World → Prop) (h : conn_Conn_Input.B0 c s_0 s_1 s_2 s_3 s_4 s_5 s_6_b s_6_l s_6_c w R) : conn_Conn_Input.Call c s_0 s_1 s_2 s_3 s_4 s_5 s_6_b s_6_l s_6_c w R := by
  have hc := calls_of_block (args := #[.pointer c, .agg #[.int .i64 s_0, .int .i64 s_1, .int .i64 s_2, .int .i64 s_3, .int .i64 s_4, .int .i64 s_5, .slice s_6_b s_6_l s_6_c]]) Tryz.func156 (body := (Tryz.f156.body.getD .skip)) (by kernel_rfl) (by kernel_rfl) (args_slot _) (conn_Conn_Input.B0_sound c s_0 s_1 s_2 s_3 s_4 s_5 s_6_b s_6_l s_6_c w h)
  exact hc.mono fun e w' he => by
    obtain ⟨v, rfl, hv⟩ := he
    exact conn_Conn_Input.RV_elim hv
def sock_Table_Ready.B1 (t : Option Addr) (sd i : Int) (t22 : Bool) (w : World)   (R : Int → World → Prop) : Prop :=
  Bm t22 (
    R (21 : Int) w) (
    Pn t fun a =>
    (0 ≤ i ∧ i < ((6 : Nat) : Int)) ∧
    LdB (((Addr.add a (i.toNat * 15)).add 1).add 7) w fun x30 =>
    Bm x30 (
      R (13 : Int) w) (
      Pn t fun a_1 =>
      (0 ≤ i ∧ i < ((6 : Nat) : Int)) ∧
      LdI .i64 (((Addr.add a_1 (i.toNat * 15)).add 1).add 2) w fun x39 =>
      sock_Table_listenerRow.Call t x39 w fun r40 w1 =>
      Bm (r40 == (-1 : Int)) (
        R (21 : Int) w1) (
        Pn t fun a_2 =>
        (0 ≤ i ∧ i < ((6 : Nat) : Int)) ∧
        Sts [.bool true] (((Addr.add a_2 (i.toNat * 15)).add 1).add 7) 0 w1 fun w2 =>
        sock_Table_enqueue.Call t r40 sd w2 fun w3 =>
        R (0 : Int) w3)))
theorem sock_Table_Ready.B1_eq (t : Option Addr) (sd i : Int) (t22 : Bool) (w : World)   (R : Int → World → Prop)  :
    (
  Bm t22 (
    R (21 : Int) w) (
    Pn t fun a =>
    (0 ≤ i ∧ i < ((6 : Nat) : Int)) ∧
    LdB (((Addr.add a (i.toNat * 15)).add 1).add 7) w fun x30 =>
    Bm x30 (
      R (13 : Int) w) (
      Pn t fun a_1 =>
      (0 ≤ i ∧ i < ((6 : Nat) : Int)) ∧
      LdI .i64 (((Addr.add a_1 (i.toNat * 15)).add 1).add 2) w fun x39 =>
      sock_Table_listenerRow.Call t x39 w fun r40 w1 =>
      Bm (r40 == (-1 : Int)) (
        R (21 : Int) w1) (
        Pn t fun a_2 =>
        (0 ≤ i ∧ i < ((6 : Nat) : Int)) ∧
        Sts [.bool true] (((Addr.add a_2 (i.toNat * 15)).add 1).add 7) 0 w1 fun w2 =>
        sock_Table_enqueue.Call t r40 sd w2 fun w3 =>
        R (0 : Int) w3)))) = kstep Tryz.prog 54 Tryz.f157.results.toList (Tryz.f157.body.getD .skip) (sock_Table_Ready.RV R) (kvc Tryz.prog 54 Tryz.f157.results.toList (Tryz.f157.body.getD .skip) (sock_Table_Ready.RV R) [] 2000) [(0, [1, 1, 0, 1]), (0, [1, 1, 1])] [(0, .pointer t), (1, .int .i64 sd), (5, .int .i64 i), (22, .bool t22)] w := by kernel_rfl
theorem sock_Table_Ready.B1_sound {R : Int → World → Prop}  (t : Option Addr) (sd i : Int) (t22 : Bool) (w : World) (h : sock_Table_Ready.B1 t sd i t22 w   R) :
    KW Tryz.prog 157 54 (sock_Table_Ready.RV R) ([(0, [1, 1, 0, 1]), (0, [1, 1, 1])].map (toItem (Tryz.f157.body.getD .skip))) [(0, .pointer t), (1, .int .i64 sd), (5, .int .i64 i), (22, .bool t22)] w := by
  exact block_spec Tryz.func157 Tryz.mixed stops_nil (Eq.mp (sock_Table_Ready.B1_eq t sd i t22 w   R ) h)
def sock_Table_Ready.B0 (t : Option Addr) (sd : Int) (w : World)   (R : Int → World → Prop) : Prop :=
  sock_Table_find.Call t sd w fun r9 w1 =>
  Bm (r9 == (-1 : Int)) (
    sock_Table_Ready.B1 t sd r9 true w1  R) (
    Pn t fun a =>
    (0 ≤ r9 ∧ r9 < ((6 : Nat) : Int)) ∧
    LdI .i64 (((Addr.add a (r9.toNat * 15)).add 1).add 6) w1 fun x20 =>
    sock_Table_Ready.B1 t sd r9 (x20 == (0 : Int)) w1  R)
theorem sock_Table_Ready.B0_eq (t : Option Addr) (sd : Int) (w : World)   (R : Int → World → Prop) (sB1 : Option Addr → Int → Int → Bool → World → Prop) :
    (
  sock_Table_find.Call t sd w fun r9 w1 =>
  Bm (r9 == (-1 : Int)) (
    sB1 t sd r9 true w1) (
    Pn t fun a =>
    (0 ≤ r9 ∧ r9 < ((6 : Nat) : Int)) ∧
    LdI .i64 (((Addr.add a (r9.toNat * 15)).add 1).add 6) w1 fun x20 =>
    sB1 t sd r9 (x20 == (0 : Int)) w1)) = kstep Tryz.prog 54 Tryz.f157.results.toList (Tryz.f157.body.getD .skip) (sock_Table_Ready.RV R) (kvc Tryz.prog 54 Tryz.f157.results.toList (Tryz.f157.body.getD .skip) (sock_Table_Ready.RV R) [([(0, [1, 1, 0, 1]), (0, [1, 1, 1])], fun σ w => dP (slotOf σ 0) fun t_ => dI .i64 (slotOf σ 1) fun sd_ => dI .i64 (slotOf σ 5) fun i_ => dB (slotOf σ 22) fun t22_ => sB1 t_ sd_ i_ t22_ w)] 2000) [(0, [])] [(0, .pointer t), (1, .int .i64 sd)] w := by kernel_rfl
theorem sock_Table_Ready.B0_sound {R : Int → World → Prop}  (t : Option Addr) (sd : Int) (w : World) (h : sock_Table_Ready.B0 t sd w   R) :
    KW Tryz.prog 157 54 (sock_Table_Ready.RV R) ([(0, [])].map (toItem (Tryz.f157.body.getD .skip))) [(0, .pointer t), (1, .int .i64 sd)] w := by
  exact block_spec Tryz.func157 Tryz.mixed (stops_cons (fun σ w h => by
      obtain ⟨t_, e0, h⟩ := dP_elim h
      obtain ⟨sd_, e1, h⟩ := dI_elim h
      obtain ⟨i_, e2, h⟩ := dI_elim h
      obtain ⟨t22_, e3, h⟩ := dB_elim h
      exact (sock_Table_Ready.B1_sound  t_ sd_ i_ t22_ w h).weaken (Sub.cons (Sub.cons (Sub.cons (Sub.cons (Sub.nil _) e3) e2) e1) e0)) stops_nil) (Eq.mp (sock_Table_Ready.B0_eq t sd w   R (fun t_ sd_ i_ t22_ w => sock_Table_Ready.B1 t_ sd_ i_ t22_ w  R)) h)
theorem sock_Table_Ready.sound (t : Option Addr) (sd : Int) (w : World) (R : Int → World → Prop) (h : sock_Table_Ready.B0 t sd w R) : sock_Table_Ready.Call t sd w R := by
  have hc := calls_of_block (args := #[.pointer t, .int .i64 sd]) Tryz.func157 (body := (Tryz.f157.body.getD .skip)) (by kernel_rfl) (by kernel_rfl) (args_slot _) (sock_Table_Ready.B0_sound t sd w h)
  exact hc.mono fun e w' he => by
    obtain ⟨v, rfl, hv⟩ := he
    exact sock_Table_Ready.RV_elim hv
def sock_Table_listenerRow.B1 (t : Option Addr) (lport : Int) (t10 : Bool) (w : World)   (R : Int → World → Prop) : Prop :=
  Bm t10 (
    R (-1 : Int) w) (
    Pn t fun a =>
    (0 ≤ lport ∧ lport < ((8 : Nat) : Int)) ∧
    LdI .i64 (Addr.add (a.add 95) (lport.toNat * 1)) w fun x16 =>
    R x16 w)
theorem sock_Table_listenerRow.B1_eq (t : Option Addr) (lport : Int) (t10 : Bool) (w : World)   (R : Int → World → Prop)  :
    (
  Bm t10 (
    R (-1 : Int) w) (
    Pn t fun a =>
    (0 ≤ lport ∧ lport < ((8 : Nat) : Int)) ∧
    LdI .i64 (Addr.add (a.add 95) (lport.toNat * 1)) w fun x16 =>
    R x16 w)) = kstep Tryz.prog 17 Tryz.f158.results.toList (Tryz.f158.body.getD .skip) (sock_Table_listenerRow.RV R) (kvc Tryz.prog 17 Tryz.f158.results.toList (Tryz.f158.body.getD .skip) (sock_Table_listenerRow.RV R) [] 2000) [(0, [1, 0, 1]), (0, [1, 1])] [(0, .pointer t), (1, .int .i64 lport), (10, .bool t10)] w := by kernel_rfl
theorem sock_Table_listenerRow.B1_sound {R : Int → World → Prop}  (t : Option Addr) (lport : Int) (t10 : Bool) (w : World) (h : sock_Table_listenerRow.B1 t lport t10 w   R) :
    KW Tryz.prog 158 17 (sock_Table_listenerRow.RV R) ([(0, [1, 0, 1]), (0, [1, 1])].map (toItem (Tryz.f158.body.getD .skip))) [(0, .pointer t), (1, .int .i64 lport), (10, .bool t10)] w := by
  exact block_spec Tryz.func158 Tryz.mixed stops_nil (Eq.mp (sock_Table_listenerRow.B1_eq t lport t10 w   R ) h)
def sock_Table_listenerRow.B0 (t : Option Addr) (lport : Int) (w : World)   (R : Int → World → Prop) : Prop :=
  Bm (decide (lport < (1 : Int))) (
    sock_Table_listenerRow.B1 t lport true w  R) (
    sock_Table_listenerRow.B1 t lport (decide (lport ≥ (8 : Int))) w  R)
theorem sock_Table_listenerRow.B0_eq (t : Option Addr) (lport : Int) (w : World)   (R : Int → World → Prop) (sB1 : Option Addr → Int → Bool → World → Prop) :
    (
  Bm (decide (lport < (1 : Int))) (
    sB1 t lport true w) (
    sB1 t lport (decide (lport ≥ (8 : Int))) w)) = kstep Tryz.prog 17 Tryz.f158.results.toList (Tryz.f158.body.getD .skip) (sock_Table_listenerRow.RV R) (kvc Tryz.prog 17 Tryz.f158.results.toList (Tryz.f158.body.getD .skip) (sock_Table_listenerRow.RV R) [([(0, [1, 0, 1]), (0, [1, 1])], fun σ w => dP (slotOf σ 0) fun t_ => dI .i64 (slotOf σ 1) fun lport_ => dB (slotOf σ 10) fun t10_ => sB1 t_ lport_ t10_ w)] 2000) [(0, [])] [(0, .pointer t), (1, .int .i64 lport)] w := by kernel_rfl
theorem sock_Table_listenerRow.B0_sound {R : Int → World → Prop}  (t : Option Addr) (lport : Int) (w : World) (h : sock_Table_listenerRow.B0 t lport w   R) :
    KW Tryz.prog 158 17 (sock_Table_listenerRow.RV R) ([(0, [])].map (toItem (Tryz.f158.body.getD .skip))) [(0, .pointer t), (1, .int .i64 lport)] w := by
  exact block_spec Tryz.func158 Tryz.mixed (stops_cons (fun σ w h => by
      obtain ⟨t_, e0, h⟩ := dP_elim h
      obtain ⟨lport_, e1, h⟩ := dI_elim h
      obtain ⟨t10_, e2, h⟩ := dB_elim h
      exact (sock_Table_listenerRow.B1_sound  t_ lport_ t10_ w h).weaken (Sub.cons (Sub.cons (Sub.cons (Sub.nil _) e2) e1) e0)) stops_nil) (Eq.mp (sock_Table_listenerRow.B0_eq t lport w   R (fun t_ lport_ t10_ w => sock_Table_listenerRow.B1 t_ lport_ t10_ w  R)) h)
theorem sock_Table_listenerRow.sound (t : Option Addr) (lport : Int) (w : World) (R : Int → World → Prop) (h : sock_Table_listenerRow.B0 t lport w R) : sock_Table_listenerRow.Call t lport w R := by
  have hc := calls_of_block (args := #[.pointer t, .int .i64 lport]) Tryz.func158 (body := (Tryz.f158.body.getD .skip)) (by kernel_rfl) (by kernel_rfl) (args_slot _) (sock_Table_listenerRow.B0_sound t lport w h)
  exact hc.mono fun e w' he => by
    obtain ⟨v, rfl, hv⟩ := he
    exact sock_Table_listenerRow.RV_elim hv
end Go.Proofs.Qxb6500424aGreat
