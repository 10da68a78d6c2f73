import Derived.Test.Qxb6500422aGreatSig
set_option maxRecDepth 100000
set_option linter.unusedVariables false
open Go.Vc
namespace Go.Proofs.Qxb6500422aGreat
def seg_RecvBuf_Insert.B2 (b p_b : Option Addr) (p_l p_c : Nat) (d0 w0 i : Int) (w : World) (N1 : Option Addr → Option Addr → Nat → Nat → Int → Int → Int → World → Prop)  (R : Int → World → Prop) : Prop :=
  N1 b p_b p_l p_c d0 w0 (IntKind.i64.wrap (i + (1 : Int))) w
theorem seg_RecvBuf_Insert.B2_eq (b p_b : Option Addr) (p_l p_c : Nat) (d0 w0 i : Int) (w : World) (N1 : Option Addr → Option Addr → Nat → Nat → Int → Int → Int → World → Prop)  (R : Int → World → Prop)  :
    (
  N1 b p_b p_l p_c d0 w0 (IntKind.i64.wrap (i + (1 : Int))) w) = kstep Tryz.prog 116 Tryz.f115.results.toList (Tryz.f115.body.getD .skip) (seg_RecvBuf_Insert.RV R) (kvc Tryz.prog 116 Tryz.f115.results.toList (Tryz.f115.body.getD .skip) (seg_RecvBuf_Insert.RV R) [([(0, [1, 1, 1, 0, 1, 0, 0]), (2, [1, 1, 1, 0, 1, 0, 0]), (1, [0]), (0, [1, 1, 1, 1])], fun σ w => dP (slotOf σ 0) fun b_ => dL (slotOf σ 2) fun p_b_ p_l_ p_c_ => dI .i64 (slotOf σ 7) fun d0_ => dI .i64 (slotOf σ 8) fun w0_ => dI .i64 (slotOf σ 9) fun i_ => N1 b_ p_b_ p_l_ p_c_ d0_ w0_ i_ w)] 2000) [(0, [1, 1, 1, 0, 1, 0, 0, 1, 1]), (2, [1, 1, 1, 0, 1, 0, 0]), (1, [0]), (0, [1, 1, 1, 1])] [(0, .pointer b), (2, .slice p_b p_l p_c), (7, .int .i64 d0), (8, .int .i64 w0), (9, .int .i64 i)] w := by kernel_rfl
theorem seg_RecvBuf_Insert.B2_sound {R : Int → World → Prop} {N1 : Option Addr → Option Addr → Nat → Nat → Int → Int → Int → World → Prop} (hN1 : ∀ b p_b p_l p_c d0 w0 i w, N1 b p_b p_l p_c d0 w0 i w → KW Tryz.prog 115 116 (seg_RecvBuf_Insert.RV R) ([(0, [1, 1, 1, 0, 1, 0, 0]), (2, [1, 1, 1, 0, 1, 0, 0]), (1, [0]), (0, [1, 1, 1, 1])].map (toItem (Tryz.f115.body.getD .skip))) [(0, .pointer b), (2, .slice p_b p_l p_c), (7, .int .i64 d0), (8, .int .i64 w0), (9, .int .i64 i)] w) (b p_b : Option Addr) (p_l p_c : Nat) (d0 w0 i : Int) (w : World) (h : seg_RecvBuf_Insert.B2 b p_b p_l p_c d0 w0 i w N1  R) :
    KW Tryz.prog 115 116 (seg_RecvBuf_Insert.RV R) ([(0, [1, 1, 1, 0, 1, 0, 0, 1, 1]), (2, [1, 1, 1, 0, 1, 0, 0]), (1, [0]), (0, [1, 1, 1, 1])].map (toItem (Tryz.f115.body.getD .skip))) [(0, .pointer b), (2, .slice p_b p_l p_c), (7, .int .i64 d0), (8, .int .i64 w0), (9, .int .i64 i)] w := by
  exact block_spec Tryz.func115 Tryz.mixed (stops_cons (fun σ w h => by
      obtain ⟨b_, e0, h⟩ := dP_elim h
      obtain ⟨p_b_, p_l_, p_c_, e1, h⟩ := dL_elim h
      obtain ⟨d0_, e2, h⟩ := dI_elim h
      obtain ⟨w0_, e3, h⟩ := dI_elim h
      obtain ⟨i_, e4, h⟩ := dI_elim h
      exact (hN1 b_ p_b_ p_l_ p_c_ d0_ w0_ i_ w h).weaken (Sub.cons (Sub.cons (Sub.cons (Sub.cons (Sub.cons (Sub.nil _) e4) e3) e2) e1) e0)) stops_nil) (Eq.mp (seg_RecvBuf_Insert.B2_eq b p_b p_l p_c d0 w0 i w N1  R ) h)
def seg_RecvBuf_Insert.L2b (b : Option Addr) (n m0 : Int) (w : World)  (N2 : Option Addr → Int → Int → World → Prop) (R : Int → World → Prop) : Prop :=
  Pn b fun a =>
  LdI .u16 (a.add 18) w fun x85 =>
  Bm ((IntKind.u16.wrap (BitVec.ofInt IntKind.u16.bits x85 &&& BitVec.ofInt IntKind.u16.bits m0).toNat) != (0 : Int)) (
    Pn b fun a_1 =>
    LdI .u16 (a_1.add 18) w fun x94 =>
    Pn b fun a_2 =>
    Sts [.int .u16 (IntKind.u16.wrap (BitVec.ofInt IntKind.u16.bits x94 &&& ~~~ BitVec.ofInt IntKind.u16.bits m0).toNat)] (a_2.add 18) 0 w fun w1 =>
    Pn b fun a_3 =>
    LdI .u8 (a_3.add 16) w1 fun x102 =>
    Pn b fun a_4 =>
    Sts [.int .u8 (IntKind.u8.wrap (x102 + (1 : Int)))] (a_4.add 16) 0 w1 fun w2 =>
    Pn b fun a_5 =>
    LdI .i64 (a_5.add 17) w2 fun x109 =>
    Pn b fun a_6 =>
    Sts [.int .i64 (IntKind.i64.wrap (x109 + (1 : Int)))] (a_6.add 17) 0 w2 fun w3 =>
    seg_RecvBuf_bit.Call b (0 : Int) w3 fun r90 w4 =>
    N2 b (IntKind.i64.wrap (n + (1 : Int))) r90 w4) (
    R n w)
theorem seg_RecvBuf_Insert.L2b_eq (b : Option Addr) (n m0 : Int) (w : World)  (N2 : Option Addr → Int → Int → World → Prop) (R : Int → World → Prop)  :
    (
  Pn b fun a =>
  LdI .u16 (a.add 18) w fun x85 =>
  Bm ((IntKind.u16.wrap (BitVec.ofInt IntKind.u16.bits x85 &&& BitVec.ofInt IntKind.u16.bits m0).toNat) != (0 : Int)) (
    Pn b fun a_1 =>
    LdI .u16 (a_1.add 18) w fun x94 =>
    Pn b fun a_2 =>
    Sts [.int .u16 (IntKind.u16.wrap (BitVec.ofInt IntKind.u16.bits x94 &&& ~~~ BitVec.ofInt IntKind.u16.bits m0).toNat)] (a_2.add 18) 0 w fun w1 =>
    Pn b fun a_3 =>
    LdI .u8 (a_3.add 16) w1 fun x102 =>
    Pn b fun a_4 =>
    Sts [.int .u8 (IntKind.u8.wrap (x102 + (1 : Int)))] (a_4.add 16) 0 w1 fun w2 =>
    Pn b fun a_5 =>
    LdI .i64 (a_5.add 17) w2 fun x109 =>
    Pn b fun a_6 =>
    Sts [.int .i64 (IntKind.i64.wrap (x109 + (1 : Int)))] (a_6.add 17) 0 w2 fun w3 =>
    seg_RecvBuf_bit.Call b (0 : Int) w3 fun r90 w4 =>
    N2 b (IntKind.i64.wrap (n + (1 : Int))) r90 w4) (
    R n w)) = kstep Tryz.prog 116 Tryz.f115.results.toList (Tryz.f115.body.getD .skip) (seg_RecvBuf_Insert.RV R) (kvc Tryz.prog 116 Tryz.f115.results.toList (Tryz.f115.body.getD .skip) (seg_RecvBuf_Insert.RV R) [([(0, [1, 1, 1, 1, 1, 0, 1, 0, 0]), (2, [1, 1, 1, 1, 1, 0, 1, 0, 0]), (1, [2]), (0, [1, 1, 1, 1, 1, 1])], fun σ w => dP (slotOf σ 0) fun b_ => dI .i64 (slotOf σ 11) fun n_ => dI .u16 (slotOf σ 12) fun m0_ => N2 b_ n_ m0_ w)] 2000) [(0, [1, 1, 1, 1, 1, 0, 1, 0, 0]), (2, [1, 1, 1, 1, 1, 0, 1, 0, 0]), (1, [2]), (0, [1, 1, 1, 1, 1, 1])] [(0, .pointer b), (11, .int .i64 n), (12, .int .u16 m0)] w := by kernel_rfl
theorem seg_RecvBuf_Insert.L2b_sound {R : Int → World → Prop} {N2 : Option Addr → Int → Int → World → Prop} (hN2 : ∀ b n m0 w, N2 b n m0 w → KW Tryz.prog 115 116 (seg_RecvBuf_Insert.RV R) ([(0, [1, 1, 1, 1, 1, 0, 1, 0, 0]), (2, [1, 1, 1, 1, 1, 0, 1, 0, 0]), (1, [2]), (0, [1, 1, 1, 1, 1, 1])].map (toItem (Tryz.f115.body.getD .skip))) [(0, .pointer b), (11, .int .i64 n), (12, .int .u16 m0)] w) (b : Option Addr) (n m0 : Int) (w : World) (h : seg_RecvBuf_Insert.L2b b n m0 w  N2 R) :
    KW Tryz.prog 115 116 (seg_RecvBuf_Insert.RV R) ([(0, [1, 1, 1, 1, 1, 0, 1, 0, 0]), (2, [1, 1, 1, 1, 1, 0, 1, 0, 0]), (1, [2]), (0, [1, 1, 1, 1, 1, 1])].map (toItem (Tryz.f115.body.getD .skip))) [(0, .pointer b), (11, .int .i64 n), (12, .int .u16 m0)] w := by
  exact block_spec Tryz.func115 Tryz.mixed (stops_cons (fun σ w h => by
      obtain ⟨b_, e0, h⟩ := dP_elim h
      obtain ⟨n_, e1, h⟩ := dI_elim h
      obtain ⟨m0_, e2, h⟩ := dI_elim h
      exact (hN2 b_ n_ m0_ w h).weaken (Sub.cons (Sub.cons (Sub.cons (Sub.nil _) e2) e1) e0)) stops_nil) (Eq.mp (seg_RecvBuf_Insert.L2b_eq b n m0 w  N2 R ) h)
def seg_RecvBuf_Insert.L2 (b : Option Addr) (n m0 : Int) (w : World)  (R : Int → World → Prop) : Prop :=
  ∃ (I : Nat → Option Addr → Int → Int → World → Prop) (m : Nat), I m b n m0 w ∧ ∀ m b n m0 w, I m b n m0 w → seg_RecvBuf_Insert.L2b b n m0 w  (fun b' n' m0' w' => ∃ m', m' < m ∧ I m' b' n' m0' w') R
theorem seg_RecvBuf_Insert.L2_sound {R : Int → World → Prop}  (b : Option Addr) (n m0 : Int) (w : World) (h : seg_RecvBuf_Insert.L2 b n m0 w  R) :
    KW Tryz.prog 115 116 (seg_RecvBuf_Insert.RV R) ([(0, [1, 1, 1, 1, 1, 0, 1, 0, 0]), (2, [1, 1, 1, 1, 1, 0, 1, 0, 0]), (1, [2]), (0, [1, 1, 1, 1, 1, 1])].map (toItem (Tryz.f115.body.getD .skip))) [(0, .pointer b), (11, .int .i64 n), (12, .int .u16 m0)] w := by
  obtain ⟨I, m, hBase, hr⟩ := h
  refine KW.loop (fun m σ w => ∃ (b : Option Addr) (n m0 : Int), σ = [(0, .pointer b), (11, .int .i64 n), (12, .int .u16 m0)] ∧ I m b n m0 w) ?_ m _ w ⟨b, n, m0, rfl, hBase⟩
  rintro m ih σ w ⟨b, n, m0, rfl, hI⟩
  exact seg_RecvBuf_Insert.L2b_sound  (N2 := fun b' n' m0' w' => ∃ m', m' < m ∧ I m' b' n' m0' w') (fun b' n' m0' w' hx => by obtain ⟨m', hlt, hI'⟩ := hx; exact ih m' hlt _ w' ⟨b', n', m0', rfl, hI'⟩) b n m0 w (hr m b n m0 w hI)
def seg_RecvBuf_Insert.B1 (b p_b : Option Addr) (p_l p_c : Nat) (d0 w0 i : Int) (t35 : Bool) (w : World) (N1 : Option Addr → Option Addr → Nat → Nat → Int → Int → Int → World → Prop)  (R : Int → World → Prop) : Prop :=
  Bm t35 (
    Bm (decide ((IntKind.i64.wrap (d0 + i)) < (0 : Int))) (
      seg_RecvBuf_Insert.B2 b p_b p_l p_c d0 w0 i w N1 R) (
      seg_RecvBuf_bit.Call b (IntKind.i64.wrap (d0 + i)) w fun r46 w1 =>
      Pn b fun a =>
      LdI .u16 (a.add 18) w1 fun x50 =>
      Bm ((IntKind.u16.wrap (BitVec.ofInt IntKind.u16.bits x50 &&& BitVec.ofInt IntKind.u16.bits r46).toNat) == (0 : Int)) (
        Pn b fun a_1 =>
        LdI .u16 (a_1.add 18) w1 fun x57 =>
        Pn b fun a_2 =>
        Sts [.int .u16 (IntKind.u16.wrap (BitVec.ofInt IntKind.u16.bits x57 ||| BitVec.ofInt IntKind.u16.bits r46).toNat)] (a_2.add 18) 0 w1 fun w2 =>
        Pn b fun a_3 =>
        LdI .u8 (a_3.add 16) w2.drew fun x66 =>
        (16 : Int) ≠ 0 ∧
        Pn p_b fun a_4 =>
        (0 ≤ i ∧ i < ((p_l : Nat) : Int)) ∧
        LdI .u8 (Addr.add a_4 (i.toNat * 1)) w2.drew fun x76 =>
        Pn b fun a_5 =>
        (0 ≤ ((IntKind.i64.wrap ((IntKind.i64.wrap ((IntKind.i64.wrap x66) + d0)) + i)).tmod (16 : Int)) ∧ ((IntKind.i64.wrap ((IntKind.i64.wrap ((IntKind.i64.wrap x66) + d0)) + i)).tmod (16 : Int)) < ((16 : Nat) : Int)) ∧
        Sts [.int .u8 x76] (Addr.add a_5 (((IntKind.i64.wrap ((IntKind.i64.wrap ((IntKind.i64.wrap x66) + d0)) + i)).tmod (16 : Int)).toNat * 1)) 0 w2.drew fun w3 =>
        seg_RecvBuf_Insert.B2 b p_b p_l p_c d0 w0 i w3 N1 R) (
        seg_RecvBuf_Insert.B2 b p_b p_l p_c d0 w0 i w1 N1 R))) (
    seg_RecvBuf_bit.Call b (0 : Int) w fun r81 w4 =>
    seg_RecvBuf_Insert.L2 b (0 : Int) r81 w4  R)
theorem seg_RecvBuf_Insert.B1_eq (b p_b : Option Addr) (p_l p_c : Nat) (d0 w0 i : Int) (t35 : Bool) (w : World) (N1 : Option Addr → Option Addr → Nat → Nat → Int → Int → Int → World → Prop)  (R : Int → World → Prop) (sB2 : Option Addr → Option Addr → Nat → Nat → Int → Int → Int → World → Prop) (sL2 : Option Addr → Int → Int → World → Prop) :
    (
  Bm t35 (
    Bm (decide ((IntKind.i64.wrap (d0 + i)) < (0 : Int))) (
      sB2 b p_b p_l p_c d0 w0 i w) (
      seg_RecvBuf_bit.Call b (IntKind.i64.wrap (d0 + i)) w fun r46 w1 =>
      Pn b fun a =>
      LdI .u16 (a.add 18) w1 fun x50 =>
      Bm ((IntKind.u16.wrap (BitVec.ofInt IntKind.u16.bits x50 &&& BitVec.ofInt IntKind.u16.bits r46).toNat) == (0 : Int)) (
        Pn b fun a_1 =>
        LdI .u16 (a_1.add 18) w1 fun x57 =>
        Pn b fun a_2 =>
        Sts [.int .u16 (IntKind.u16.wrap (BitVec.ofInt IntKind.u16.bits x57 ||| BitVec.ofInt IntKind.u16.bits r46).toNat)] (a_2.add 18) 0 w1 fun w2 =>
        Pn b fun a_3 =>
        LdI .u8 (a_3.add 16) w2.drew fun x66 =>
        (16 : Int) ≠ 0 ∧
        Pn p_b fun a_4 =>
        (0 ≤ i ∧ i < ((p_l : Nat) : Int)) ∧
        LdI .u8 (Addr.add a_4 (i.toNat * 1)) w2.drew fun x76 =>
        Pn b fun a_5 =>
        (0 ≤ ((IntKind.i64.wrap ((IntKind.i64.wrap ((IntKind.i64.wrap x66) + d0)) + i)).tmod (16 : Int)) ∧ ((IntKind.i64.wrap ((IntKind.i64.wrap ((IntKind.i64.wrap x66) + d0)) + i)).tmod (16 : Int)) < ((16 : Nat) : Int)) ∧
        Sts [.int .u8 x76] (Addr.add a_5 (((IntKind.i64.wrap ((IntKind.i64.wrap ((IntKind.i64.wrap x66) + d0)) + i)).tmod (16 : Int)).toNat * 1)) 0 w2.drew fun w3 =>
        sB2 b p_b p_l p_c d0 w0 i w3) (
        sB2 b p_b p_l p_c d0 w0 i w1))) (
    seg_RecvBuf_bit.Call b (0 : Int) w fun r81 w4 =>
    sL2 b (0 : Int) r81 w4)) = kstep Tryz.prog 116 Tryz.f115.results.toList (Tryz.f115.body.getD .skip) (seg_RecvBuf_Insert.RV R) (kvc Tryz.prog 116 Tryz.f115.results.toList (Tryz.f115.body.getD .skip) (seg_RecvBuf_Insert.RV R) [([(0, [1, 1, 1, 0, 1, 0, 0, 1, 1]), (2, [1, 1, 1, 0, 1, 0, 0]), (1, [0]), (0, [1, 1, 1, 1])], fun σ w => dP (slotOf σ 0) fun b_ => dL (slotOf σ 2) fun p_b_ p_l_ p_c_ => dI .i64 (slotOf σ 7) fun d0_ => dI .i64 (slotOf σ 8) fun w0_ => dI .i64 (slotOf σ 9) fun i_ => sB2 b_ p_b_ p_l_ p_c_ d0_ w0_ i_ w),
    ([(0, [1, 1, 1, 1, 1, 0, 1, 0, 0]), (2, [1, 1, 1, 1, 1, 0, 1, 0, 0]), (1, [2]), (0, [1, 1, 1, 1, 1, 1])], fun σ w => dP (slotOf σ 0) fun b_ => dI .i64 (slotOf σ 11) fun n_ => dI .u16 (slotOf σ 12) fun m0_ => sL2 b_ n_ m0_ w)] 2000) [(0, [1, 1, 1, 0, 1, 0, 0, 0, 1]), (0, [1, 1, 1, 0, 1, 0, 0, 1]), (2, [1, 1, 1, 0, 1, 0, 0]), (1, [0]), (0, [1, 1, 1, 1])] [(0, .pointer b), (2, .slice p_b p_l p_c), (7, .int .i64 d0), (8, .int .i64 w0), (9, .int .i64 i), (35, .bool t35)] w := by kernel_rfl
theorem seg_RecvBuf_Insert.B1_sound {R : Int → World → Prop} {N1 : Option Addr → Option Addr → Nat → Nat → Int → Int → Int → World → Prop} (hN1 : ∀ b p_b p_l p_c d0 w0 i w, N1 b p_b p_l p_c d0 w0 i w → KW Tryz.prog 115 116 (seg_RecvBuf_Insert.RV R) ([(0, [1, 1, 1, 0, 1, 0, 0]), (2, [1, 1, 1, 0, 1, 0, 0]), (1, [0]), (0, [1, 1, 1, 1])].map (toItem (Tryz.f115.body.getD .skip))) [(0, .pointer b), (2, .slice p_b p_l p_c), (7, .int .i64 d0), (8, .int .i64 w0), (9, .int .i64 i)] w) (b p_b : Option Addr) (p_l p_c : Nat) (d0 w0 i : Int) (t35 : Bool) (w : World) (h : seg_RecvBuf_Insert.B1 b p_b p_l p_c d0 w0 i t35 w N1  R) :
    KW Tryz.prog 115 116 (seg_RecvBuf_Insert.RV R) ([(0, [1, 1, 1, 0, 1, 0, 0, 0, 1]), (0, [1, 1, 1, 0, 1, 0, 0, 1]), (2, [1, 1, 1, 0, 1, 0, 0]), (1, [0]), (0, [1, 1, 1, 1])].map (toItem (Tryz.f115.body.getD .skip))) [(0, .pointer b), (2, .slice p_b p_l p_c), (7, .int .i64 d0), (8, .int .i64 w0), (9, .int .i64 i), (35, .bool t35)] w := by
  exact block_spec Tryz.func115 Tryz.mixed (stops_cons (fun σ w h => by
      obtain ⟨b_, e0, h⟩ := dP_elim h
      obtain ⟨p_b_, p_l_, p_c_, e1, h⟩ := dL_elim h
      obtain ⟨d0_, e2, h⟩ := dI_elim h
      obtain ⟨w0_, e3, h⟩ := dI_elim h
      obtain ⟨i_, e4, h⟩ := dI_elim h
      exact (seg_RecvBuf_Insert.B2_sound hN1 b_ p_b_ p_l_ p_c_ d0_ w0_ i_ w h).weaken (Sub.cons (Sub.cons (Sub.cons (Sub.cons (Sub.cons (Sub.nil _) e4) e3) e2) e1) e0)) (stops_cons (fun σ w h => by
      obtain ⟨b_, e0, h⟩ := dP_elim h
      obtain ⟨n_, e1, h⟩ := dI_elim h
      obtain ⟨m0_, e2, h⟩ := dI_elim h
      exact (seg_RecvBuf_Insert.L2_sound  b_ n_ m0_ w h).weaken (Sub.cons (Sub.cons (Sub.cons (Sub.nil _) e2) e1) e0)) stops_nil)) (Eq.mp (seg_RecvBuf_Insert.B1_eq b p_b p_l p_c d0 w0 i t35 w N1  R (fun b_ p_b_ p_l_ p_c_ d0_ w0_ i_ w => seg_RecvBuf_Insert.B2 b_ p_b_ p_l_ p_c_ d0_ w0_ i_ w N1 R) (fun b_ n_ m0_ w => seg_RecvBuf_Insert.L2 b_ n_ m0_ w  R)) h)
def seg_RecvBuf_Insert.L1b (b p_b : Option Addr) (p_l p_c : Nat) (d0 w0 i : Int) (w : World)  (N1 : Option Addr → Option Addr → Nat → Nat → Int → Int → Int → World → Prop) (R : Int → World → Prop) : Prop :=
  Bm (decide (i < ((p_l : Nat) : Int))) (
    seg_RecvBuf_Insert.B1 b p_b p_l p_c d0 w0 i (decide ((IntKind.i64.wrap (d0 + i)) < w0)) w N1 R) (
    seg_RecvBuf_Insert.B1 b p_b p_l p_c d0 w0 i false w N1 R)
theorem seg_RecvBuf_Insert.L1b_eq (b p_b : Option Addr) (p_l p_c : Nat) (d0 w0 i : Int) (w : World)  (N1 : Option Addr → Option Addr → Nat → Nat → Int → Int → Int → World → Prop) (R : Int → World → Prop) (sB1 : Option Addr → Option Addr → Nat → Nat → Int → Int → Int → Bool → World → Prop) :
    (
  Bm (decide (i < ((p_l : Nat) : Int))) (
    sB1 b p_b p_l p_c d0 w0 i (decide ((IntKind.i64.wrap (d0 + i)) < w0)) w) (
    sB1 b p_b p_l p_c d0 w0 i false w)) = kstep Tryz.prog 116 Tryz.f115.results.toList (Tryz.f115.body.getD .skip) (seg_RecvBuf_Insert.RV R) (kvc Tryz.prog 116 Tryz.f115.results.toList (Tryz.f115.body.getD .skip) (seg_RecvBuf_Insert.RV R) [([(0, [1, 1, 1, 0, 1, 0, 0, 0, 1]), (0, [1, 1, 1, 0, 1, 0, 0, 1]), (2, [1, 1, 1, 0, 1, 0, 0]), (1, [0]), (0, [1, 1, 1, 1])], fun σ w => dP (slotOf σ 0) fun b_ => dL (slotOf σ 2) fun p_b_ p_l_ p_c_ => dI .i64 (slotOf σ 7) fun d0_ => dI .i64 (slotOf σ 8) fun w0_ => dI .i64 (slotOf σ 9) fun i_ => dB (slotOf σ 35) fun t35_ => sB1 b_ p_b_ p_l_ p_c_ d0_ w0_ i_ t35_ w)] 2000) [(0, [1, 1, 1, 0, 1, 0, 0]), (2, [1, 1, 1, 0, 1, 0, 0]), (1, [0]), (0, [1, 1, 1, 1])] [(0, .pointer b), (2, .slice p_b p_l p_c), (7, .int .i64 d0), (8, .int .i64 w0), (9, .int .i64 i)] w := by kernel_rfl
theorem seg_RecvBuf_Insert.L1b_sound {R : Int → World → Prop} {N1 : Option Addr → Option Addr → Nat → Nat → Int → Int → Int → World → Prop} (hN1 : ∀ b p_b p_l p_c d0 w0 i w, N1 b p_b p_l p_c d0 w0 i w → KW Tryz.prog 115 116 (seg_RecvBuf_Insert.RV R) ([(0, [1, 1, 1, 0, 1, 0, 0]), (2, [1, 1, 1, 0, 1, 0, 0]), (1, [0]), (0, [1, 1, 1, 1])].map (toItem (Tryz.f115.body.getD .skip))) [(0, .pointer b), (2, .slice p_b p_l p_c), (7, .int .i64 d0), (8, .int .i64 w0), (9, .int .i64 i)] w) (b p_b : Option Addr) (p_l p_c : Nat) (d0 w0 i : Int) (w : World) (h : seg_RecvBuf_Insert.L1b b p_b p_l p_c d0 w0 i w  N1 R) :
    KW Tryz.prog 115 116 (seg_RecvBuf_Insert.RV R) ([(0, [1, 1, 1, 0, 1, 0, 0]), (2, [1, 1, 1, 0, 1, 0, 0]), (1, [0]), (0, [1, 1, 1, 1])].map (toItem (Tryz.f115.body.getD .skip))) [(0, .pointer b), (2, .slice p_b p_l p_c), (7, .int .i64 d0), (8, .int .i64 w0), (9, .int .i64 i)] w := by
  exact block_spec Tryz.func115 Tryz.mixed (stops_cons (fun σ w h => by
      obtain ⟨b_, e0, h⟩ := dP_elim h
      obtain ⟨p_b_, p_l_, p_c_, e1, h⟩ := dL_elim h
      obtain ⟨d0_, e2, h⟩ := dI_elim h
      obtain ⟨w0_, e3, h⟩ := dI_elim h
      obtain ⟨i_, e4, h⟩ := dI_elim h
      obtain ⟨t35_, e5, h⟩ := dB_elim h
      exact (seg_RecvBuf_Insert.B1_sound hN1 b_ p_b_ p_l_ p_c_ d0_ w0_ i_ t35_ w h).weaken (Sub.cons (Sub.cons (Sub.cons (Sub.cons (Sub.cons (Sub.cons (Sub.nil _) e5) e4) e3) e2) e1) e0)) stops_nil) (Eq.mp (seg_RecvBuf_Insert.L1b_eq b p_b p_l p_c d0 w0 i w  N1 R (fun b_ p_b_ p_l_ p_c_ d0_ w0_ i_ t35_ w => seg_RecvBuf_Insert.B1 b_ p_b_ p_l_ p_c_ d0_ w0_ i_ t35_ w N1 R)) h)
def seg_RecvBuf_Insert.L1 (b p_b : Option Addr) (p_l p_c : Nat) (d0 w0 i : Int) (w : World)  (R : Int → World → Prop) : Prop :=
  ∃ (I : Nat → Option Addr → Option Addr → Nat → Nat → Int → Int → Int → World → Prop) (m : Nat), I m b p_b p_l p_c d0 w0 i w ∧ ∀ m b p_b p_l p_c d0 w0 i w, I m b p_b p_l p_c d0 w0 i w → seg_RecvBuf_Insert.L1b b p_b p_l p_c d0 w0 i w  (fun b' p_b' p_l' p_c' d0' w0' i' w' => ∃ m', m' < m ∧ I m' b' p_b' p_l' p_c' d0' w0' i' w') R
theorem seg_RecvBuf_Insert.L1_sound {R : Int → World → Prop}  (b p_b : Option Addr) (p_l p_c : Nat) (d0 w0 i : Int) (w : World) (h : seg_RecvBuf_Insert.L1 b p_b p_l p_c d0 w0 i w  R) :
    KW Tryz.prog 115 116 (seg_RecvBuf_Insert.RV R) ([(0, [1, 1, 1, 0, 1, 0, 0]), (2, [1, 1, 1, 0, 1, 0, 0]), (1, [0]), (0, [1, 1, 1, 1])].map (toItem (Tryz.f115.body.getD .skip))) [(0, .pointer b), (2, .slice p_b p_l p_c), (7, .int .i64 d0), (8, .int .i64 w0), (9, .int .i64 i)] w := by
  obtain ⟨I, m, hBase, hr⟩ := h
  refine KW.loop (fun m σ w => ∃ (b p_b : Option Addr) (p_l p_c : Nat) (d0 w0 i : Int), σ = [(0, .pointer b), (2, .slice p_b p_l p_c), (7, .int .i64 d0), (8, .int .i64 w0), (9, .int .i64 i)] ∧ I m b p_b p_l p_c d0 w0 i w) ?_ m _ w ⟨b, p_b, p_l, p_c, d0, w0, i, rfl, hBase⟩
  rintro m ih σ w ⟨b, p_b, p_l, p_c, d0, w0, i, rfl, hI⟩
  exact seg_RecvBuf_Insert.L1b_sound  (N1 := fun b' p_b' p_l' p_c' d0' w0' i' w' => ∃ m', m' < m ∧ I m' b' p_b' p_l' p_c' d0' w0' i' w') (fun b' p_b' p_l' p_c' d0' w0' i' w' hx => by obtain ⟨m', hlt, hI'⟩ := hx; exact ih m' hlt _ w' ⟨b', p_b', p_l', p_c', d0', w0', i', rfl, hI'⟩) b p_b p_l p_c d0 w0 i w (hr m b p_b p_l p_c d0 w0 i w hI)
def seg_RecvBuf_Insert.B0 (b : Option Addr) (seq : Int) (p_b : Option Addr) (p_l p_c : Nat) (w : World)   (R : Int → World → Prop) : Prop :=
  Pn b fun a =>
  LdI .u8 (a.add 16) w fun x17 =>
  api_SeqDiff.Call seq (IntKind.i64.wrap x17) w fun r19 w1 =>
  Pn b fun a_1 =>
  LdI .i64 (a_1.add 17) w1 fun x23 =>
  seg_RecvBuf_Insert.L1 b p_b p_l p_c r19 (IntKind.i64.wrap ((16 : Int) - x23)) (0 : Int) w1  R
theorem seg_RecvBuf_Insert.B0_eq (b : Option Addr) (seq : Int) (p_b : Option Addr) (p_l p_c : Nat) (w : World)   (R : Int → World → Prop) (sL1 : Option Addr → Option Addr → Nat → Nat → Int → Int → Int → World → Prop) :
    (
  Pn b fun a =>
  LdI .u8 (a.add 16) w fun x17 =>
  api_SeqDiff.Call seq (IntKind.i64.wrap x17) w fun r19 w1 =>
  Pn b fun a_1 =>
  LdI .i64 (a_1.add 17) w1 fun x23 =>
  sL1 b p_b p_l p_c r19 (IntKind.i64.wrap ((16 : Int) - x23)) (0 : Int) w1) = kstep Tryz.prog 116 Tryz.f115.results.toList (Tryz.f115.body.getD .skip) (seg_RecvBuf_Insert.RV R) (kvc Tryz.prog 116 Tryz.f115.results.toList (Tryz.f115.body.getD .skip) (seg_RecvBuf_Insert.RV R) [([(0, [1, 1, 1, 0, 1, 0, 0]), (2, [1, 1, 1, 0, 1, 0, 0]), (1, [0]), (0, [1, 1, 1, 1])], fun σ w => dP (slotOf σ 0) fun b_ => dL (slotOf σ 2) fun p_b_ p_l_ p_c_ => dI .i64 (slotOf σ 7) fun d0_ => dI .i64 (slotOf σ 8) fun w0_ => dI .i64 (slotOf σ 9) fun i_ => sL1 b_ p_b_ p_l_ p_c_ d0_ w0_ i_ w)] 2000) [(0, [])] [(0, .pointer b), (1, .int .i64 seq), (2, .slice p_b p_l p_c)] w := by kernel_rfl
theorem seg_RecvBuf_Insert.B0_sound {R : Int → World → Prop}  (b : Option Addr) (seq : Int) (p_b : Option Addr) (p_l p_c : Nat) (w : World) (h : seg_RecvBuf_Insert.B0 b seq p_b p_l p_c w   R) :
    KW Tryz.prog 115 116 (seg_RecvBuf_Insert.RV R) ([(0, [])].map (toItem (Tryz.f115.body.getD .skip))) [(0, .pointer b), (1, .int .i64 seq), (2, .slice p_b p_l p_c)] w := by
  exact block_spec Tryz.func115 Tryz.mixed (stops_cons (fun σ w h => by
      obtain ⟨b_, e0, h⟩ := dP_elim h
      obtain ⟨p_b_, p_l_, p_c_, e1, h⟩ := dL_elim h
      obtain ⟨d0_, e2, h⟩ := dI_elim h
      obtain ⟨w0_, e3, h⟩ := dI_elim h
      obtain ⟨i_, e4, h⟩ := dI_elim h
      exact (seg_RecvBuf_Insert.L1_sound  b_ p_b_ p_l_ p_c_ d0_ w0_ i_ w h).weaken (Sub.cons (Sub.cons (Sub.cons (Sub.cons (Sub.cons (Sub.nil _) e4) e3) e2) e1) e0)) stops_nil) (Eq.mp (seg_RecvBuf_Insert.B0_eq b seq p_b p_l p_c w   R (fun b_ p_b_ p_l_ p_c_ d0_ w0_ i_ w => seg_RecvBuf_Insert.L1 b_ p_b_ p_l_ p_c_ d0_ w0_ i_ w  R)) h)
theorem seg_RecvBuf_Insert.sound (b : Option Addr) (seq : Int) (p_b : Option Addr) (p_l p_c : Nat) (w : World) (R : Int → World → Prop) (h : seg_RecvBuf_Insert.B0 b seq p_b p_l p_c w R) : seg_RecvBuf_Insert.Call b seq p_b p_l p_c w R := by
  have hc := calls_of_block (args := #[.pointer b, .int .i64 seq, .slice p_b p_l p_c]) Tryz.func115 (body := (Tryz.f115.body.getD .skip)) (by kernel_rfl) (by kernel_rfl) (args_slot _) (seg_RecvBuf_Insert.B0_sound b seq p_b p_l p_c w h)
  exact hc.mono fun e w' he => by
    obtain ⟨v, rfl, hv⟩ := he
    exact seg_RecvBuf_Insert.RV_elim hv
end Go.Proofs.Qxb6500422aGreat
