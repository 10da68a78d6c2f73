import Derived.Test.Qxb6500426aSig
set_option maxRecDepth 100000
set_option linter.unusedVariables false
open Go.Vc
namespace Go.Proofs.Qxb6500426a
def seg_SendBuf_Ack.B1 (b : Option Addr) (d : Int) (t22 : Bool) (w : World)   (R : Int → World → Prop) : Prop :=
  Bm t22 (
    R (0 : Int) w) (
    Pn b fun a =>
    LdI .i64 (a.add 16) w fun x27 =>
    (16 : Int) ≠ 0 ∧
    Pn b fun a_1 =>
    Sts [.int .i64 ((IntKind.i64.wrap (x27 + d)).tmod (16 : Int))] (a_1.add 16) 0 w fun w1 =>
    Pn b fun a_2 =>
    LdI .i64 (a_2.add 17) w1 fun x36 =>
    Pn b fun a_3 =>
    Sts [.int .i64 (IntKind.i64.wrap (x36 - d))] (a_3.add 17) 0 w1 fun w2 =>
    Pn b fun a_4 =>
    LdI .i64 (a_4.add 18) w2 fun x44 =>
    Pn b fun a_5 =>
    Sts [.int .i64 (IntKind.i64.wrap (x44 - d))] (a_5.add 18) 0 w2 fun w3 =>
    Pn b fun a_6 =>
    LdI .u8 (a_6.add 19) w3 fun x52 =>
    Pn b fun a_7 =>
    Sts [.int .u8 (IntKind.u8.wrap (x52 + (IntKind.u8.wrap d)))] (a_7.add 19) 0 w3 fun w4 =>
    R d w4)
theorem seg_SendBuf_Ack.B1_eq (b : Option Addr) (d : Int) (t22 : Bool) (w : World)   (R : Int → World → Prop)  :
    (
  Bm t22 (
    R (0 : Int) w) (
    Pn b fun a =>
    LdI .i64 (a.add 16) w fun x27 =>
    (16 : Int) ≠ 0 ∧
    Pn b fun a_1 =>
    Sts [.int .i64 ((IntKind.i64.wrap (x27 + d)).tmod (16 : Int))] (a_1.add 16) 0 w fun w1 =>
    Pn b fun a_2 =>
    LdI .i64 (a_2.add 17) w1 fun x36 =>
    Pn b fun a_3 =>
    Sts [.int .i64 (IntKind.i64.wrap (x36 - d))] (a_3.add 17) 0 w1 fun w2 =>
    Pn b fun a_4 =>
    LdI .i64 (a_4.add 18) w2 fun x44 =>
    Pn b fun a_5 =>
    Sts [.int .i64 (IntKind.i64.wrap (x44 - d))] (a_5.add 18) 0 w2 fun w3 =>
    Pn b fun a_6 =>
    LdI .u8 (a_6.add 19) w3 fun x52 =>
    Pn b fun a_7 =>
    Sts [.int .u8 (IntKind.u8.wrap (x52 + (IntKind.u8.wrap d)))] (a_7.add 19) 0 w3 fun w4 =>
    R d w4)) = kstep Try.prog 59 Try.f78.results.toList (Try.f78.body.getD .skip) (seg_SendBuf_Ack.RV R) (kvc Try.prog 59 Try.f78.results.toList (Try.f78.body.getD .skip) (seg_SendBuf_Ack.RV R) [] 2000) [(0, [1, 1, 0, 1]), (0, [1, 1, 1])] [(0, .pointer b), (5, .int .i64 d), (22, .bool t22)] w := by kernel_rfl
theorem seg_SendBuf_Ack.B1_sound {R : Int → World → Prop}  (b : Option Addr) (d : Int) (t22 : Bool) (w : World) (h : seg_SendBuf_Ack.B1 b d t22 w   R) :
    KW Try.prog 78 59 (seg_SendBuf_Ack.RV R) ([(0, [1, 1, 0, 1]), (0, [1, 1, 1])].map (toItem (Try.f78.body.getD .skip))) [(0, .pointer b), (5, .int .i64 d), (22, .bool t22)] w := by
  exact block_spec Try.func78 Try.mixed stops_nil (Eq.mp (seg_SendBuf_Ack.B1_eq b d t22 w   R ) h)
def seg_SendBuf_Ack.B0 (b : Option Addr) (a : Int) (w : World)   (R : Int → World → Prop) : Prop :=
  Pn b fun a_1 =>
  LdI .u8 (a_1.add 19) w fun x10 =>
  api_SeqDiff.Call a (IntKind.i64.wrap x10) w fun r12 w1 =>
  Bm (decide (r12 ≤ (0 : Int))) (
    seg_SendBuf_Ack.B1 b r12 true w1  R) (
    Pn b fun a_2 =>
    LdI .i64 (a_2.add 18) w1 fun x20 =>
    seg_SendBuf_Ack.B1 b r12 (decide (r12 > x20)) w1  R)
theorem seg_SendBuf_Ack.B0_eq (b : Option Addr) (a : Int) (w : World)   (R : Int → World → Prop) (sB1 : Option Addr → Int → Bool → World → Prop) :
    (
  Pn b fun a_1 =>
  LdI .u8 (a_1.add 19) w fun x10 =>
  api_SeqDiff.Call a (IntKind.i64.wrap x10) w fun r12 w1 =>
  Bm (decide (r12 ≤ (0 : Int))) (
    sB1 b r12 true w1) (
    Pn b fun a_2 =>
    LdI .i64 (a_2.add 18) w1 fun x20 =>
    sB1 b r12 (decide (r12 > x20)) w1)) = kstep Try.prog 59 Try.f78.results.toList (Try.f78.body.getD .skip) (seg_SendBuf_Ack.RV R) (kvc Try.prog 59 Try.f78.results.toList (Try.f78.body.getD .skip) (seg_SendBuf_Ack.RV R) [([(0, [1, 1, 0, 1]), (0, [1, 1, 1])], fun σ w => dP (slotOf σ 0) fun b_ => dI .i64 (slotOf σ 5) fun d_ => dB (slotOf σ 22) fun t22_ => sB1 b_ d_ t22_ w)] 2000) [(0, [])] [(0, .pointer b), (1, .int .i64 a)] w := by kernel_rfl
theorem seg_SendBuf_Ack.B0_sound {R : Int → World → Prop}  (b : Option Addr) (a : Int) (w : World) (h : seg_SendBuf_Ack.B0 b a w   R) :
    KW Try.prog 78 59 (seg_SendBuf_Ack.RV R) ([(0, [])].map (toItem (Try.f78.body.getD .skip))) [(0, .pointer b), (1, .int .i64 a)] w := by
  exact block_spec Try.func78 Try.mixed (stops_cons (fun σ w h => by
      obtain ⟨b_, e0, h⟩ := dP_elim h
      obtain ⟨d_, e1, h⟩ := dI_elim h
      obtain ⟨t22_, e2, h⟩ := dB_elim h
      exact (seg_SendBuf_Ack.B1_sound  b_ d_ t22_ w h).weaken (Sub.cons (Sub.cons (Sub.cons (Sub.nil _) e2) e1) e0)) stops_nil) (Eq.mp (seg_SendBuf_Ack.B0_eq b a w   R (fun b_ d_ t22_ w => seg_SendBuf_Ack.B1 b_ d_ t22_ w  R)) h)
theorem seg_SendBuf_Ack.sound (b : Option Addr) (a : Int) (w : World) (R : Int → World → Prop) (h : seg_SendBuf_Ack.B0 b a w R) : seg_SendBuf_Ack.Call b a w R := by
  have hc := calls_of_block (args := #[.pointer b, .int .i64 a]) Try.func78 (body := (Try.f78.body.getD .skip)) (by kernel_rfl) (by kernel_rfl) (args_slot _) (seg_SendBuf_Ack.B0_sound b a w h)
  exact hc.mono fun e w' he => by
    obtain ⟨v, rfl, hv⟩ := he
    exact seg_SendBuf_Ack.RV_elim hv
def segm_SendBuf_Ack.B1 (b : Option Addr) (d : Int) (t21 : Bool) (w : World)   (R : Int → World → Prop) : Prop :=
  Bm t21 (
    R (0 : Int) w) (
    Pn b fun a =>
    LdL (a.add 1) w fun x26_b x26_l x26_c =>
    (0 ≤ d ∧ d ≤ ((x26_l : Nat) : Int)) ∧
    api_CopyBytes.Call (slBase x26_b d ((x26_c : Nat) : Int) 1) (((x26_l : Nat) : Int).toNat - d.toNat) (((x26_c : Nat) : Int).toNat - d.toNat) w fun r29_b r29_l r29_c w1 =>
    Pn b fun a_1 =>
    Sts [.slice r29_b r29_l r29_c] (a_1.add 1) 0 w1 fun w2 =>
    Pn b fun a_2 =>
    LdI .i64 (a_2.add 2) w2 fun x35 =>
    Pn b fun a_3 =>
    Sts [.int .i64 (IntKind.i64.wrap (x35 - d))] (a_3.add 2) 0 w2 fun w3 =>
    Pn b fun a_4 =>
    LdI .i64 a_4 w3 fun x44 =>
    api_SeqAdd.Call x44 d w3 fun r46 w4 =>
    Pn b fun a_5 =>
    Sts [.int .i64 r46] a_5 0 w4 fun w5 =>
    R d w5)
theorem segm_SendBuf_Ack.B1_eq (b : Option Addr) (d : Int) (t21 : Bool) (w : World)   (R : Int → World → Prop)  :
    (
  Bm t21 (
    R (0 : Int) w) (
    Pn b fun a =>
    LdL (a.add 1) w fun x26_b x26_l x26_c =>
    (0 ≤ d ∧ d ≤ ((x26_l : Nat) : Int)) ∧
    api_CopyBytes.Call (slBase x26_b d ((x26_c : Nat) : Int) 1) (((x26_l : Nat) : Int).toNat - d.toNat) (((x26_c : Nat) : Int).toNat - d.toNat) w fun r29_b r29_l r29_c w1 =>
    Pn b fun a_1 =>
    Sts [.slice r29_b r29_l r29_c] (a_1.add 1) 0 w1 fun w2 =>
    Pn b fun a_2 =>
    LdI .i64 (a_2.add 2) w2 fun x35 =>
    Pn b fun a_3 =>
    Sts [.int .i64 (IntKind.i64.wrap (x35 - d))] (a_3.add 2) 0 w2 fun w3 =>
    Pn b fun a_4 =>
    LdI .i64 a_4 w3 fun x44 =>
    api_SeqAdd.Call x44 d w3 fun r46 w4 =>
    Pn b fun a_5 =>
    Sts [.int .i64 r46] a_5 0 w4 fun w5 =>
    R d w5)) = kstep Try.prog 50 Try.f79.results.toList (Try.f79.body.getD .skip) (segm_SendBuf_Ack.RV R) (kvc Try.prog 50 Try.f79.results.toList (Try.f79.body.getD .skip) (segm_SendBuf_Ack.RV R) [] 2000) [(0, [1, 1, 0, 1]), (0, [1, 1, 1])] [(0, .pointer b), (5, .int .i64 d), (21, .bool t21)] w := by kernel_rfl
theorem segm_SendBuf_Ack.B1_sound {R : Int → World → Prop}  (b : Option Addr) (d : Int) (t21 : Bool) (w : World) (h : segm_SendBuf_Ack.B1 b d t21 w   R) :
    KW Try.prog 79 50 (segm_SendBuf_Ack.RV R) ([(0, [1, 1, 0, 1]), (0, [1, 1, 1])].map (toItem (Try.f79.body.getD .skip))) [(0, .pointer b), (5, .int .i64 d), (21, .bool t21)] w := by
  exact block_spec Try.func79 Try.mixed stops_nil (Eq.mp (segm_SendBuf_Ack.B1_eq b d t21 w   R ) h)
def segm_SendBuf_Ack.B0 (b : Option Addr) (a : Int) (w : World)   (R : Int → World → Prop) : Prop :=
  Pn b fun a_1 =>
  LdI .i64 a_1 w fun x10 =>
  api_SeqDiff.Call a x10 w fun r11 w1 =>
  Bm (decide (r11 ≤ (0 : Int))) (
    segm_SendBuf_Ack.B1 b r11 true w1  R) (
    Pn b fun a_2 =>
    LdI .i64 (a_2.add 2) w1 fun x19 =>
    segm_SendBuf_Ack.B1 b r11 (decide (r11 > x19)) w1  R)
theorem segm_SendBuf_Ack.B0_eq (b : Option Addr) (a : Int) (w : World)   (R : Int → World → Prop) (sB1 : Option Addr → Int → Bool → World → Prop) :
    (
  Pn b fun a_1 =>
  LdI .i64 a_1 w fun x10 =>
  api_SeqDiff.Call a x10 w fun r11 w1 =>
  Bm (decide (r11 ≤ (0 : Int))) (
    sB1 b r11 true w1) (
    Pn b fun a_2 =>
    LdI .i64 (a_2.add 2) w1 fun x19 =>
    sB1 b r11 (decide (r11 > x19)) w1)) = kstep Try.prog 50 Try.f79.results.toList (Try.f79.body.getD .skip) (segm_SendBuf_Ack.RV R) (kvc Try.prog 50 Try.f79.results.toList (Try.f79.body.getD .skip) (segm_SendBuf_Ack.RV R) [([(0, [1, 1, 0, 1]), (0, [1, 1, 1])], fun σ w => dP (slotOf σ 0) fun b_ => dI .i64 (slotOf σ 5) fun d_ => dB (slotOf σ 21) fun t21_ => sB1 b_ d_ t21_ w)] 2000) [(0, [])] [(0, .pointer b), (1, .int .i64 a)] w := by kernel_rfl
theorem segm_SendBuf_Ack.B0_sound {R : Int → World → Prop}  (b : Option Addr) (a : Int) (w : World) (h : segm_SendBuf_Ack.B0 b a w   R) :
    KW Try.prog 79 50 (segm_SendBuf_Ack.RV R) ([(0, [])].map (toItem (Try.f79.body.getD .skip))) [(0, .pointer b), (1, .int .i64 a)] w := by
  exact block_spec Try.func79 Try.mixed (stops_cons (fun σ w h => by
      obtain ⟨b_, e0, h⟩ := dP_elim h
      obtain ⟨d_, e1, h⟩ := dI_elim h
      obtain ⟨t21_, e2, h⟩ := dB_elim h
      exact (segm_SendBuf_Ack.B1_sound  b_ d_ t21_ w h).weaken (Sub.cons (Sub.cons (Sub.cons (Sub.nil _) e2) e1) e0)) stops_nil) (Eq.mp (segm_SendBuf_Ack.B0_eq b a w   R (fun b_ d_ t21_ w => segm_SendBuf_Ack.B1 b_ d_ t21_ w  R)) h)
theorem segm_SendBuf_Ack.sound (b : Option Addr) (a : Int) (w : World) (R : Int → World → Prop) (h : segm_SendBuf_Ack.B0 b a w R) : segm_SendBuf_Ack.Call b a w R := by
  have hc := calls_of_block (args := #[.pointer b, .int .i64 a]) Try.func79 (body := (Try.f79.body.getD .skip)) (by kernel_rfl) (by kernel_rfl) (args_slot _) (segm_SendBuf_Ack.B0_sound b a w h)
  exact hc.mono fun e w' he => by
    obtain ⟨v, rfl, hv⟩ := he
    exact segm_SendBuf_Ack.RV_elim hv
def seg_RecvBuf_Insert.B2 (b p_b : Option Addr) (p_l p_c : Nat) (d0 w0 i : Int) (w : World) (N1 : Option Addr → Option Addr → Nat → Nat → Int → Int → Int → World → Prop)  (R : Int → World → Prop) : Prop :=
  N1 b p_b p_l p_c d0 w0 (IntKind.i64.wrap (i + (1 : Int))) w
theorem seg_RecvBuf_Insert.B2_eq (b p_b : Option Addr) (p_l p_c : Nat) (d0 w0 i : Int) (w : World) (N1 : Option Addr → Option Addr → Nat → Nat → Int → Int → Int → World → Prop)  (R : Int → World → Prop)  :
    (
  N1 b p_b p_l p_c d0 w0 (IntKind.i64.wrap (i + (1 : Int))) w) = kstep Try.prog 116 Try.f80.results.toList (Try.f80.body.getD .skip) (seg_RecvBuf_Insert.RV R) (kvc Try.prog 116 Try.f80.results.toList (Try.f80.body.getD .skip) (seg_RecvBuf_Insert.RV R) [([(0, [1, 1, 1, 0, 1, 0, 0]), (2, [1, 1, 1, 0, 1, 0, 0]), (1, [0]), (0, [1, 1, 1, 1])], fun σ w => dP (slotOf σ 0) fun b_ => dL (slotOf σ 2) fun p_b_ p_l_ p_c_ => dI .i64 (slotOf σ 7) fun d0_ => dI .i64 (slotOf σ 8) fun w0_ => dI .i64 (slotOf σ 9) fun i_ => N1 b_ p_b_ p_l_ p_c_ d0_ w0_ i_ w)] 2000) [(0, [1, 1, 1, 0, 1, 0, 0, 1, 1]), (2, [1, 1, 1, 0, 1, 0, 0]), (1, [0]), (0, [1, 1, 1, 1])] [(0, .pointer b), (2, .slice p_b p_l p_c), (7, .int .i64 d0), (8, .int .i64 w0), (9, .int .i64 i)] w := by kernel_rfl
theorem seg_RecvBuf_Insert.B2_sound {R : Int → World → Prop} {N1 : Option Addr → Option Addr → Nat → Nat → Int → Int → Int → World → Prop} (hN1 : ∀ b p_b p_l p_c d0 w0 i w, N1 b p_b p_l p_c d0 w0 i w → KW Try.prog 80 116 (seg_RecvBuf_Insert.RV R) ([(0, [1, 1, 1, 0, 1, 0, 0]), (2, [1, 1, 1, 0, 1, 0, 0]), (1, [0]), (0, [1, 1, 1, 1])].map (toItem (Try.f80.body.getD .skip))) [(0, .pointer b), (2, .slice p_b p_l p_c), (7, .int .i64 d0), (8, .int .i64 w0), (9, .int .i64 i)] w) (b p_b : Option Addr) (p_l p_c : Nat) (d0 w0 i : Int) (w : World) (h : seg_RecvBuf_Insert.B2 b p_b p_l p_c d0 w0 i w N1  R) :
    KW Try.prog 80 116 (seg_RecvBuf_Insert.RV R) ([(0, [1, 1, 1, 0, 1, 0, 0, 1, 1]), (2, [1, 1, 1, 0, 1, 0, 0]), (1, [0]), (0, [1, 1, 1, 1])].map (toItem (Try.f80.body.getD .skip))) [(0, .pointer b), (2, .slice p_b p_l p_c), (7, .int .i64 d0), (8, .int .i64 w0), (9, .int .i64 i)] w := by
  exact block_spec Try.func80 Try.mixed (stops_cons (fun σ w h => by
      obtain ⟨b_, e0, h⟩ := dP_elim h
      obtain ⟨p_b_, p_l_, p_c_, e1, h⟩ := dL_elim h
      obtain ⟨d0_, e2, h⟩ := dI_elim h
      obtain ⟨w0_, e3, h⟩ := dI_elim h
      obtain ⟨i_, e4, h⟩ := dI_elim h
      exact (hN1 b_ p_b_ p_l_ p_c_ d0_ w0_ i_ w h).weaken (Sub.cons (Sub.cons (Sub.cons (Sub.cons (Sub.cons (Sub.nil _) e4) e3) e2) e1) e0)) stops_nil) (Eq.mp (seg_RecvBuf_Insert.B2_eq b p_b p_l p_c d0 w0 i w N1  R ) h)
def seg_RecvBuf_Insert.L2b (b : Option Addr) (n m0 : Int) (w : World)  (N2 : Option Addr → Int → Int → World → Prop) (R : Int → World → Prop) : Prop :=
  Pn b fun a =>
  LdI .u16 (a.add 18) w fun x85 =>
  Bm ((IntKind.u16.wrap (BitVec.ofInt IntKind.u16.bits x85 &&& BitVec.ofInt IntKind.u16.bits m0).toNat) != (0 : Int)) (
    Pn b fun a_1 =>
    LdI .u16 (a_1.add 18) w fun x94 =>
    Pn b fun a_2 =>
    Sts [.int .u16 (IntKind.u16.wrap (BitVec.ofInt IntKind.u16.bits x94 &&& ~~~ BitVec.ofInt IntKind.u16.bits m0).toNat)] (a_2.add 18) 0 w fun w1 =>
    Pn b fun a_3 =>
    LdI .u8 (a_3.add 16) w1 fun x102 =>
    Pn b fun a_4 =>
    Sts [.int .u8 (IntKind.u8.wrap (x102 + (1 : Int)))] (a_4.add 16) 0 w1 fun w2 =>
    Pn b fun a_5 =>
    LdI .i64 (a_5.add 17) w2 fun x109 =>
    Pn b fun a_6 =>
    Sts [.int .i64 (IntKind.i64.wrap (x109 + (1 : Int)))] (a_6.add 17) 0 w2 fun w3 =>
    seg_RecvBuf_bit.Call b (0 : Int) w3 fun r90 w4 =>
    N2 b (IntKind.i64.wrap (n + (1 : Int))) r90 w4) (
    R n w)
theorem seg_RecvBuf_Insert.L2b_eq (b : Option Addr) (n m0 : Int) (w : World)  (N2 : Option Addr → Int → Int → World → Prop) (R : Int → World → Prop)  :
    (
  Pn b fun a =>
  LdI .u16 (a.add 18) w fun x85 =>
  Bm ((IntKind.u16.wrap (BitVec.ofInt IntKind.u16.bits x85 &&& BitVec.ofInt IntKind.u16.bits m0).toNat) != (0 : Int)) (
    Pn b fun a_1 =>
    LdI .u16 (a_1.add 18) w fun x94 =>
    Pn b fun a_2 =>
    Sts [.int .u16 (IntKind.u16.wrap (BitVec.ofInt IntKind.u16.bits x94 &&& ~~~ BitVec.ofInt IntKind.u16.bits m0).toNat)] (a_2.add 18) 0 w fun w1 =>
    Pn b fun a_3 =>
    LdI .u8 (a_3.add 16) w1 fun x102 =>
    Pn b fun a_4 =>
    Sts [.int .u8 (IntKind.u8.wrap (x102 + (1 : Int)))] (a_4.add 16) 0 w1 fun w2 =>
    Pn b fun a_5 =>
    LdI .i64 (a_5.add 17) w2 fun x109 =>
    Pn b fun a_6 =>
    Sts [.int .i64 (IntKind.i64.wrap (x109 + (1 : Int)))] (a_6.add 17) 0 w2 fun w3 =>
    seg_RecvBuf_bit.Call b (0 : Int) w3 fun r90 w4 =>
    N2 b (IntKind.i64.wrap (n + (1 : Int))) r90 w4) (
    R n w)) = kstep Try.prog 116 Try.f80.results.toList (Try.f80.body.getD .skip) (seg_RecvBuf_Insert.RV R) (kvc Try.prog 116 Try.f80.results.toList (Try.f80.body.getD .skip) (seg_RecvBuf_Insert.RV R) [([(0, [1, 1, 1, 1, 1, 0, 1, 0, 0]), (2, [1, 1, 1, 1, 1, 0, 1, 0, 0]), (1, [2]), (0, [1, 1, 1, 1, 1, 1])], fun σ w => dP (slotOf σ 0) fun b_ => dI .i64 (slotOf σ 11) fun n_ => dI .u16 (slotOf σ 12) fun m0_ => N2 b_ n_ m0_ w)] 2000) [(0, [1, 1, 1, 1, 1, 0, 1, 0, 0]), (2, [1, 1, 1, 1, 1, 0, 1, 0, 0]), (1, [2]), (0, [1, 1, 1, 1, 1, 1])] [(0, .pointer b), (11, .int .i64 n), (12, .int .u16 m0)] w := by kernel_rfl
theorem seg_RecvBuf_Insert.L2b_sound {R : Int → World → Prop} {N2 : Option Addr → Int → Int → World → Prop} (hN2 : ∀ b n m0 w, N2 b n m0 w → KW Try.prog 80 116 (seg_RecvBuf_Insert.RV R) ([(0, [1, 1, 1, 1, 1, 0, 1, 0, 0]), (2, [1, 1, 1, 1, 1, 0, 1, 0, 0]), (1, [2]), (0, [1, 1, 1, 1, 1, 1])].map (toItem (Try.f80.body.getD .skip))) [(0, .pointer b), (11, .int .i64 n), (12, .int .u16 m0)] w) (b : Option Addr) (n m0 : Int) (w : World) (h : seg_RecvBuf_Insert.L2b b n m0 w  N2 R) :
    KW Try.prog 80 116 (seg_RecvBuf_Insert.RV R) ([(0, [1, 1, 1, 1, 1, 0, 1, 0, 0]), (2, [1, 1, 1, 1, 1, 0, 1, 0, 0]), (1, [2]), (0, [1, 1, 1, 1, 1, 1])].map (toItem (Try.f80.body.getD .skip))) [(0, .pointer b), (11, .int .i64 n), (12, .int .u16 m0)] w := by
  exact block_spec Try.func80 Try.mixed (stops_cons (fun σ w h => by
      obtain ⟨b_, e0, h⟩ := dP_elim h
      obtain ⟨n_, e1, h⟩ := dI_elim h
      obtain ⟨m0_, e2, h⟩ := dI_elim h
      exact (hN2 b_ n_ m0_ w h).weaken (Sub.cons (Sub.cons (Sub.cons (Sub.nil _) e2) e1) e0)) stops_nil) (Eq.mp (seg_RecvBuf_Insert.L2b_eq b n m0 w  N2 R ) h)
def seg_RecvBuf_Insert.L2 (b : Option Addr) (n m0 : Int) (w : World)  (R : Int → World → Prop) : Prop :=
  ∃ (I : Nat → Option Addr → Int → Int → World → Prop) (m : Nat), I m b n m0 w ∧ ∀ m b n m0 w, I m b n m0 w → seg_RecvBuf_Insert.L2b b n m0 w  (fun b' n' m0' w' => ∃ m', m' < m ∧ I m' b' n' m0' w') R
theorem seg_RecvBuf_Insert.L2_sound {R : Int → World → Prop}  (b : Option Addr) (n m0 : Int) (w : World) (h : seg_RecvBuf_Insert.L2 b n m0 w  R) :
    KW Try.prog 80 116 (seg_RecvBuf_Insert.RV R) ([(0, [1, 1, 1, 1, 1, 0, 1, 0, 0]), (2, [1, 1, 1, 1, 1, 0, 1, 0, 0]), (1, [2]), (0, [1, 1, 1, 1, 1, 1])].map (toItem (Try.f80.body.getD .skip))) [(0, .pointer b), (11, .int .i64 n), (12, .int .u16 m0)] w := by
  obtain ⟨I, m, hBase, hr⟩ := h
  refine KW.loop (fun m σ w => ∃ (b : Option Addr) (n m0 : Int), σ = [(0, .pointer b), (11, .int .i64 n), (12, .int .u16 m0)] ∧ I m b n m0 w) ?_ m _ w ⟨b, n, m0, rfl, hBase⟩
  rintro m ih σ w ⟨b, n, m0, rfl, hI⟩
  exact seg_RecvBuf_Insert.L2b_sound  (N2 := fun b' n' m0' w' => ∃ m', m' < m ∧ I m' b' n' m0' w') (fun b' n' m0' w' hx => by obtain ⟨m', hlt, hI'⟩ := hx; exact ih m' hlt _ w' ⟨b', n', m0', rfl, hI'⟩) b n m0 w (hr m b n m0 w hI)
def seg_RecvBuf_Insert.B1 (b p_b : Option Addr) (p_l p_c : Nat) (d0 w0 i : Int) (t35 : Bool) (w : World) (N1 : Option Addr → Option Addr → Nat → Nat → Int → Int → Int → World → Prop)  (R : Int → World → Prop) : Prop :=
  Bm t35 (
    Bm (decide ((IntKind.i64.wrap (d0 + i)) < (0 : Int))) (
      seg_RecvBuf_Insert.B2 b p_b p_l p_c d0 w0 i w N1 R) (
      seg_RecvBuf_bit.Call b (IntKind.i64.wrap (d0 + i)) w fun r46 w1 =>
      Pn b fun a =>
      LdI .u16 (a.add 18) w1 fun x50 =>
      Bm ((IntKind.u16.wrap (BitVec.ofInt IntKind.u16.bits x50 &&& BitVec.ofInt IntKind.u16.bits r46).toNat) == (0 : Int)) (
        Pn b fun a_1 =>
        LdI .u16 (a_1.add 18) w1 fun x57 =>
        Pn b fun a_2 =>
        Sts [.int .u16 (IntKind.u16.wrap (BitVec.ofInt IntKind.u16.bits x57 ||| BitVec.ofInt IntKind.u16.bits r46).toNat)] (a_2.add 18) 0 w1 fun w2 =>
        Pn b fun a_3 =>
        LdI .u8 (a_3.add 16) w2.drew fun x66 =>
        (16 : Int) ≠ 0 ∧
        Pn p_b fun a_4 =>
        (0 ≤ i ∧ i < ((p_l : Nat) : Int)) ∧
        LdI .u8 (Addr.add a_4 (i.toNat * 1)) w2.drew fun x76 =>
        Pn b fun a_5 =>
        (0 ≤ ((IntKind.i64.wrap ((IntKind.i64.wrap ((IntKind.i64.wrap x66) + d0)) + i)).tmod (16 : Int)) ∧ ((IntKind.i64.wrap ((IntKind.i64.wrap ((IntKind.i64.wrap x66) + d0)) + i)).tmod (16 : Int)) < ((16 : Nat) : Int)) ∧
        Sts [.int .u8 x76] (Addr.add a_5 (((IntKind.i64.wrap ((IntKind.i64.wrap ((IntKind.i64.wrap x66) + d0)) + i)).tmod (16 : Int)).toNat * 1)) 0 w2.drew fun w3 =>
        seg_RecvBuf_Insert.B2 b p_b p_l p_c d0 w0 i w3 N1 R) (
        seg_RecvBuf_Insert.B2 b p_b p_l p_c d0 w0 i w1 N1 R))) (
    seg_RecvBuf_bit.Call b (0 : Int) w fun r81 w4 =>
    seg_RecvBuf_Insert.L2 b (0 : Int) r81 w4  R)
theorem seg_RecvBuf_Insert.B1_eq (b p_b : Option Addr) (p_l p_c : Nat) (d0 w0 i : Int) (t35 : Bool) (w : World) (N1 : Option Addr → Option Addr → Nat → Nat → Int → Int → Int → World → Prop)  (R : Int → World → Prop) (sB2 : Option Addr → Option Addr → Nat → Nat → Int → Int → Int → World → Prop) (sL2 : Option Addr → Int → Int → World → Prop) :
    (
  Bm t35 (
    Bm (decide ((IntKind.i64.wrap (d0 + i)) < (0 : Int))) (
      sB2 b p_b p_l p_c d0 w0 i w) (
      seg_RecvBuf_bit.Call b (IntKind.i64.wrap (d0 + i)) w fun r46 w1 =>
      Pn b fun a =>
      LdI .u16 (a.add 18) w1 fun x50 =>
      Bm ((IntKind.u16.wrap (BitVec.ofInt IntKind.u16.bits x50 &&& BitVec.ofInt IntKind.u16.bits r46).toNat) == (0 : Int)) (
        Pn b fun a_1 =>
        LdI .u16 (a_1.add 18) w1 fun x57 =>
        Pn b fun a_2 =>
        Sts [.int .u16 (IntKind.u16.wrap (BitVec.ofInt IntKind.u16.bits x57 ||| BitVec.ofInt IntKind.u16.bits r46).toNat)] (a_2.add 18) 0 w1 fun w2 =>
        Pn b fun a_3 =>
        LdI .u8 (a_3.add 16) w2.drew fun x66 =>
        (16 : Int) ≠ 0 ∧
        Pn p_b fun a_4 =>
        (0 ≤ i ∧ i < ((p_l : Nat) : Int)) ∧
        LdI .u8 (Addr.add a_4 (i.toNat * 1)) w2.drew fun x76 =>
        Pn b fun a_5 =>
        (0 ≤ ((IntKind.i64.wrap ((IntKind.i64.wrap ((IntKind.i64.wrap x66) + d0)) + i)).tmod (16 : Int)) ∧ ((IntKind.i64.wrap ((IntKind.i64.wrap ((IntKind.i64.wrap x66) + d0)) + i)).tmod (16 : Int)) < ((16 : Nat) : Int)) ∧
        Sts [.int .u8 x76] (Addr.add a_5 (((IntKind.i64.wrap ((IntKind.i64.wrap ((IntKind.i64.wrap x66) + d0)) + i)).tmod (16 : Int)).toNat * 1)) 0 w2.drew fun w3 =>
        sB2 b p_b p_l p_c d0 w0 i w3) (
        sB2 b p_b p_l p_c d0 w0 i w1))) (
    seg_RecvBuf_bit.Call b (0 : Int) w fun r81 w4 =>
    sL2 b (0 : Int) r81 w4)) = kstep Try.prog 116 Try.f80.results.toList (Try.f80.body.getD .skip) (seg_RecvBuf_Insert.RV R) (kvc Try.prog 116 Try.f80.results.toList (Try.f80.body.getD .skip) (seg_RecvBuf_Insert.RV R) [([(0, [1, 1, 1, 0, 1, 0, 0, 1, 1]), (2, [1, 1, 1, 0, 1, 0, 0]), (1, [0]), (0, [1, 1, 1, 1])], fun σ w => dP (slotOf σ 0) fun b_ => dL (slotOf σ 2) fun p_b_ p_l_ p_c_ => dI .i64 (slotOf σ 7) fun d0_ => dI .i64 (slotOf σ 8) fun w0_ => dI .i64 (slotOf σ 9) fun i_ => sB2 b_ p_b_ p_l_ p_c_ d0_ w0_ i_ w),
    ([(0, [1, 1, 1, 1, 1, 0, 1, 0, 0]), (2, [1, 1, 1, 1, 1, 0, 1, 0, 0]), (1, [2]), (0, [1, 1, 1, 1, 1, 1])], fun σ w => dP (slotOf σ 0) fun b_ => dI .i64 (slotOf σ 11) fun n_ => dI .u16 (slotOf σ 12) fun m0_ => sL2 b_ n_ m0_ w)] 2000) [(0, [1, 1, 1, 0, 1, 0, 0, 0, 1]), (0, [1, 1, 1, 0, 1, 0, 0, 1]), (2, [1, 1, 1, 0, 1, 0, 0]), (1, [0]), (0, [1, 1, 1, 1])] [(0, .pointer b), (2, .slice p_b p_l p_c), (7, .int .i64 d0), (8, .int .i64 w0), (9, .int .i64 i), (35, .bool t35)] w := by kernel_rfl
theorem seg_RecvBuf_Insert.B1_sound {R : Int → World → Prop} {N1 : Option Addr → Option Addr → Nat → Nat → Int → Int → Int → World → Prop} (hN1 : ∀ b p_b p_l p_c d0 w0 i w, N1 b p_b p_l p_c d0 w0 i w → KW Try.prog 80 116 (seg_RecvBuf_Insert.RV R) ([(0, [1, 1, 1, 0, 1, 0, 0]), (2, [1, 1, 1, 0, 1, 0, 0]), (1, [0]), (0, [1, 1, 1, 1])].map (toItem (Try.f80.body.getD .skip))) [(0, .pointer b), (2, .slice p_b p_l p_c), (7, .int .i64 d0), (8, .int .i64 w0), (9, .int .i64 i)] w) (b p_b : Option Addr) (p_l p_c : Nat) (d0 w0 i : Int) (t35 : Bool) (w : World) (h : seg_RecvBuf_Insert.B1 b p_b p_l p_c d0 w0 i t35 w N1  R) :
    KW Try.prog 80 116 (seg_RecvBuf_Insert.RV R) ([(0, [1, 1, 1, 0, 1, 0, 0, 0, 1]), (0, [1, 1, 1, 0, 1, 0, 0, 1]), (2, [1, 1, 1, 0, 1, 0, 0]), (1, [0]), (0, [1, 1, 1, 1])].map (toItem (Try.f80.body.getD .skip))) [(0, .pointer b), (2, .slice p_b p_l p_c), (7, .int .i64 d0), (8, .int .i64 w0), (9, .int .i64 i), (35, .bool t35)] w := by
  exact block_spec Try.func80 Try.mixed (stops_cons (fun σ w h => by
      obtain ⟨b_, e0, h⟩ := dP_elim h
      obtain ⟨p_b_, p_l_, p_c_, e1, h⟩ := dL_elim h
      obtain ⟨d0_, e2, h⟩ := dI_elim h
      obtain ⟨w0_, e3, h⟩ := dI_elim h
      obtain ⟨i_, e4, h⟩ := dI_elim h
      exact (seg_RecvBuf_Insert.B2_sound hN1 b_ p_b_ p_l_ p_c_ d0_ w0_ i_ w h).weaken (Sub.cons (Sub.cons (Sub.cons (Sub.cons (Sub.cons (Sub.nil _) e4) e3) e2) e1) e0)) (stops_cons (fun σ w h => by
      obtain ⟨b_, e0, h⟩ := dP_elim h
      obtain ⟨n_, e1, h⟩ := dI_elim h
      obtain ⟨m0_, e2, h⟩ := dI_elim h
      exact (seg_RecvBuf_Insert.L2_sound  b_ n_ m0_ w h).weaken (Sub.cons (Sub.cons (Sub.cons (Sub.nil _) e2) e1) e0)) stops_nil)) (Eq.mp (seg_RecvBuf_Insert.B1_eq b p_b p_l p_c d0 w0 i t35 w N1  R (fun b_ p_b_ p_l_ p_c_ d0_ w0_ i_ w => seg_RecvBuf_Insert.B2 b_ p_b_ p_l_ p_c_ d0_ w0_ i_ w N1 R) (fun b_ n_ m0_ w => seg_RecvBuf_Insert.L2 b_ n_ m0_ w  R)) h)
def seg_RecvBuf_Insert.L1b (b p_b : Option Addr) (p_l p_c : Nat) (d0 w0 i : Int) (w : World)  (N1 : Option Addr → Option Addr → Nat → Nat → Int → Int → Int → World → Prop) (R : Int → World → Prop) : Prop :=
  Bm (decide (i < ((p_l : Nat) : Int))) (
    seg_RecvBuf_Insert.B1 b p_b p_l p_c d0 w0 i (decide ((IntKind.i64.wrap (d0 + i)) < w0)) w N1 R) (
    seg_RecvBuf_Insert.B1 b p_b p_l p_c d0 w0 i false w N1 R)
theorem seg_RecvBuf_Insert.L1b_eq (b p_b : Option Addr) (p_l p_c : Nat) (d0 w0 i : Int) (w : World)  (N1 : Option Addr → Option Addr → Nat → Nat → Int → Int → Int → World → Prop) (R : Int → World → Prop) (sB1 : Option Addr → Option Addr → Nat → Nat → Int → Int → Int → Bool → World → Prop) :
    (
  Bm (decide (i < ((p_l : Nat) : Int))) (
    sB1 b p_b p_l p_c d0 w0 i (decide ((IntKind.i64.wrap (d0 + i)) < w0)) w) (
    sB1 b p_b p_l p_c d0 w0 i false w)) = kstep Try.prog 116 Try.f80.results.toList (Try.f80.body.getD .skip) (seg_RecvBuf_Insert.RV R) (kvc Try.prog 116 Try.f80.results.toList (Try.f80.body.getD .skip) (seg_RecvBuf_Insert.RV R) [([(0, [1, 1, 1, 0, 1, 0, 0, 0, 1]), (0, [1, 1, 1, 0, 1, 0, 0, 1]), (2, [1, 1, 1, 0, 1, 0, 0]), (1, [0]), (0, [1, 1, 1, 1])], fun σ w => dP (slotOf σ 0) fun b_ => dL (slotOf σ 2) fun p_b_ p_l_ p_c_ => dI .i64 (slotOf σ 7) fun d0_ => dI .i64 (slotOf σ 8) fun w0_ => dI .i64 (slotOf σ 9) fun i_ => dB (slotOf σ 35) fun t35_ => sB1 b_ p_b_ p_l_ p_c_ d0_ w0_ i_ t35_ w)] 2000) [(0, [1, 1, 1, 0, 1, 0, 0]), (2, [1, 1, 1, 0, 1, 0, 0]), (1, [0]), (0, [1, 1, 1, 1])] [(0, .pointer b), (2, .slice p_b p_l p_c), (7, .int .i64 d0), (8, .int .i64 w0), (9, .int .i64 i)] w := by kernel_rfl
theorem seg_RecvBuf_Insert.L1b_sound {R : Int → World → Prop} {N1 : Option Addr → Option Addr → Nat → Nat → Int → Int → Int → World → Prop} (hN1 : ∀ b p_b p_l p_c d0 w0 i w, N1 b p_b p_l p_c d0 w0 i w → KW Try.prog 80 116 (seg_RecvBuf_Insert.RV R) ([(0, [1, 1, 1, 0, 1, 0, 0]), (2, [1, 1, 1, 0, 1, 0, 0]), (1, [0]), (0, [1, 1, 1, 1])].map (toItem (Try.f80.body.getD .skip))) [(0, .pointer b), (2, .slice p_b p_l p_c), (7, .int .i64 d0), (8, .int .i64 w0), (9, .int .i64 i)] w) (b p_b : Option Addr) (p_l p_c : Nat) (d0 w0 i : Int) (w : World) (h : seg_RecvBuf_Insert.L1b b p_b p_l p_c d0 w0 i w  N1 R) :
    KW Try.prog 80 116 (seg_RecvBuf_Insert.RV R) ([(0, [1, 1, 1, 0, 1, 0, 0]), (2, [1, 1, 1, 0, 1, 0, 0]), (1, [0]), (0, [1, 1, 1, 1])].map (toItem (Try.f80.body.getD .skip))) [(0, .pointer b), (2, .slice p_b p_l p_c), (7, .int .i64 d0), (8, .int .i64 w0), (9, .int .i64 i)] w := by
  exact block_spec Try.func80 Try.mixed (stops_cons (fun σ w h => by
      obtain ⟨b_, e0, h⟩ := dP_elim h
      obtain ⟨p_b_, p_l_, p_c_, e1, h⟩ := dL_elim h
      obtain ⟨d0_, e2, h⟩ := dI_elim h
      obtain ⟨w0_, e3, h⟩ := dI_elim h
      obtain ⟨i_, e4, h⟩ := dI_elim h
      obtain ⟨t35_, e5, h⟩ := dB_elim h
      exact (seg_RecvBuf_Insert.B1_sound hN1 b_ p_b_ p_l_ p_c_ d0_ w0_ i_ t35_ w h).weaken (Sub.cons (Sub.cons (Sub.cons (Sub.cons (Sub.cons (Sub.cons (Sub.nil _) e5) e4) e3) e2) e1) e0)) stops_nil) (Eq.mp (seg_RecvBuf_Insert.L1b_eq b p_b p_l p_c d0 w0 i w  N1 R (fun b_ p_b_ p_l_ p_c_ d0_ w0_ i_ t35_ w => seg_RecvBuf_Insert.B1 b_ p_b_ p_l_ p_c_ d0_ w0_ i_ t35_ w N1 R)) h)
def seg_RecvBuf_Insert.L1 (b p_b : Option Addr) (p_l p_c : Nat) (d0 w0 i : Int) (w : World)  (R : Int → World → Prop) : Prop :=
  ∃ (I : Nat → Option Addr → Option Addr → Nat → Nat → Int → Int → Int → World → Prop) (m : Nat), I m b p_b p_l p_c d0 w0 i w ∧ ∀ m b p_b p_l p_c d0 w0 i w, I m b p_b p_l p_c d0 w0 i w → seg_RecvBuf_Insert.L1b b p_b p_l p_c d0 w0 i w  (fun b' p_b' p_l' p_c' d0' w0' i' w' => ∃ m', m' < m ∧ I m' b' p_b' p_l' p_c' d0' w0' i' w') R
theorem seg_RecvBuf_Insert.L1_sound {R : Int → World → Prop}  (b p_b : Option Addr) (p_l p_c : Nat) (d0 w0 i : Int) (w : World) (h : seg_RecvBuf_Insert.L1 b p_b p_l p_c d0 w0 i w  R) :
    KW Try.prog 80 116 (seg_RecvBuf_Insert.RV R) ([(0, [1, 1, 1, 0, 1, 0, 0]), (2, [1, 1, 1, 0, 1, 0, 0]), (1, [0]), (0, [1, 1, 1, 1])].map (toItem (Try.f80.body.getD .skip))) [(0, .pointer b), (2, .slice p_b p_l p_c), (7, .int .i64 d0), (8, .int .i64 w0), (9, .int .i64 i)] w := by
  obtain ⟨I, m, hBase, hr⟩ := h
  refine KW.loop (fun m σ w => ∃ (b p_b : Option Addr) (p_l p_c : Nat) (d0 w0 i : Int), σ = [(0, .pointer b), (2, .slice p_b p_l p_c), (7, .int .i64 d0), (8, .int .i64 w0), (9, .int .i64 i)] ∧ I m b p_b p_l p_c d0 w0 i w) ?_ m _ w ⟨b, p_b, p_l, p_c, d0, w0, i, rfl, hBase⟩
  rintro m ih σ w ⟨b, p_b, p_l, p_c, d0, w0, i, rfl, hI⟩
  exact seg_RecvBuf_Insert.L1b_sound  (N1 := fun b' p_b' p_l' p_c' d0' w0' i' w' => ∃ m', m' < m ∧ I m' b' p_b' p_l' p_c' d0' w0' i' w') (fun b' p_b' p_l' p_c' d0' w0' i' w' hx => by obtain ⟨m', hlt, hI'⟩ := hx; exact ih m' hlt _ w' ⟨b', p_b', p_l', p_c', d0', w0', i', rfl, hI'⟩) b p_b p_l p_c d0 w0 i w (hr m b p_b p_l p_c d0 w0 i w hI)
def seg_RecvBuf_Insert.B0 (b : Option Addr) (seq : Int) (p_b : Option Addr) (p_l p_c : Nat) (w : World)   (R : Int → World → Prop) : Prop :=
  Pn b fun a =>
  LdI .u8 (a.add 16) w fun x17 =>
  api_SeqDiff.Call seq (IntKind.i64.wrap x17) w fun r19 w1 =>
  Pn b fun a_1 =>
  LdI .i64 (a_1.add 17) w1 fun x23 =>
  seg_RecvBuf_Insert.L1 b p_b p_l p_c r19 (IntKind.i64.wrap ((16 : Int) - x23)) (0 : Int) w1  R
theorem seg_RecvBuf_Insert.B0_eq (b : Option Addr) (seq : Int) (p_b : Option Addr) (p_l p_c : Nat) (w : World)   (R : Int → World → Prop) (sL1 : Option Addr → Option Addr → Nat → Nat → Int → Int → Int → World → Prop) :
    (
  Pn b fun a =>
  LdI .u8 (a.add 16) w fun x17 =>
  api_SeqDiff.Call seq (IntKind.i64.wrap x17) w fun r19 w1 =>
  Pn b fun a_1 =>
  LdI .i64 (a_1.add 17) w1 fun x23 =>
  sL1 b p_b p_l p_c r19 (IntKind.i64.wrap ((16 : Int) - x23)) (0 : Int) w1) = kstep Try.prog 116 Try.f80.results.toList (Try.f80.body.getD .skip) (seg_RecvBuf_Insert.RV R) (kvc Try.prog 116 Try.f80.results.toList (Try.f80.body.getD .skip) (seg_RecvBuf_Insert.RV R) [([(0, [1, 1, 1, 0, 1, 0, 0]), (2, [1, 1, 1, 0, 1, 0, 0]), (1, [0]), (0, [1, 1, 1, 1])], fun σ w => dP (slotOf σ 0) fun b_ => dL (slotOf σ 2) fun p_b_ p_l_ p_c_ => dI .i64 (slotOf σ 7) fun d0_ => dI .i64 (slotOf σ 8) fun w0_ => dI .i64 (slotOf σ 9) fun i_ => sL1 b_ p_b_ p_l_ p_c_ d0_ w0_ i_ w)] 2000) [(0, [])] [(0, .pointer b), (1, .int .i64 seq), (2, .slice p_b p_l p_c)] w := by kernel_rfl
theorem seg_RecvBuf_Insert.B0_sound {R : Int → World → Prop}  (b : Option Addr) (seq : Int) (p_b : Option Addr) (p_l p_c : Nat) (w : World) (h : seg_RecvBuf_Insert.B0 b seq p_b p_l p_c w   R) :
    KW Try.prog 80 116 (seg_RecvBuf_Insert.RV R) ([(0, [])].map (toItem (Try.f80.body.getD .skip))) [(0, .pointer b), (1, .int .i64 seq), (2, .slice p_b p_l p_c)] w := by
  exact block_spec Try.func80 Try.mixed (stops_cons (fun σ w h => by
      obtain ⟨b_, e0, h⟩ := dP_elim h
      obtain ⟨p_b_, p_l_, p_c_, e1, h⟩ := dL_elim h
      obtain ⟨d0_, e2, h⟩ := dI_elim h
      obtain ⟨w0_, e3, h⟩ := dI_elim h
      obtain ⟨i_, e4, h⟩ := dI_elim h
      exact (seg_RecvBuf_Insert.L1_sound  b_ p_b_ p_l_ p_c_ d0_ w0_ i_ w h).weaken (Sub.cons (Sub.cons (Sub.cons (Sub.cons (Sub.cons (Sub.nil _) e4) e3) e2) e1) e0)) stops_nil) (Eq.mp (seg_RecvBuf_Insert.B0_eq b seq p_b p_l p_c w   R (fun b_ p_b_ p_l_ p_c_ d0_ w0_ i_ w => seg_RecvBuf_Insert.L1 b_ p_b_ p_l_ p_c_ d0_ w0_ i_ w  R)) h)
theorem seg_RecvBuf_Insert.sound (b : Option Addr) (seq : Int) (p_b : Option Addr) (p_l p_c : Nat) (w : World) (R : Int → World → Prop) (h : seg_RecvBuf_Insert.B0 b seq p_b p_l p_c w R) : seg_RecvBuf_Insert.Call b seq p_b p_l p_c w R := by
  have hc := calls_of_block (args := #[.pointer b, .int .i64 seq, .slice p_b p_l p_c]) Try.func80 (body := (Try.f80.body.getD .skip)) (by kernel_rfl) (by kernel_rfl) (args_slot _) (seg_RecvBuf_Insert.B0_sound b seq p_b p_l p_c w h)
  exact hc.mono fun e w' he => by
    obtain ⟨v, rfl, hv⟩ := he
    exact seg_RecvBuf_Insert.RV_elim hv
def segm_RecvBuf_Insert.B3 (b p_b : Option Addr) (p_l p_c : Nat) (d0 w0 i : Int) (w : World) (N1 : Option Addr → Option Addr → Nat → Nat → Int → Int → Int → World → Prop)  (R : Int → World → Prop) : Prop :=
  N1 b p_b p_l p_c d0 w0 (IntKind.i64.wrap (i + (1 : Int))) w
theorem segm_RecvBuf_Insert.B3_eq (b p_b : Option Addr) (p_l p_c : Nat) (d0 w0 i : Int) (w : World) (N1 : Option Addr → Option Addr → Nat → Nat → Int → Int → Int → World → Prop)  (R : Int → World → Prop)  :
    (
  N1 b p_b p_l p_c d0 w0 (IntKind.i64.wrap (i + (1 : Int))) w) = kstep Try.prog 134 Try.f81.results.toList (Try.f81.body.getD .skip) (segm_RecvBuf_Insert.RV R) (kvc Try.prog 134 Try.f81.results.toList (Try.f81.body.getD .skip) (segm_RecvBuf_Insert.RV R) [([(0, [1, 1, 1, 0, 1, 0, 0]), (2, [1, 1, 1, 0, 1, 0, 0]), (1, [0]), (0, [1, 1, 1, 1])], fun σ w => dP (slotOf σ 0) fun b_ => dL (slotOf σ 2) fun p_b_ p_l_ p_c_ => dI .i64 (slotOf σ 7) fun d0_ => dI .i64 (slotOf σ 8) fun w0_ => dI .i64 (slotOf σ 9) fun i_ => N1 b_ p_b_ p_l_ p_c_ d0_ w0_ i_ w)] 2000) [(0, [1, 1, 1, 0, 1, 0, 0, 1, 1]), (2, [1, 1, 1, 0, 1, 0, 0]), (1, [0]), (0, [1, 1, 1, 1])] [(0, .pointer b), (2, .slice p_b p_l p_c), (7, .int .i64 d0), (8, .int .i64 w0), (9, .int .i64 i)] w := by kernel_rfl
theorem segm_RecvBuf_Insert.B3_sound {R : Int → World → Prop} {N1 : Option Addr → Option Addr → Nat → Nat → Int → Int → Int → World → Prop} (hN1 : ∀ b p_b p_l p_c d0 w0 i w, N1 b p_b p_l p_c d0 w0 i w → KW Try.prog 81 134 (segm_RecvBuf_Insert.RV R) ([(0, [1, 1, 1, 0, 1, 0, 0]), (2, [1, 1, 1, 0, 1, 0, 0]), (1, [0]), (0, [1, 1, 1, 1])].map (toItem (Try.f81.body.getD .skip))) [(0, .pointer b), (2, .slice p_b p_l p_c), (7, .int .i64 d0), (8, .int .i64 w0), (9, .int .i64 i)] w) (b p_b : Option Addr) (p_l p_c : Nat) (d0 w0 i : Int) (w : World) (h : segm_RecvBuf_Insert.B3 b p_b p_l p_c d0 w0 i w N1  R) :
    KW Try.prog 81 134 (segm_RecvBuf_Insert.RV R) ([(0, [1, 1, 1, 0, 1, 0, 0, 1, 1]), (2, [1, 1, 1, 0, 1, 0, 0]), (1, [0]), (0, [1, 1, 1, 1])].map (toItem (Try.f81.body.getD .skip))) [(0, .pointer b), (2, .slice p_b p_l p_c), (7, .int .i64 d0), (8, .int .i64 w0), (9, .int .i64 i)] w := by
  exact block_spec Try.func81 Try.mixed (stops_cons (fun σ w h => by
      obtain ⟨b_, e0, h⟩ := dP_elim h
      obtain ⟨p_b_, p_l_, p_c_, e1, h⟩ := dL_elim h
      obtain ⟨d0_, e2, h⟩ := dI_elim h
      obtain ⟨w0_, e3, h⟩ := dI_elim h
      obtain ⟨i_, e4, h⟩ := dI_elim h
      exact (hN1 b_ p_b_ p_l_ p_c_ d0_ w0_ i_ w h).weaken (Sub.cons (Sub.cons (Sub.cons (Sub.cons (Sub.cons (Sub.nil _) e4) e3) e2) e1) e0)) stops_nil) (Eq.mp (segm_RecvBuf_Insert.B3_eq b p_b p_l p_c d0 w0 i w N1  R ) h)
def segm_RecvBuf_Insert.B2 (b p_b : Option Addr) (p_l p_c : Nat) (d0 w0 i : Int) (t47 : Bool) (w : World) (N1 : Option Addr → Option Addr → Nat → Nat → Int → Int → Int → World → Prop)  (R : Int → World → Prop) : Prop :=
  Bm t47 (
    Pn b fun a =>
    (0 ≤ (IntKind.i64.wrap (d0 + i)) ∧ (IntKind.i64.wrap (d0 + i)) < ((16 : Nat) : Int)) ∧
    Sts [.bool true] (Addr.add (a.add 2) ((IntKind.i64.wrap (d0 + i)).toNat * 1)) 0 w fun w1 =>
    Pn p_b fun a_1 =>
    (0 ≤ i ∧ i < ((p_l : Nat) : Int)) ∧
    LdI .u8 (Addr.add a_1 (i.toNat * 1)) w1.drew fun x62 =>
    Pn b fun a_2 =>
    (0 ≤ (IntKind.i64.wrap (d0 + i)) ∧ (IntKind.i64.wrap (d0 + i)) < ((16 : Nat) : Int)) ∧
    Sts [.int .u8 x62] (Addr.add (a_2.add 18) ((IntKind.i64.wrap (d0 + i)).toNat * 1)) 0 w1.drew fun w2 =>
    segm_RecvBuf_Insert.B3 b p_b p_l p_c d0 w0 i w2 N1 R) (
    segm_RecvBuf_Insert.B3 b p_b p_l p_c d0 w0 i w N1 R)
theorem segm_RecvBuf_Insert.B2_eq (b p_b : Option Addr) (p_l p_c : Nat) (d0 w0 i : Int) (t47 : Bool) (w : World) (N1 : Option Addr → Option Addr → Nat → Nat → Int → Int → Int → World → Prop)  (R : Int → World → Prop) (sB3 : Option Addr → Option Addr → Nat → Nat → Int → Int → Int → World → Prop) :
    (
  Bm t47 (
    Pn b fun a =>
    (0 ≤ (IntKind.i64.wrap (d0 + i)) ∧ (IntKind.i64.wrap (d0 + i)) < ((16 : Nat) : Int)) ∧
    Sts [.bool true] (Addr.add (a.add 2) ((IntKind.i64.wrap (d0 + i)).toNat * 1)) 0 w fun w1 =>
    Pn p_b fun a_1 =>
    (0 ≤ i ∧ i < ((p_l : Nat) : Int)) ∧
    LdI .u8 (Addr.add a_1 (i.toNat * 1)) w1.drew fun x62 =>
    Pn b fun a_2 =>
    (0 ≤ (IntKind.i64.wrap (d0 + i)) ∧ (IntKind.i64.wrap (d0 + i)) < ((16 : Nat) : Int)) ∧
    Sts [.int .u8 x62] (Addr.add (a_2.add 18) ((IntKind.i64.wrap (d0 + i)).toNat * 1)) 0 w1.drew fun w2 =>
    sB3 b p_b p_l p_c d0 w0 i w2) (
    sB3 b p_b p_l p_c d0 w0 i w)) = kstep Try.prog 134 Try.f81.results.toList (Try.f81.body.getD .skip) (segm_RecvBuf_Insert.RV R) (kvc Try.prog 134 Try.f81.results.toList (Try.f81.body.getD .skip) (segm_RecvBuf_Insert.RV R) [([(0, [1, 1, 1, 0, 1, 0, 0, 1, 1]), (2, [1, 1, 1, 0, 1, 0, 0]), (1, [0]), (0, [1, 1, 1, 1])], fun σ w => dP (slotOf σ 0) fun b_ => dL (slotOf σ 2) fun p_b_ p_l_ p_c_ => dI .i64 (slotOf σ 7) fun d0_ => dI .i64 (slotOf σ 8) fun w0_ => dI .i64 (slotOf σ 9) fun i_ => sB3 b_ p_b_ p_l_ p_c_ d0_ w0_ i_ w)] 2000) [(0, [1, 1, 1, 0, 1, 0, 0, 1, 0, 0, 1]), (1, [1]), (0, [1, 1, 1, 0, 1, 0, 0, 1, 1]), (2, [1, 1, 1, 0, 1, 0, 0]), (1, [0]), (0, [1, 1, 1, 1])] [(0, .pointer b), (2, .slice p_b p_l p_c), (7, .int .i64 d0), (8, .int .i64 w0), (9, .int .i64 i), (47, .bool t47)] w := by kernel_rfl
theorem segm_RecvBuf_Insert.B2_sound {R : Int → World → Prop} {N1 : Option Addr → Option Addr → Nat → Nat → Int → Int → Int → World → Prop} (hN1 : ∀ b p_b p_l p_c d0 w0 i w, N1 b p_b p_l p_c d0 w0 i w → KW Try.prog 81 134 (segm_RecvBuf_Insert.RV R) ([(0, [1, 1, 1, 0, 1, 0, 0]), (2, [1, 1, 1, 0, 1, 0, 0]), (1, [0]), (0, [1, 1, 1, 1])].map (toItem (Try.f81.body.getD .skip))) [(0, .pointer b), (2, .slice p_b p_l p_c), (7, .int .i64 d0), (8, .int .i64 w0), (9, .int .i64 i)] w) (b p_b : Option Addr) (p_l p_c : Nat) (d0 w0 i : Int) (t47 : Bool) (w : World) (h : segm_RecvBuf_Insert.B2 b p_b p_l p_c d0 w0 i t47 w N1  R) :
    KW Try.prog 81 134 (segm_RecvBuf_Insert.RV R) ([(0, [1, 1, 1, 0, 1, 0, 0, 1, 0, 0, 1]), (1, [1]), (0, [1, 1, 1, 0, 1, 0, 0, 1, 1]), (2, [1, 1, 1, 0, 1, 0, 0]), (1, [0]), (0, [1, 1, 1, 1])].map (toItem (Try.f81.body.getD .skip))) [(0, .pointer b), (2, .slice p_b p_l p_c), (7, .int .i64 d0), (8, .int .i64 w0), (9, .int .i64 i), (47, .bool t47)] w := by
  exact block_spec Try.func81 Try.mixed (stops_cons (fun σ w h => by
      obtain ⟨b_, e0, h⟩ := dP_elim h
      obtain ⟨p_b_, p_l_, p_c_, e1, h⟩ := dL_elim h
      obtain ⟨d0_, e2, h⟩ := dI_elim h
      obtain ⟨w0_, e3, h⟩ := dI_elim h
      obtain ⟨i_, e4, h⟩ := dI_elim h
      exact (segm_RecvBuf_Insert.B3_sound hN1 b_ p_b_ p_l_ p_c_ d0_ w0_ i_ w h).weaken (Sub.cons (Sub.cons (Sub.cons (Sub.cons (Sub.cons (Sub.nil _) e4) e3) e2) e1) e0)) stops_nil) (Eq.mp (segm_RecvBuf_Insert.B2_eq b p_b p_l p_c d0 w0 i t47 w N1  R (fun b_ p_b_ p_l_ p_c_ d0_ w0_ i_ w => segm_RecvBuf_Insert.B3 b_ p_b_ p_l_ p_c_ d0_ w0_ i_ w N1 R)) h)
def segm_RecvBuf_Insert.L3b (b : Option Addr) (n d : Int) (w : World) (N2 : Option Addr → Int → World → Prop) (N3 : Option Addr → Int → Int → World → Prop) (R : Int → World → Prop) : Prop :=
  Bm (decide ((IntKind.i64.wrap (d + (1 : Int))) < (16 : Int))) (
    Pn b fun a =>
    (0 ≤ (IntKind.i64.wrap (d + (1 : Int))) ∧ (IntKind.i64.wrap (d + (1 : Int))) < ((16 : Nat) : Int)) ∧
    LdB (Addr.add (a.add 2) ((IntKind.i64.wrap (d + (1 : Int))).toNat * 1)) w.drew fun x101 =>
    Pn b fun a_1 =>
    (0 ≤ (IntKind.i64.wrap (d + (1 : Int))) ∧ (IntKind.i64.wrap (d + (1 : Int))) < ((16 : Nat) : Int)) ∧
    LdI .u8 (Addr.add (a_1.add 18) ((IntKind.i64.wrap (d + (1 : Int))).toNat * 1)) w.drew fun x108 =>
    Pn b fun a_2 =>
    (0 ≤ d ∧ d < ((16 : Nat) : Int)) ∧
    Pn b fun a_3 =>
    Sts [.bool x101] (Addr.add (a_2.add 2) (d.toNat * 1)) 0 w.drew fun w1 =>
    (0 ≤ d ∧ d < ((16 : Nat) : Int)) ∧
    Sts [.int .u8 x108] (Addr.add (a_3.add 18) (d.toNat * 1)) 0 w1 fun w2 =>
    N3 b n (IntKind.i64.wrap (d + (1 : Int))) w2) (
    Pn b fun a_4 =>
    (0 ≤ (15 : Int) ∧ (15 : Int) < ((16 : Nat) : Int)) ∧
    Pn b fun a_5 =>
    Sts [.bool false] ((a_4.add 2).add 15) 0 w.drew fun w3 =>
    (0 ≤ (15 : Int) ∧ (15 : Int) < ((16 : Nat) : Int)) ∧
    Sts [.int .u8 (0 : Int)] ((a_5.add 18).add 15) 0 w3 fun w4 =>
    Pn b fun a_6 =>
    LdI .i64 a_6 w4 fun x127 =>
    api_SeqAdd.Call x127 (1 : Int) w4 fun r128 w5 =>
    Pn b fun a_7 =>
    Sts [.int .i64 r128] a_7 0 w5 fun w6 =>
    N2 b (IntKind.i64.wrap (n + (1 : Int))) w6)
theorem segm_RecvBuf_Insert.L3b_eq (b : Option Addr) (n d : Int) (w : World) (N2 : Option Addr → Int → World → Prop) (N3 : Option Addr → Int → Int → World → Prop) (R : Int → World → Prop)  :
    (
  Bm (decide ((IntKind.i64.wrap (d + (1 : Int))) < (16 : Int))) (
    Pn b fun a =>
    (0 ≤ (IntKind.i64.wrap (d + (1 : Int))) ∧ (IntKind.i64.wrap (d + (1 : Int))) < ((16 : Nat) : Int)) ∧
    LdB (Addr.add (a.add 2) ((IntKind.i64.wrap (d + (1 : Int))).toNat * 1)) w.drew fun x101 =>
    Pn b fun a_1 =>
    (0 ≤ (IntKind.i64.wrap (d + (1 : Int))) ∧ (IntKind.i64.wrap (d + (1 : Int))) < ((16 : Nat) : Int)) ∧
    LdI .u8 (Addr.add (a_1.add 18) ((IntKind.i64.wrap (d + (1 : Int))).toNat * 1)) w.drew fun x108 =>
    Pn b fun a_2 =>
    (0 ≤ d ∧ d < ((16 : Nat) : Int)) ∧
    Pn b fun a_3 =>
    Sts [.bool x101] (Addr.add (a_2.add 2) (d.toNat * 1)) 0 w.drew fun w1 =>
    (0 ≤ d ∧ d < ((16 : Nat) : Int)) ∧
    Sts [.int .u8 x108] (Addr.add (a_3.add 18) (d.toNat * 1)) 0 w1 fun w2 =>
    N3 b n (IntKind.i64.wrap (d + (1 : Int))) w2) (
    Pn b fun a_4 =>
    (0 ≤ (15 : Int) ∧ (15 : Int) < ((16 : Nat) : Int)) ∧
    Pn b fun a_5 =>
    Sts [.bool false] ((a_4.add 2).add 15) 0 w.drew fun w3 =>
    (0 ≤ (15 : Int) ∧ (15 : Int) < ((16 : Nat) : Int)) ∧
    Sts [.int .u8 (0 : Int)] ((a_5.add 18).add 15) 0 w3 fun w4 =>
    Pn b fun a_6 =>
    LdI .i64 a_6 w4 fun x127 =>
    api_SeqAdd.Call x127 (1 : Int) w4 fun r128 w5 =>
    Pn b fun a_7 =>
    Sts [.int .i64 r128] a_7 0 w5 fun w6 =>
    N2 b (IntKind.i64.wrap (n + (1 : Int))) w6)) = kstep Try.prog 134 Try.f81.results.toList (Try.f81.body.getD .skip) (segm_RecvBuf_Insert.RV R) (kvc Try.prog 134 Try.f81.results.toList (Try.f81.body.getD .skip) (segm_RecvBuf_Insert.RV R) [([(0, [1, 1, 1, 1, 1, 0, 0, 0, 1, 0, 1, 0, 1, 0, 0]), (2, [1, 1, 1, 1, 1, 0, 0, 0, 1, 0, 1, 0, 1, 0, 0]), (1, [4]), (0, [1, 1, 1, 1, 1, 0, 0, 0, 1, 0, 1, 1]), (1, [3]), (2, [1, 1, 1, 1, 1, 0, 0, 0]), (1, [2]), (0, [1, 1, 1, 1, 1, 1])], fun σ w => dP (slotOf σ 0) fun b_ => dI .i64 (slotOf σ 10) fun n_ => dI .i64 (slotOf σ 11) fun d_ => N3 b_ n_ d_ w),
    ([(0, [1, 1, 1, 1, 1, 0, 0, 0]), (2, [1, 1, 1, 1, 1, 0, 0, 0]), (1, [2]), (0, [1, 1, 1, 1, 1, 1])], fun σ w => dP (slotOf σ 0) fun b_ => dI .i64 (slotOf σ 10) fun n_ => N2 b_ n_ w)] 2000) [(0, [1, 1, 1, 1, 1, 0, 0, 0, 1, 0, 1, 0, 1, 0, 0]), (2, [1, 1, 1, 1, 1, 0, 0, 0, 1, 0, 1, 0, 1, 0, 0]), (1, [4]), (0, [1, 1, 1, 1, 1, 0, 0, 0, 1, 0, 1, 1]), (1, [3]), (2, [1, 1, 1, 1, 1, 0, 0, 0]), (1, [2]), (0, [1, 1, 1, 1, 1, 1])] [(0, .pointer b), (10, .int .i64 n), (11, .int .i64 d)] w := by kernel_rfl
theorem segm_RecvBuf_Insert.L3b_sound {R : Int → World → Prop} {N2 : Option Addr → Int → World → Prop} (hN2 : ∀ b n w, N2 b n w → KW Try.prog 81 134 (segm_RecvBuf_Insert.RV R) ([(0, [1, 1, 1, 1, 1, 0, 0, 0]), (2, [1, 1, 1, 1, 1, 0, 0, 0]), (1, [2]), (0, [1, 1, 1, 1, 1, 1])].map (toItem (Try.f81.body.getD .skip))) [(0, .pointer b), (10, .int .i64 n)] w) {N3 : Option Addr → Int → Int → World → Prop} (hN3 : ∀ b n d w, N3 b n d w → KW Try.prog 81 134 (segm_RecvBuf_Insert.RV R) ([(0, [1, 1, 1, 1, 1, 0, 0, 0, 1, 0, 1, 0, 1, 0, 0]), (2, [1, 1, 1, 1, 1, 0, 0, 0, 1, 0, 1, 0, 1, 0, 0]), (1, [4]), (0, [1, 1, 1, 1, 1, 0, 0, 0, 1, 0, 1, 1]), (1, [3]), (2, [1, 1, 1, 1, 1, 0, 0, 0]), (1, [2]), (0, [1, 1, 1, 1, 1, 1])].map (toItem (Try.f81.body.getD .skip))) [(0, .pointer b), (10, .int .i64 n), (11, .int .i64 d)] w) (b : Option Addr) (n d : Int) (w : World) (h : segm_RecvBuf_Insert.L3b b n d w N2 N3 R) :
    KW Try.prog 81 134 (segm_RecvBuf_Insert.RV R) ([(0, [1, 1, 1, 1, 1, 0, 0, 0, 1, 0, 1, 0, 1, 0, 0]), (2, [1, 1, 1, 1, 1, 0, 0, 0, 1, 0, 1, 0, 1, 0, 0]), (1, [4]), (0, [1, 1, 1, 1, 1, 0, 0, 0, 1, 0, 1, 1]), (1, [3]), (2, [1, 1, 1, 1, 1, 0, 0, 0]), (1, [2]), (0, [1, 1, 1, 1, 1, 1])].map (toItem (Try.f81.body.getD .skip))) [(0, .pointer b), (10, .int .i64 n), (11, .int .i64 d)] w := by
  exact block_spec Try.func81 Try.mixed (stops_cons (fun σ w h => by
      obtain ⟨b_, e0, h⟩ := dP_elim h
      obtain ⟨n_, e1, h⟩ := dI_elim h
      obtain ⟨d_, e2, h⟩ := dI_elim h
      exact (hN3 b_ n_ d_ w h).weaken (Sub.cons (Sub.cons (Sub.cons (Sub.nil _) e2) e1) e0)) (stops_cons (fun σ w h => by
      obtain ⟨b_, e0, h⟩ := dP_elim h
      obtain ⟨n_, e1, h⟩ := dI_elim h
      exact (hN2 b_ n_ w h).weaken (Sub.cons (Sub.cons (Sub.nil _) e1) e0)) stops_nil)) (Eq.mp (segm_RecvBuf_Insert.L3b_eq b n d w N2 N3 R ) h)
def segm_RecvBuf_Insert.L3 (b : Option Addr) (n d : Int) (w : World) (N2 : Option Addr → Int → World → Prop) (R : Int → World → Prop) : Prop :=
  ∃ (I : Nat → Option Addr → Int → Int → World → Prop) (m : Nat), I m b n d w ∧ ∀ m b n d w, I m b n d w → segm_RecvBuf_Insert.L3b b n d w N2 (fun b' n' d' w' => ∃ m', m' < m ∧ I m' b' n' d' w') R
theorem segm_RecvBuf_Insert.L3_sound {R : Int → World → Prop} {N2 : Option Addr → Int → World → Prop} (hN2 : ∀ b n w, N2 b n w → KW Try.prog 81 134 (segm_RecvBuf_Insert.RV R) ([(0, [1, 1, 1, 1, 1, 0, 0, 0]), (2, [1, 1, 1, 1, 1, 0, 0, 0]), (1, [2]), (0, [1, 1, 1, 1, 1, 1])].map (toItem (Try.f81.body.getD .skip))) [(0, .pointer b), (10, .int .i64 n)] w) (b : Option Addr) (n d : Int) (w : World) (h : segm_RecvBuf_Insert.L3 b n d w N2 R) :
    KW Try.prog 81 134 (segm_RecvBuf_Insert.RV R) ([(0, [1, 1, 1, 1, 1, 0, 0, 0, 1, 0, 1, 0, 1, 0, 0]), (2, [1, 1, 1, 1, 1, 0, 0, 0, 1, 0, 1, 0, 1, 0, 0]), (1, [4]), (0, [1, 1, 1, 1, 1, 0, 0, 0, 1, 0, 1, 1]), (1, [3]), (2, [1, 1, 1, 1, 1, 0, 0, 0]), (1, [2]), (0, [1, 1, 1, 1, 1, 1])].map (toItem (Try.f81.body.getD .skip))) [(0, .pointer b), (10, .int .i64 n), (11, .int .i64 d)] w := by
  obtain ⟨I, m, hBase, hr⟩ := h
  refine KW.loop (fun m σ w => ∃ (b : Option Addr) (n d : Int), σ = [(0, .pointer b), (10, .int .i64 n), (11, .int .i64 d)] ∧ I m b n d w) ?_ m _ w ⟨b, n, d, rfl, hBase⟩
  rintro m ih σ w ⟨b, n, d, rfl, hI⟩
  exact segm_RecvBuf_Insert.L3b_sound hN2 (N3 := fun b' n' d' w' => ∃ m', m' < m ∧ I m' b' n' d' w') (fun b' n' d' w' hx => by obtain ⟨m', hlt, hI'⟩ := hx; exact ih m' hlt _ w' ⟨b', n', d', rfl, hI'⟩) b n d w (hr m b n d w hI)
def segm_RecvBuf_Insert.B4 (b : Option Addr) (n : Int) (w : World) (N2 : Option Addr → Int → World → Prop)  (R : Int → World → Prop) : Prop :=
  segm_RecvBuf_Insert.L3 b n (0 : Int) w N2 R
theorem segm_RecvBuf_Insert.B4_eq (b : Option Addr) (n : Int) (w : World) (N2 : Option Addr → Int → World → Prop)  (R : Int → World → Prop) (sL3 : Option Addr → Int → Int → World → Prop) :
    (
  sL3 b n (0 : Int) w) = kstep Try.prog 134 Try.f81.results.toList (Try.f81.body.getD .skip) (segm_RecvBuf_Insert.RV R) (kvc Try.prog 134 Try.f81.results.toList (Try.f81.body.getD .skip) (segm_RecvBuf_Insert.RV R) [([(0, [1, 1, 1, 1, 1, 0, 0, 0, 1, 0, 1, 0, 1, 0, 0]), (2, [1, 1, 1, 1, 1, 0, 0, 0, 1, 0, 1, 0, 1, 0, 0]), (1, [4]), (0, [1, 1, 1, 1, 1, 0, 0, 0, 1, 0, 1, 1]), (1, [3]), (2, [1, 1, 1, 1, 1, 0, 0, 0]), (1, [2]), (0, [1, 1, 1, 1, 1, 1])], fun σ w => dP (slotOf σ 0) fun b_ => dI .i64 (slotOf σ 10) fun n_ => dI .i64 (slotOf σ 11) fun d_ => sL3 b_ n_ d_ w)] 2000) [(0, [1, 1, 1, 1, 1, 0, 0, 0, 1, 0, 1]), (1, [3]), (2, [1, 1, 1, 1, 1, 0, 0, 0]), (1, [2]), (0, [1, 1, 1, 1, 1, 1])] [(0, .pointer b), (10, .int .i64 n)] w := by kernel_rfl
theorem segm_RecvBuf_Insert.B4_sound {R : Int → World → Prop} {N2 : Option Addr → Int → World → Prop} (hN2 : ∀ b n w, N2 b n w → KW Try.prog 81 134 (segm_RecvBuf_Insert.RV R) ([(0, [1, 1, 1, 1, 1, 0, 0, 0]), (2, [1, 1, 1, 1, 1, 0, 0, 0]), (1, [2]), (0, [1, 1, 1, 1, 1, 1])].map (toItem (Try.f81.body.getD .skip))) [(0, .pointer b), (10, .int .i64 n)] w) (b : Option Addr) (n : Int) (w : World) (h : segm_RecvBuf_Insert.B4 b n w N2  R) :
    KW Try.prog 81 134 (segm_RecvBuf_Insert.RV R) ([(0, [1, 1, 1, 1, 1, 0, 0, 0, 1, 0, 1]), (1, [3]), (2, [1, 1, 1, 1, 1, 0, 0, 0]), (1, [2]), (0, [1, 1, 1, 1, 1, 1])].map (toItem (Try.f81.body.getD .skip))) [(0, .pointer b), (10, .int .i64 n)] w := by
  exact block_spec Try.func81 Try.mixed (stops_cons (fun σ w h => by
      obtain ⟨b_, e0, h⟩ := dP_elim h
      obtain ⟨n_, e1, h⟩ := dI_elim h
      obtain ⟨d_, e2, h⟩ := dI_elim h
      exact (segm_RecvBuf_Insert.L3_sound hN2 b_ n_ d_ w h).weaken (Sub.cons (Sub.cons (Sub.cons (Sub.nil _) e2) e1) e0)) stops_nil) (Eq.mp (segm_RecvBuf_Insert.B4_eq b n w N2  R (fun b_ n_ d_ w => segm_RecvBuf_Insert.L3 b_ n_ d_ w N2 R)) h)
def segm_RecvBuf_Insert.L2b (b : Option Addr) (n : Int) (w : World)  (N2 : Option Addr → Int → World → Prop) (R : Int → World → Prop) : Prop :=
  Pn b fun a =>
  (0 ≤ (0 : Int) ∧ (0 : Int) < ((16 : Nat) : Int)) ∧
  LdB (a.add 2) w fun x70 =>
  Bm x70 (
    Pn b fun a_1 =>
    LdL (a_1.add 1) w.drew fun x75_b x75_l x75_c =>
    Pn b fun a_2 =>
    (0 ≤ (0 : Int) ∧ (0 : Int) < ((16 : Nat) : Int)) ∧
    LdI .u8 (a_2.add 18) w.drew fun x81 =>
    ((
      api_CopyBytes.Call x75_b x75_l x75_c w.drew fun r76_b r76_l r76_c w1 =>
      w1.cell? (a_2.add 18) = some (.int .u8 x81) ∧
      New (.cells #[.int .u8 x81] 5) w1 fun b82 w2 =>
      Append 5 (.int .u8 (0 : Int)) 1 1 r76_b r76_l r76_c (some ⟨b82, 0, none⟩) 1 w2 fun b83 c83 w3 =>
      Pn b fun a_3 =>
      Sts [.slice b83 (r76_l + 1) c83] (a_3.add 1) 0 w3 fun w4 =>
      segm_RecvBuf_Insert.B4 b n w4 N2 R) ∧ (
      New (.cells #[.int .u8 x81] 5) w.drew fun b82_1 w5 =>
      w5.cell? (a_1.add 1) = some (.slice x75_b x75_l x75_c) ∧
      api_CopyBytes.Call x75_b x75_l x75_c w5 fun r76_b_1 r76_l_1 r76_c_1 w6 =>
      Append 5 (.int .u8 (0 : Int)) 1 1 r76_b_1 r76_l_1 r76_c_1 (some ⟨b82_1, 0, none⟩) 1 w6 fun b83_1 c83_1 w7 =>
      Pn b fun a_4 =>
      Sts [.slice b83_1 (r76_l_1 + 1) c83_1] (a_4.add 1) 0 w7 fun w8 =>
      segm_RecvBuf_Insert.B4 b n w8 N2 R))) (
    R n w)
theorem segm_RecvBuf_Insert.L2b_eq (b : Option Addr) (n : Int) (w : World)  (N2 : Option Addr → Int → World → Prop) (R : Int → World → Prop) (sB4 : Option Addr → Int → World → Prop) :
    (
  Pn b fun a =>
  (0 ≤ (0 : Int) ∧ (0 : Int) < ((16 : Nat) : Int)) ∧
  LdB (a.add 2) w fun x70 =>
  Bm x70 (
    Pn b fun a_1 =>
    LdL (a_1.add 1) w.drew fun x75_b x75_l x75_c =>
    Pn b fun a_2 =>
    (0 ≤ (0 : Int) ∧ (0 : Int) < ((16 : Nat) : Int)) ∧
    LdI .u8 (a_2.add 18) w.drew fun x81 =>
    ((
      api_CopyBytes.Call x75_b x75_l x75_c w.drew fun r76_b r76_l r76_c w1 =>
      w1.cell? (a_2.add 18) = some (.int .u8 x81) ∧
      New (.cells #[.int .u8 x81] 5) w1 fun b82 w2 =>
      Append 5 (.int .u8 (0 : Int)) 1 1 r76_b r76_l r76_c (some ⟨b82, 0, none⟩) 1 w2 fun b83 c83 w3 =>
      Pn b fun a_3 =>
      Sts [.slice b83 (r76_l + 1) c83] (a_3.add 1) 0 w3 fun w4 =>
      sB4 b n w4) ∧ (
      New (.cells #[.int .u8 x81] 5) w.drew fun b82_1 w5 =>
      w5.cell? (a_1.add 1) = some (.slice x75_b x75_l x75_c) ∧
      api_CopyBytes.Call x75_b x75_l x75_c w5 fun r76_b_1 r76_l_1 r76_c_1 w6 =>
      Append 5 (.int .u8 (0 : Int)) 1 1 r76_b_1 r76_l_1 r76_c_1 (some ⟨b82_1, 0, none⟩) 1 w6 fun b83_1 c83_1 w7 =>
      Pn b fun a_4 =>
      Sts [.slice b83_1 (r76_l_1 + 1) c83_1] (a_4.add 1) 0 w7 fun w8 =>
      sB4 b n w8))) (
    R n w)) = kstep Try.prog 134 Try.f81.results.toList (Try.f81.body.getD .skip) (segm_RecvBuf_Insert.RV R) (kvc Try.prog 134 Try.f81.results.toList (Try.f81.body.getD .skip) (segm_RecvBuf_Insert.RV R) [([(0, [1, 1, 1, 1, 1, 0, 0, 0, 1, 0, 1]), (1, [3]), (2, [1, 1, 1, 1, 1, 0, 0, 0]), (1, [2]), (0, [1, 1, 1, 1, 1, 1])], fun σ w => dP (slotOf σ 0) fun b_ => dI .i64 (slotOf σ 10) fun n_ => sB4 b_ n_ w)] 2000) [(0, [1, 1, 1, 1, 1, 0, 0, 0]), (2, [1, 1, 1, 1, 1, 0, 0, 0]), (1, [2]), (0, [1, 1, 1, 1, 1, 1])] [(0, .pointer b), (10, .int .i64 n)] w := by kernel_rfl
theorem segm_RecvBuf_Insert.L2b_sound {R : Int → World → Prop} {N2 : Option Addr → Int → World → Prop} (hN2 : ∀ b n w, N2 b n w → KW Try.prog 81 134 (segm_RecvBuf_Insert.RV R) ([(0, [1, 1, 1, 1, 1, 0, 0, 0]), (2, [1, 1, 1, 1, 1, 0, 0, 0]), (1, [2]), (0, [1, 1, 1, 1, 1, 1])].map (toItem (Try.f81.body.getD .skip))) [(0, .pointer b), (10, .int .i64 n)] w) (b : Option Addr) (n : Int) (w : World) (h : segm_RecvBuf_Insert.L2b b n w  N2 R) :
    KW Try.prog 81 134 (segm_RecvBuf_Insert.RV R) ([(0, [1, 1, 1, 1, 1, 0, 0, 0]), (2, [1, 1, 1, 1, 1, 0, 0, 0]), (1, [2]), (0, [1, 1, 1, 1, 1, 1])].map (toItem (Try.f81.body.getD .skip))) [(0, .pointer b), (10, .int .i64 n)] w := by
  exact block_spec Try.func81 Try.mixed (stops_cons (fun σ w h => by
      obtain ⟨b_, e0, h⟩ := dP_elim h
      obtain ⟨n_, e1, h⟩ := dI_elim h
      exact (segm_RecvBuf_Insert.B4_sound hN2 b_ n_ w h).weaken (Sub.cons (Sub.cons (Sub.nil _) e1) e0)) stops_nil) (Eq.mp (segm_RecvBuf_Insert.L2b_eq b n w  N2 R (fun b_ n_ w => segm_RecvBuf_Insert.B4 b_ n_ w N2 R)) h)
def segm_RecvBuf_Insert.L2 (b : Option Addr) (n : Int) (w : World)  (R : Int → World → Prop) : Prop :=
  ∃ (I : Nat → Option Addr → Int → World → Prop) (m : Nat), I m b n w ∧ ∀ m b n w, I m b n w → segm_RecvBuf_Insert.L2b b n w  (fun b' n' w' => ∃ m', m' < m ∧ I m' b' n' w') R
theorem segm_RecvBuf_Insert.L2_sound {R : Int → World → Prop}  (b : Option Addr) (n : Int) (w : World) (h : segm_RecvBuf_Insert.L2 b n w  R) :
    KW Try.prog 81 134 (segm_RecvBuf_Insert.RV R) ([(0, [1, 1, 1, 1, 1, 0, 0, 0]), (2, [1, 1, 1, 1, 1, 0, 0, 0]), (1, [2]), (0, [1, 1, 1, 1, 1, 1])].map (toItem (Try.f81.body.getD .skip))) [(0, .pointer b), (10, .int .i64 n)] w := by
  obtain ⟨I, m, hBase, hr⟩ := h
  refine KW.loop (fun m σ w => ∃ (b : Option Addr) (n : Int), σ = [(0, .pointer b), (10, .int .i64 n)] ∧ I m b n w) ?_ m _ w ⟨b, n, rfl, hBase⟩
  rintro m ih σ w ⟨b, n, rfl, hI⟩
  exact segm_RecvBuf_Insert.L2b_sound  (N2 := fun b' n' w' => ∃ m', m' < m ∧ I m' b' n' w') (fun b' n' w' hx => by obtain ⟨m', hlt, hI'⟩ := hx; exact ih m' hlt _ w' ⟨b', n', rfl, hI'⟩) b n w (hr m b n w hI)
def segm_RecvBuf_Insert.B1 (b p_b : Option Addr) (p_l p_c : Nat) (d0 w0 i : Int) (t30 : Bool) (w : World) (N1 : Option Addr → Option Addr → Nat → Nat → Int → Int → Int → World → Prop)  (R : Int → World → Prop) : Prop :=
  Bm t30 (
    Bm (decide ((IntKind.i64.wrap (d0 + i)) ≥ (0 : Int))) (
      Pn b fun a =>
      (0 ≤ (IntKind.i64.wrap (d0 + i)) ∧ (IntKind.i64.wrap (d0 + i)) < ((16 : Nat) : Int)) ∧
      LdB (Addr.add (a.add 2) ((IntKind.i64.wrap (d0 + i)).toNat * 1)) w fun x45 =>
      segm_RecvBuf_Insert.B2 b p_b p_l p_c d0 w0 i (!x45) w N1 R) (
      segm_RecvBuf_Insert.B2 b p_b p_l p_c d0 w0 i false w N1 R)) (
    segm_RecvBuf_Insert.L2 b (0 : Int) w  R)
theorem segm_RecvBuf_Insert.B1_eq (b p_b : Option Addr) (p_l p_c : Nat) (d0 w0 i : Int) (t30 : Bool) (w : World) (N1 : Option Addr → Option Addr → Nat → Nat → Int → Int → Int → World → Prop)  (R : Int → World → Prop) (sB2 : Option Addr → Option Addr → Nat → Nat → Int → Int → Int → Bool → World → Prop) (sL2 : Option Addr → Int → World → Prop) :
    (
  Bm t30 (
    Bm (decide ((IntKind.i64.wrap (d0 + i)) ≥ (0 : Int))) (
      Pn b fun a =>
      (0 ≤ (IntKind.i64.wrap (d0 + i)) ∧ (IntKind.i64.wrap (d0 + i)) < ((16 : Nat) : Int)) ∧
      LdB (Addr.add (a.add 2) ((IntKind.i64.wrap (d0 + i)).toNat * 1)) w fun x45 =>
      sB2 b p_b p_l p_c d0 w0 i (!x45) w) (
      sB2 b p_b p_l p_c d0 w0 i false w)) (
    sL2 b (0 : Int) w)) = kstep Try.prog 134 Try.f81.results.toList (Try.f81.body.getD .skip) (segm_RecvBuf_Insert.RV R) (kvc Try.prog 134 Try.f81.results.toList (Try.f81.body.getD .skip) (segm_RecvBuf_Insert.RV R) [([(0, [1, 1, 1, 0, 1, 0, 0, 1, 0, 0, 1]), (1, [1]), (0, [1, 1, 1, 0, 1, 0, 0, 1, 1]), (2, [1, 1, 1, 0, 1, 0, 0]), (1, [0]), (0, [1, 1, 1, 1])], fun σ w => dP (slotOf σ 0) fun b_ => dL (slotOf σ 2) fun p_b_ p_l_ p_c_ => dI .i64 (slotOf σ 7) fun d0_ => dI .i64 (slotOf σ 8) fun w0_ => dI .i64 (slotOf σ 9) fun i_ => dB (slotOf σ 47) fun t47_ => sB2 b_ p_b_ p_l_ p_c_ d0_ w0_ i_ t47_ w),
    ([(0, [1, 1, 1, 1, 1, 0, 0, 0]), (2, [1, 1, 1, 1, 1, 0, 0, 0]), (1, [2]), (0, [1, 1, 1, 1, 1, 1])], fun σ w => dP (slotOf σ 0) fun b_ => dI .i64 (slotOf σ 10) fun n_ => sL2 b_ n_ w)] 2000) [(0, [1, 1, 1, 0, 1, 0, 0, 0, 1]), (0, [1, 1, 1, 0, 1, 0, 0, 1]), (2, [1, 1, 1, 0, 1, 0, 0]), (1, [0]), (0, [1, 1, 1, 1])] [(0, .pointer b), (2, .slice p_b p_l p_c), (7, .int .i64 d0), (8, .int .i64 w0), (9, .int .i64 i), (30, .bool t30)] w := by kernel_rfl
theorem segm_RecvBuf_Insert.B1_sound {R : Int → World → Prop} {N1 : Option Addr → Option Addr → Nat → Nat → Int → Int → Int → World → Prop} (hN1 : ∀ b p_b p_l p_c d0 w0 i w, N1 b p_b p_l p_c d0 w0 i w → KW Try.prog 81 134 (segm_RecvBuf_Insert.RV R) ([(0, [1, 1, 1, 0, 1, 0, 0]), (2, [1, 1, 1, 0, 1, 0, 0]), (1, [0]), (0, [1, 1, 1, 1])].map (toItem (Try.f81.body.getD .skip))) [(0, .pointer b), (2, .slice p_b p_l p_c), (7, .int .i64 d0), (8, .int .i64 w0), (9, .int .i64 i)] w) (b p_b : Option Addr) (p_l p_c : Nat) (d0 w0 i : Int) (t30 : Bool) (w : World) (h : segm_RecvBuf_Insert.B1 b p_b p_l p_c d0 w0 i t30 w N1  R) :
    KW Try.prog 81 134 (segm_RecvBuf_Insert.RV R) ([(0, [1, 1, 1, 0, 1, 0, 0, 0, 1]), (0, [1, 1, 1, 0, 1, 0, 0, 1]), (2, [1, 1, 1, 0, 1, 0, 0]), (1, [0]), (0, [1, 1, 1, 1])].map (toItem (Try.f81.body.getD .skip))) [(0, .pointer b), (2, .slice p_b p_l p_c), (7, .int .i64 d0), (8, .int .i64 w0), (9, .int .i64 i), (30, .bool t30)] w := by
  exact block_spec Try.func81 Try.mixed (stops_cons (fun σ w h => by
      obtain ⟨b_, e0, h⟩ := dP_elim h
      obtain ⟨p_b_, p_l_, p_c_, e1, h⟩ := dL_elim h
      obtain ⟨d0_, e2, h⟩ := dI_elim h
      obtain ⟨w0_, e3, h⟩ := dI_elim h
      obtain ⟨i_, e4, h⟩ := dI_elim h
      obtain ⟨t47_, e5, h⟩ := dB_elim h
      exact (segm_RecvBuf_Insert.B2_sound hN1 b_ p_b_ p_l_ p_c_ d0_ w0_ i_ t47_ w h).weaken (Sub.cons (Sub.cons (Sub.cons (Sub.cons (Sub.cons (Sub.cons (Sub.nil _) e5) e4) e3) e2) e1) e0)) (stops_cons (fun σ w h => by
      obtain ⟨b_, e0, h⟩ := dP_elim h
      obtain ⟨n_, e1, h⟩ := dI_elim h
      exact (segm_RecvBuf_Insert.L2_sound  b_ n_ w h).weaken (Sub.cons (Sub.cons (Sub.nil _) e1) e0)) stops_nil)) (Eq.mp (segm_RecvBuf_Insert.B1_eq b p_b p_l p_c d0 w0 i t30 w N1  R (fun b_ p_b_ p_l_ p_c_ d0_ w0_ i_ t47_ w => segm_RecvBuf_Insert.B2 b_ p_b_ p_l_ p_c_ d0_ w0_ i_ t47_ w N1 R) (fun b_ n_ w => segm_RecvBuf_Insert.L2 b_ n_ w  R)) h)
def segm_RecvBuf_Insert.L1b (b p_b : Option Addr) (p_l p_c : Nat) (d0 w0 i : Int) (w : World)  (N1 : Option Addr → Option Addr → Nat → Nat → Int → Int → Int → World → Prop) (R : Int → World → Prop) : Prop :=
  Bm (decide (i < ((p_l : Nat) : Int))) (
    segm_RecvBuf_Insert.B1 b p_b p_l p_c d0 w0 i (decide ((IntKind.i64.wrap (d0 + i)) < w0)) w N1 R) (
    segm_RecvBuf_Insert.B1 b p_b p_l p_c d0 w0 i false w N1 R)
theorem segm_RecvBuf_Insert.L1b_eq (b p_b : Option Addr) (p_l p_c : Nat) (d0 w0 i : Int) (w : World)  (N1 : Option Addr → Option Addr → Nat → Nat → Int → Int → Int → World → Prop) (R : Int → World → Prop) (sB1 : Option Addr → Option Addr → Nat → Nat → Int → Int → Int → Bool → World → Prop) :
    (
  Bm (decide (i < ((p_l : Nat) : Int))) (
    sB1 b p_b p_l p_c d0 w0 i (decide ((IntKind.i64.wrap (d0 + i)) < w0)) w) (
    sB1 b p_b p_l p_c d0 w0 i false w)) = kstep Try.prog 134 Try.f81.results.toList (Try.f81.body.getD .skip) (segm_RecvBuf_Insert.RV R) (kvc Try.prog 134 Try.f81.results.toList (Try.f81.body.getD .skip) (segm_RecvBuf_Insert.RV R) [([(0, [1, 1, 1, 0, 1, 0, 0, 0, 1]), (0, [1, 1, 1, 0, 1, 0, 0, 1]), (2, [1, 1, 1, 0, 1, 0, 0]), (1, [0]), (0, [1, 1, 1, 1])], fun σ w => dP (slotOf σ 0) fun b_ => dL (slotOf σ 2) fun p_b_ p_l_ p_c_ => dI .i64 (slotOf σ 7) fun d0_ => dI .i64 (slotOf σ 8) fun w0_ => dI .i64 (slotOf σ 9) fun i_ => dB (slotOf σ 30) fun t30_ => sB1 b_ p_b_ p_l_ p_c_ d0_ w0_ i_ t30_ w)] 2000) [(0, [1, 1, 1, 0, 1, 0, 0]), (2, [1, 1, 1, 0, 1, 0, 0]), (1, [0]), (0, [1, 1, 1, 1])] [(0, .pointer b), (2, .slice p_b p_l p_c), (7, .int .i64 d0), (8, .int .i64 w0), (9, .int .i64 i)] w := by kernel_rfl
theorem segm_RecvBuf_Insert.L1b_sound {R : Int → World → Prop} {N1 : Option Addr → Option Addr → Nat → Nat → Int → Int → Int → World → Prop} (hN1 : ∀ b p_b p_l p_c d0 w0 i w, N1 b p_b p_l p_c d0 w0 i w → KW Try.prog 81 134 (segm_RecvBuf_Insert.RV R) ([(0, [1, 1, 1, 0, 1, 0, 0]), (2, [1, 1, 1, 0, 1, 0, 0]), (1, [0]), (0, [1, 1, 1, 1])].map (toItem (Try.f81.body.getD .skip))) [(0, .pointer b), (2, .slice p_b p_l p_c), (7, .int .i64 d0), (8, .int .i64 w0), (9, .int .i64 i)] w) (b p_b : Option Addr) (p_l p_c : Nat) (d0 w0 i : Int) (w : World) (h : segm_RecvBuf_Insert.L1b b p_b p_l p_c d0 w0 i w  N1 R) :
    KW Try.prog 81 134 (segm_RecvBuf_Insert.RV R) ([(0, [1, 1, 1, 0, 1, 0, 0]), (2, [1, 1, 1, 0, 1, 0, 0]), (1, [0]), (0, [1, 1, 1, 1])].map (toItem (Try.f81.body.getD .skip))) [(0, .pointer b), (2, .slice p_b p_l p_c), (7, .int .i64 d0), (8, .int .i64 w0), (9, .int .i64 i)] w := by
  exact block_spec Try.func81 Try.mixed (stops_cons (fun σ w h => by
      obtain ⟨b_, e0, h⟩ := dP_elim h
      obtain ⟨p_b_, p_l_, p_c_, e1, h⟩ := dL_elim h
      obtain ⟨d0_, e2, h⟩ := dI_elim h
      obtain ⟨w0_, e3, h⟩ := dI_elim h
      obtain ⟨i_, e4, h⟩ := dI_elim h
      obtain ⟨t30_, e5, h⟩ := dB_elim h
      exact (segm_RecvBuf_Insert.B1_sound hN1 b_ p_b_ p_l_ p_c_ d0_ w0_ i_ t30_ w h).weaken (Sub.cons (Sub.cons (Sub.cons (Sub.cons (Sub.cons (Sub.cons (Sub.nil _) e5) e4) e3) e2) e1) e0)) stops_nil) (Eq.mp (segm_RecvBuf_Insert.L1b_eq b p_b p_l p_c d0 w0 i w  N1 R (fun b_ p_b_ p_l_ p_c_ d0_ w0_ i_ t30_ w => segm_RecvBuf_Insert.B1 b_ p_b_ p_l_ p_c_ d0_ w0_ i_ t30_ w N1 R)) h)
def segm_RecvBuf_Insert.L1 (b p_b : Option Addr) (p_l p_c : Nat) (d0 w0 i : Int) (w : World)  (R : Int → World → Prop) : Prop :=
  ∃ (I : Nat → Option Addr → Option Addr → Nat → Nat → Int → Int → Int → World → Prop) (m : Nat), I m b p_b p_l p_c d0 w0 i w ∧ ∀ m b p_b p_l p_c d0 w0 i w, I m b p_b p_l p_c d0 w0 i w → segm_RecvBuf_Insert.L1b b p_b p_l p_c d0 w0 i w  (fun b' p_b' p_l' p_c' d0' w0' i' w' => ∃ m', m' < m ∧ I m' b' p_b' p_l' p_c' d0' w0' i' w') R
theorem segm_RecvBuf_Insert.L1_sound {R : Int → World → Prop}  (b p_b : Option Addr) (p_l p_c : Nat) (d0 w0 i : Int) (w : World) (h : segm_RecvBuf_Insert.L1 b p_b p_l p_c d0 w0 i w  R) :
    KW Try.prog 81 134 (segm_RecvBuf_Insert.RV R) ([(0, [1, 1, 1, 0, 1, 0, 0]), (2, [1, 1, 1, 0, 1, 0, 0]), (1, [0]), (0, [1, 1, 1, 1])].map (toItem (Try.f81.body.getD .skip))) [(0, .pointer b), (2, .slice p_b p_l p_c), (7, .int .i64 d0), (8, .int .i64 w0), (9, .int .i64 i)] w := by
  obtain ⟨I, m, hBase, hr⟩ := h
  refine KW.loop (fun m σ w => ∃ (b p_b : Option Addr) (p_l p_c : Nat) (d0 w0 i : Int), σ = [(0, .pointer b), (2, .slice p_b p_l p_c), (7, .int .i64 d0), (8, .int .i64 w0), (9, .int .i64 i)] ∧ I m b p_b p_l p_c d0 w0 i w) ?_ m _ w ⟨b, p_b, p_l, p_c, d0, w0, i, rfl, hBase⟩
  rintro m ih σ w ⟨b, p_b, p_l, p_c, d0, w0, i, rfl, hI⟩
  exact segm_RecvBuf_Insert.L1b_sound  (N1 := fun b' p_b' p_l' p_c' d0' w0' i' w' => ∃ m', m' < m ∧ I m' b' p_b' p_l' p_c' d0' w0' i' w') (fun b' p_b' p_l' p_c' d0' w0' i' w' hx => by obtain ⟨m', hlt, hI'⟩ := hx; exact ih m' hlt _ w' ⟨b', p_b', p_l', p_c', d0', w0', i', rfl, hI'⟩) b p_b p_l p_c d0 w0 i w (hr m b p_b p_l p_c d0 w0 i w hI)
def segm_RecvBuf_Insert.B0 (b : Option Addr) (seq : Int) (p_b : Option Addr) (p_l p_c : Nat) (w : World)   (R : Int → World → Prop) : Prop :=
  Pn b fun a =>
  LdI .i64 a w fun x16 =>
  api_SeqDiff.Call seq x16 w fun r17 w1 =>
  segm_RecvBuf_Window.Call b w1 fun r19 w2 =>
  segm_RecvBuf_Insert.L1 b p_b p_l p_c r17 r19 (0 : Int) w2  R
theorem segm_RecvBuf_Insert.B0_eq (b : Option Addr) (seq : Int) (p_b : Option Addr) (p_l p_c : Nat) (w : World)   (R : Int → World → Prop) (sL1 : Option Addr → Option Addr → Nat → Nat → Int → Int → Int → World → Prop) :
    (
  Pn b fun a =>
  LdI .i64 a w fun x16 =>
  api_SeqDiff.Call seq x16 w fun r17 w1 =>
  segm_RecvBuf_Window.Call b w1 fun r19 w2 =>
  sL1 b p_b p_l p_c r17 r19 (0 : Int) w2) = kstep Try.prog 134 Try.f81.results.toList (Try.f81.body.getD .skip) (segm_RecvBuf_Insert.RV R) (kvc Try.prog 134 Try.f81.results.toList (Try.f81.body.getD .skip) (segm_RecvBuf_Insert.RV R) [([(0, [1, 1, 1, 0, 1, 0, 0]), (2, [1, 1, 1, 0, 1, 0, 0]), (1, [0]), (0, [1, 1, 1, 1])], fun σ w => dP (slotOf σ 0) fun b_ => dL (slotOf σ 2) fun p_b_ p_l_ p_c_ => dI .i64 (slotOf σ 7) fun d0_ => dI .i64 (slotOf σ 8) fun w0_ => dI .i64 (slotOf σ 9) fun i_ => sL1 b_ p_b_ p_l_ p_c_ d0_ w0_ i_ w)] 2000) [(0, [])] [(0, .pointer b), (1, .int .i64 seq), (2, .slice p_b p_l p_c)] w := by kernel_rfl
theorem segm_RecvBuf_Insert.B0_sound {R : Int → World → Prop}  (b : Option Addr) (seq : Int) (p_b : Option Addr) (p_l p_c : Nat) (w : World) (h : segm_RecvBuf_Insert.B0 b seq p_b p_l p_c w   R) :
    KW Try.prog 81 134 (segm_RecvBuf_Insert.RV R) ([(0, [])].map (toItem (Try.f81.body.getD .skip))) [(0, .pointer b), (1, .int .i64 seq), (2, .slice p_b p_l p_c)] w := by
  exact block_spec Try.func81 Try.mixed (stops_cons (fun σ w h => by
      obtain ⟨b_, e0, h⟩ := dP_elim h
      obtain ⟨p_b_, p_l_, p_c_, e1, h⟩ := dL_elim h
      obtain ⟨d0_, e2, h⟩ := dI_elim h
      obtain ⟨w0_, e3, h⟩ := dI_elim h
      obtain ⟨i_, e4, h⟩ := dI_elim h
      exact (segm_RecvBuf_Insert.L1_sound  b_ p_b_ p_l_ p_c_ d0_ w0_ i_ w h).weaken (Sub.cons (Sub.cons (Sub.cons (Sub.cons (Sub.cons (Sub.nil _) e4) e3) e2) e1) e0)) stops_nil) (Eq.mp (segm_RecvBuf_Insert.B0_eq b seq p_b p_l p_c w   R (fun b_ p_b_ p_l_ p_c_ d0_ w0_ i_ w => segm_RecvBuf_Insert.L1 b_ p_b_ p_l_ p_c_ d0_ w0_ i_ w  R)) h)
theorem segm_RecvBuf_Insert.sound (b : Option Addr) (seq : Int) (p_b : Option Addr) (p_l p_c : Nat) (w : World) (R : Int → World → Prop) (h : segm_RecvBuf_Insert.B0 b seq p_b p_l p_c w R) : segm_RecvBuf_Insert.Call b seq p_b p_l p_c w R := by
  have hc := calls_of_block (args := #[.pointer b, .int .i64 seq, .slice p_b p_l p_c]) Try.func81 (body := (Try.f81.body.getD .skip)) (by kernel_rfl) (by kernel_rfl) (args_slot _) (segm_RecvBuf_Insert.B0_sound b seq p_b p_l p_c w h)
  exact hc.mono fun e w' he => by
    obtain ⟨v, rfl, hv⟩ := he
    exact segm_RecvBuf_Insert.RV_elim hv
end Go.Proofs.Qxb6500426a
