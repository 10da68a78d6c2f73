import Derived.Test.Qxb6500426aSig
set_option maxRecDepth 100000
set_option linter.unusedVariables false
open Go.Vc
namespace Go.Proofs.Qxb6500426a
def seg_SendBuf_Again.B0 (b : Option Addr) (max : Int) (w : World)   (R : Int → Option Addr → Nat → Nat → World → Prop) : Prop :=
  Pn b fun a =>
  LdI .i64 (a.add 18) w fun x12 =>
  seg_least.Call max x12 w fun r13 w1 =>
  seg_SendBuf_span.Call b (0 : Int) r13 w1 fun r16_b r16_l r16_c w2 =>
  Pn b fun a_1 =>
  LdI .u8 (a_1.add 19) w2 fun x20 =>
  R (IntKind.i64.wrap x20) r16_b r16_l r16_c w2
theorem seg_SendBuf_Again.B0_eq (b : Option Addr) (max : Int) (w : World)   (R : Int → Option Addr → Nat → Nat → World → Prop)  :
    (
  Pn b fun a =>
  LdI .i64 (a.add 18) w fun x12 =>
  seg_least.Call max x12 w fun r13 w1 =>
  seg_SendBuf_span.Call b (0 : Int) r13 w1 fun r16_b r16_l r16_c w2 =>
  Pn b fun a_1 =>
  LdI .u8 (a_1.add 19) w2 fun x20 =>
  R (IntKind.i64.wrap x20) r16_b r16_l r16_c w2) = kstep Try.prog 23 Try.f49.results.toList (Try.f49.body.getD .skip) (seg_SendBuf_Again.RV R) (kvc Try.prog 23 Try.f49.results.toList (Try.f49.body.getD .skip) (seg_SendBuf_Again.RV R) [] 2000) [(0, [])] [(0, .pointer b), (1, .int .i64 max)] w := by kernel_rfl
theorem seg_SendBuf_Again.B0_sound {R : Int → Option Addr → Nat → Nat → World → Prop}  (b : Option Addr) (max : Int) (w : World) (h : seg_SendBuf_Again.B0 b max w   R) :
    KW Try.prog 49 23 (seg_SendBuf_Again.RV R) ([(0, [])].map (toItem (Try.f49.body.getD .skip))) [(0, .pointer b), (1, .int .i64 max)] w := by
  exact block_spec Try.func49 Try.mixed stops_nil (Eq.mp (seg_SendBuf_Again.B0_eq b max w   R ) h)
theorem seg_SendBuf_Again.sound (b : Option Addr) (max : Int) (w : World) (R : Int → Option Addr → Nat → Nat → World → Prop) (h : seg_SendBuf_Again.B0 b max w R) : seg_SendBuf_Again.Call b max w R := by
  have hc := calls_of_block (args := #[.pointer b, .int .i64 max]) Try.func49 (body := (Try.f49.body.getD .skip)) (by kernel_rfl) (by kernel_rfl) (args_slot _) (seg_SendBuf_Again.B0_sound b max w h)
  exact hc.mono fun e w' he => by
    obtain ⟨v, rfl, hv⟩ := he
    exact seg_SendBuf_Again.RV_elim hv
def segm_SendBuf_Again.B2 (b : Option Addr) (n : Int) (w : World)   (R : Int → Option Addr → Nat → Nat → World → Prop) : Prop :=
  Pn b fun a =>
  LdI .i64 a w.drew fun x20 =>
  Pn b fun a_1 =>
  LdL (a_1.add 1) w.drew fun x24_b x24_l x24_c =>
  (0 ≤ n ∧ n ≤ ((x24_c : Nat) : Int)) ∧
  api_CopyBytes.Call (slBase x24_b ((0 : Nat) : Int) ((x24_c : Nat) : Int) 1) (n.toNat - ((0 : Nat) : Int).toNat) (((x24_c : Nat) : Int).toNat - ((0 : Nat) : Int).toNat) w.drew fun r27_b r27_l r27_c w1 =>
  w1.cell? a = some (.int .i64 x20) ∧
  R x20 r27_b r27_l r27_c w1
theorem segm_SendBuf_Again.B2_eq (b : Option Addr) (n : Int) (w : World)   (R : Int → Option Addr → Nat → Nat → World → Prop)  :
    (
  Pn b fun a =>
  LdI .i64 a w.drew fun x20 =>
  Pn b fun a_1 =>
  LdL (a_1.add 1) w.drew fun x24_b x24_l x24_c =>
  (0 ≤ n ∧ n ≤ ((x24_c : Nat) : Int)) ∧
  api_CopyBytes.Call (slBase x24_b ((0 : Nat) : Int) ((x24_c : Nat) : Int) 1) (n.toNat - ((0 : Nat) : Int).toNat) (((x24_c : Nat) : Int).toNat - ((0 : Nat) : Int).toNat) w.drew fun r27_b r27_l r27_c w1 =>
  w1.cell? a = some (.int .i64 x20) ∧
  R x20 r27_b r27_l r27_c w1) = kstep Try.prog 28 Try.f50.results.toList (Try.f50.body.getD .skip) (segm_SendBuf_Again.RV R) (kvc Try.prog 28 Try.f50.results.toList (Try.f50.body.getD .skip) (segm_SendBuf_Again.RV R) [] 2000) [(0, [1, 1, 1, 1])] [(0, .pointer b), (6, .int .i64 n)] w := by kernel_rfl
theorem segm_SendBuf_Again.B2_sound {R : Int → Option Addr → Nat → Nat → World → Prop}  (b : Option Addr) (n : Int) (w : World) (h : segm_SendBuf_Again.B2 b n w   R) :
    KW Try.prog 50 28 (segm_SendBuf_Again.RV R) ([(0, [1, 1, 1, 1])].map (toItem (Try.f50.body.getD .skip))) [(0, .pointer b), (6, .int .i64 n)] w := by
  exact block_spec Try.func50 Try.mixed stops_nil (Eq.mp (segm_SendBuf_Again.B2_eq b n w   R ) h)
def segm_SendBuf_Again.B1 (b : Option Addr) (n : Int) (w : World)   (R : Int → Option Addr → Nat → Nat → World → Prop) : Prop :=
  Bm (decide (n < (0 : Int))) (
    segm_SendBuf_Again.B2 b (0 : Int) w  R) (
    segm_SendBuf_Again.B2 b n w  R)
theorem segm_SendBuf_Again.B1_eq (b : Option Addr) (n : Int) (w : World)   (R : Int → Option Addr → Nat → Nat → World → Prop) (sB2 : Option Addr → Int → World → Prop) :
    (
  Bm (decide (n < (0 : Int))) (
    sB2 b (0 : Int) w) (
    sB2 b n w)) = kstep Try.prog 28 Try.f50.results.toList (Try.f50.body.getD .skip) (segm_SendBuf_Again.RV R) (kvc Try.prog 28 Try.f50.results.toList (Try.f50.body.getD .skip) (segm_SendBuf_Again.RV R) [([(0, [1, 1, 1, 1])], fun σ w => dP (slotOf σ 0) fun b_ => dI .i64 (slotOf σ 6) fun n_ => sB2 b_ n_ w)] 2000) [(0, [1, 1, 1])] [(0, .pointer b), (6, .int .i64 n)] w := by kernel_rfl
theorem segm_SendBuf_Again.B1_sound {R : Int → Option Addr → Nat → Nat → World → Prop}  (b : Option Addr) (n : Int) (w : World) (h : segm_SendBuf_Again.B1 b n w   R) :
    KW Try.prog 50 28 (segm_SendBuf_Again.RV R) ([(0, [1, 1, 1])].map (toItem (Try.f50.body.getD .skip))) [(0, .pointer b), (6, .int .i64 n)] w := by
  exact block_spec Try.func50 Try.mixed (stops_cons (fun σ w h => by
      obtain ⟨b_, e0, h⟩ := dP_elim h
      obtain ⟨n_, e1, h⟩ := dI_elim h
      exact (segm_SendBuf_Again.B2_sound  b_ n_ w h).weaken (Sub.cons (Sub.cons (Sub.nil _) e1) e0)) stops_nil) (Eq.mp (segm_SendBuf_Again.B1_eq b n w   R (fun b_ n_ w => segm_SendBuf_Again.B2 b_ n_ w  R)) h)
def segm_SendBuf_Again.B0 (b : Option Addr) (max : Int) (w : World)   (R : Int → Option Addr → Nat → Nat → World → Prop) : Prop :=
  Pn b fun a =>
  LdI .i64 (a.add 2) w fun x10 =>
  Bm (decide (x10 > max)) (
    segm_SendBuf_Again.B1 b max w  R) (
    segm_SendBuf_Again.B1 b x10 w  R)
theorem segm_SendBuf_Again.B0_eq (b : Option Addr) (max : Int) (w : World)   (R : Int → Option Addr → Nat → Nat → World → Prop) (sB1 : Option Addr → Int → World → Prop) :
    (
  Pn b fun a =>
  LdI .i64 (a.add 2) w fun x10 =>
  Bm (decide (x10 > max)) (
    sB1 b max w) (
    sB1 b x10 w)) = kstep Try.prog 28 Try.f50.results.toList (Try.f50.body.getD .skip) (segm_SendBuf_Again.RV R) (kvc Try.prog 28 Try.f50.results.toList (Try.f50.body.getD .skip) (segm_SendBuf_Again.RV R) [([(0, [1, 1, 1])], fun σ w => dP (slotOf σ 0) fun b_ => dI .i64 (slotOf σ 6) fun n_ => sB1 b_ n_ w)] 2000) [(0, [])] [(0, .pointer b), (1, .int .i64 max)] w := by kernel_rfl
theorem segm_SendBuf_Again.B0_sound {R : Int → Option Addr → Nat → Nat → World → Prop}  (b : Option Addr) (max : Int) (w : World) (h : segm_SendBuf_Again.B0 b max w   R) :
    KW Try.prog 50 28 (segm_SendBuf_Again.RV R) ([(0, [])].map (toItem (Try.f50.body.getD .skip))) [(0, .pointer b), (1, .int .i64 max)] w := by
  exact block_spec Try.func50 Try.mixed (stops_cons (fun σ w h => by
      obtain ⟨b_, e0, h⟩ := dP_elim h
      obtain ⟨n_, e1, h⟩ := dI_elim h
      exact (segm_SendBuf_Again.B1_sound  b_ n_ w h).weaken (Sub.cons (Sub.cons (Sub.nil _) e1) e0)) stops_nil) (Eq.mp (segm_SendBuf_Again.B0_eq b max w   R (fun b_ n_ w => segm_SendBuf_Again.B1 b_ n_ w  R)) h)
theorem segm_SendBuf_Again.sound (b : Option Addr) (max : Int) (w : World) (R : Int → Option Addr → Nat → Nat → World → Prop) (h : segm_SendBuf_Again.B0 b max w R) : segm_SendBuf_Again.Call b max w R := by
  have hc := calls_of_block (args := #[.pointer b, .int .i64 max]) Try.func50 (body := (Try.f50.body.getD .skip)) (by kernel_rfl) (by kernel_rfl) (args_slot _) (segm_SendBuf_Again.B0_sound b max w h)
  exact hc.mono fun e w' he => by
    obtain ⟨v, rfl, hv⟩ := he
    exact segm_SendBuf_Again.RV_elim hv
def seg_Encode.B5 (raw_b : Option Addr) (raw_l raw_c x : Nat) (w : World)   (R : Option Addr → Nat → Nat → Int → World → Prop) : Prop :=
  LdI .u8 ⟨x, 0, none⟩ w fun x131 =>
  Pn raw_b fun a =>
  (0 ≤ (6 : Int) ∧ (6 : Int) < ((raw_l : Nat) : Int)) ∧
  Sts [.int .u8 x131] (a.add 6) 0 w fun w1 =>
  LdI .u8 ⟨x, 1, none⟩ w1 fun x135 =>
  Pn raw_b fun a_1 =>
  (0 ≤ (7 : Int) ∧ (7 : Int) < ((raw_l : Nat) : Int)) ∧
  Sts [.int .u8 x135] (a_1.add 7) 0 w1 fun w2 =>
  R raw_b raw_l raw_c (0 : Int) w2
theorem seg_Encode.B5_eq (raw_b : Option Addr) (raw_l raw_c x : Nat) (w : World)   (R : Option Addr → Nat → Nat → Int → World → Prop)  :
    (
  LdI .u8 ⟨x, 0, none⟩ w fun x131 =>
  Pn raw_b fun a =>
  (0 ≤ (6 : Int) ∧ (6 : Int) < ((raw_l : Nat) : Int)) ∧
  Sts [.int .u8 x131] (a.add 6) 0 w fun w1 =>
  LdI .u8 ⟨x, 1, none⟩ w1 fun x135 =>
  Pn raw_b fun a_1 =>
  (0 ≤ (7 : Int) ∧ (7 : Int) < ((raw_l : Nat) : Int)) ∧
  Sts [.int .u8 x135] (a_1.add 7) 0 w1 fun w2 =>
  R raw_b raw_l raw_c (0 : Int) w2) = kstep Try.prog 138 Try.f51.results.toList (Try.f51.body.getD .skip) (seg_Encode.RV R) (kvc Try.prog 138 Try.f51.results.toList (Try.f51.body.getD .skip) (seg_Encode.RV R) [] 2000) [(0, [1, 1, 1, 1, 1, 1, 1, 1, 1, 1, 1, 1, 1, 1, 1])] [(8, .slice raw_b raw_l raw_c), (9, .pointer (some ⟨x, 0, none⟩))] w := by kernel_rfl
theorem seg_Encode.B5_sound {R : Option Addr → Nat → Nat → Int → World → Prop}  (raw_b : Option Addr) (raw_l raw_c x : Nat) (w : World) (h : seg_Encode.B5 raw_b raw_l raw_c x w   R) :
    KW Try.prog 51 138 (seg_Encode.RV R) ([(0, [1, 1, 1, 1, 1, 1, 1, 1, 1, 1, 1, 1, 1, 1, 1])].map (toItem (Try.f51.body.getD .skip))) [(8, .slice raw_b raw_l raw_c), (9, .pointer (some ⟨x, 0, none⟩))] w := by
  exact block_spec Try.func51 Try.mixed stops_nil (Eq.mp (seg_Encode.B5_eq raw_b raw_l raw_c x w   R ) h)
def seg_Encode.B4 (src dst : Int) (s : Nat) (t77 : Bool) (w : World)   (R : Option Addr → Nat → Nat → Int → World → Prop) : Prop :=
  Bm t77 (
    R none 0 0 (24 : Int) w) (
    LdL ⟨s, 6, none⟩ w fun x79_b x79_l x79_c =>
    Bm (decide (((x79_l : Nat) : Int) > (12 : Int))) (
      R none 0 0 (2 : Int) w) (
      LdL ⟨s, 6, none⟩ w fun x83_b x83_l x83_c =>
      Make 5 (.int .u8 (0 : Int)) 1 1 (IntKind.i64.wrap ((8 : Int) + ((x83_l : Nat) : Int))) (IntKind.i64.wrap ((8 : Int) + ((x83_l : Nat) : Int))) w fun b86 w1 =>
      LdI .i64 ⟨s, 0, none⟩ w1 fun x89 =>
      (0 ≤ (0 : Int) ∧ (0 : Int) < (((IntKind.i64.wrap ((8 : Int) + ((x83_l : Nat) : Int))).toNat : Nat) : Int)) ∧
      Sts [.int .u8 (IntKind.u8.wrap x89)] ⟨b86, 0, none⟩ 0 w1 fun w2 =>
      LdI .i64 ⟨s, 1, none⟩ w2 fun x94 =>
      (0 ≤ (1 : Int) ∧ (1 : Int) < (((IntKind.i64.wrap ((8 : Int) + ((x83_l : Nat) : Int))).toNat : Nat) : Int)) ∧
      Sts [.int .u8 (IntKind.u8.wrap x94)] ⟨b86, 1, none⟩ 0 w2 fun w3 =>
      LdI .i64 ⟨s, 2, none⟩ w3 fun x99 =>
      (0 ≤ (2 : Int) ∧ (2 : Int) < (((IntKind.i64.wrap ((8 : Int) + ((x83_l : Nat) : Int))).toNat : Nat) : Int)) ∧
      Sts [.int .u8 (IntKind.u8.wrap x99)] ⟨b86, 2, none⟩ 0 w3 fun w4 =>
      LdI .i64 ⟨s, 3, none⟩ w4 fun x104 =>
      (0 ≤ (3 : Int) ∧ (3 : Int) < (((IntKind.i64.wrap ((8 : Int) + ((x83_l : Nat) : Int))).toNat : Nat) : Int)) ∧
      Sts [.int .u8 (IntKind.u8.wrap x104)] ⟨b86, 3, none⟩ 0 w4 fun w5 =>
      LdI .i64 ⟨s, 4, none⟩ w5 fun x109 =>
      (0 ≤ (4 : Int) ∧ (4 : Int) < (((IntKind.i64.wrap ((8 : Int) + ((x83_l : Nat) : Int))).toNat : Nat) : Int)) ∧
      Sts [.int .u8 (IntKind.u8.wrap x109)] ⟨b86, 4, none⟩ 0 w5 fun w6 =>
      LdI .i64 ⟨s, 5, none⟩ w6 fun x114 =>
      (0 ≤ (5 : Int) ∧ (5 : Int) < (((IntKind.i64.wrap ((8 : Int) + ((x83_l : Nat) : Int))).toNat : Nat) : Int)) ∧
      Sts [.int .u8 (IntKind.u8.wrap x114)] ⟨b86, 5, none⟩ 0 w6 fun w7 =>
      (0 ≤ (8 : Int) ∧ (8 : Int) ≤ (((IntKind.i64.wrap ((8 : Int) + ((x83_l : Nat) : Int))).toNat : Nat) : Int)) ∧
      LdL ⟨s, 6, none⟩ w7.drew fun x120_b x120_l x120_c =>
      Copy 1 (slBase (some (⟨b86, 0, none⟩ : Addr)) (8 : Int) (((IntKind.i64.wrap ((8 : Int) + ((x83_l : Nat) : Int))).toNat : Nat) : Int) 1) ((((IntKind.i64.wrap ((8 : Int) + ((x83_l : Nat) : Int))).toNat : Nat) : Int).toNat - (8 : Int).toNat) x120_b x120_l w7.drew fun n121 w8 =>
      (0 ≤ (6 : Int) ∧ (6 : Int) ≤ (((IntKind.i64.wrap ((8 : Int) + ((x83_l : Nat) : Int))).toNat : Nat) : Int)) ∧
      LdL ⟨s, 6, none⟩ w8.drew fun x127_b x127_l x127_c =>
      ((
        seg_over.Call src dst (slBase (some (⟨b86, 0, none⟩ : Addr)) ((0 : Nat) : Int) (((IntKind.i64.wrap ((8 : Int) + ((x83_l : Nat) : Int))).toNat : Nat) : Int) 1) ((6 : Int).toNat - ((0 : Nat) : Int).toNat) ((((IntKind.i64.wrap ((8 : Int) + ((x83_l : Nat) : Int))).toNat : Nat) : Int).toNat - ((0 : Nat) : Int).toNat) x127_b x127_l x127_c w8.drew fun r128_0 r128_1 w9 =>
        New (.cells #[.int .u8 (0 : Int), .int .u8 (0 : Int)] 87) w9 fun b w10 =>
        Sts [.int .u8 r128_0, .int .u8 r128_1] ⟨b, 0, none⟩ 0 w10 fun w11 =>
        seg_Encode.B5 (some ⟨b86, 0, none⟩) ((IntKind.i64.wrap ((8 : Int) + ((x83_l : Nat) : Int))).toNat) ((IntKind.i64.wrap ((8 : Int) + ((x83_l : Nat) : Int))).toNat) b w11  R) ∧ (
        New (.cells #[.int .u8 (0 : Int), .int .u8 (0 : Int)] 87) w8.drew fun b_1 w12 =>
        w12.cell? ⟨s, 6, none⟩ = some (.slice x127_b x127_l x127_c) ∧
        seg_over.Call src dst (slBase (some (⟨b86, 0, none⟩ : Addr)) ((0 : Nat) : Int) (((IntKind.i64.wrap ((8 : Int) + ((x83_l : Nat) : Int))).toNat : Nat) : Int) 1) ((6 : Int).toNat - ((0 : Nat) : Int).toNat) ((((IntKind.i64.wrap ((8 : Int) + ((x83_l : Nat) : Int))).toNat : Nat) : Int).toNat - ((0 : Nat) : Int).toNat) x127_b x127_l x127_c w12 fun r128_0_1 r128_1_1 w13 =>
        Sts [.int .u8 r128_0_1, .int .u8 r128_1_1] ⟨b_1, 0, none⟩ 0 w13 fun w14 =>
        seg_Encode.B5 (some ⟨b86, 0, none⟩) ((IntKind.i64.wrap ((8 : Int) + ((x83_l : Nat) : Int))).toNat) ((IntKind.i64.wrap ((8 : Int) + ((x83_l : Nat) : Int))).toNat) b_1 w14  R))))
theorem seg_Encode.B4_eq (src dst : Int) (s : Nat) (t77 : Bool) (w : World)   (R : Option Addr → Nat → Nat → Int → World → Prop) (sB5 : Option Addr → Nat → Nat → Nat → World → Prop) :
    (
  Bm t77 (
    R none 0 0 (24 : Int) w) (
    LdL ⟨s, 6, none⟩ w fun x79_b x79_l x79_c =>
    Bm (decide (((x79_l : Nat) : Int) > (12 : Int))) (
      R none 0 0 (2 : Int) w) (
      LdL ⟨s, 6, none⟩ w fun x83_b x83_l x83_c =>
      Make 5 (.int .u8 (0 : Int)) 1 1 (IntKind.i64.wrap ((8 : Int) + ((x83_l : Nat) : Int))) (IntKind.i64.wrap ((8 : Int) + ((x83_l : Nat) : Int))) w fun b86 w1 =>
      LdI .i64 ⟨s, 0, none⟩ w1 fun x89 =>
      (0 ≤ (0 : Int) ∧ (0 : Int) < (((IntKind.i64.wrap ((8 : Int) + ((x83_l : Nat) : Int))).toNat : Nat) : Int)) ∧
      Sts [.int .u8 (IntKind.u8.wrap x89)] ⟨b86, 0, none⟩ 0 w1 fun w2 =>
      LdI .i64 ⟨s, 1, none⟩ w2 fun x94 =>
      (0 ≤ (1 : Int) ∧ (1 : Int) < (((IntKind.i64.wrap ((8 : Int) + ((x83_l : Nat) : Int))).toNat : Nat) : Int)) ∧
      Sts [.int .u8 (IntKind.u8.wrap x94)] ⟨b86, 1, none⟩ 0 w2 fun w3 =>
      LdI .i64 ⟨s, 2, none⟩ w3 fun x99 =>
      (0 ≤ (2 : Int) ∧ (2 : Int) < (((IntKind.i64.wrap ((8 : Int) + ((x83_l : Nat) : Int))).toNat : Nat) : Int)) ∧
      Sts [.int .u8 (IntKind.u8.wrap x99)] ⟨b86, 2, none⟩ 0 w3 fun w4 =>
      LdI .i64 ⟨s, 3, none⟩ w4 fun x104 =>
      (0 ≤ (3 : Int) ∧ (3 : Int) < (((IntKind.i64.wrap ((8 : Int) + ((x83_l : Nat) : Int))).toNat : Nat) : Int)) ∧
      Sts [.int .u8 (IntKind.u8.wrap x104)] ⟨b86, 3, none⟩ 0 w4 fun w5 =>
      LdI .i64 ⟨s, 4, none⟩ w5 fun x109 =>
      (0 ≤ (4 : Int) ∧ (4 : Int) < (((IntKind.i64.wrap ((8 : Int) + ((x83_l : Nat) : Int))).toNat : Nat) : Int)) ∧
      Sts [.int .u8 (IntKind.u8.wrap x109)] ⟨b86, 4, none⟩ 0 w5 fun w6 =>
      LdI .i64 ⟨s, 5, none⟩ w6 fun x114 =>
      (0 ≤ (5 : Int) ∧ (5 : Int) < (((IntKind.i64.wrap ((8 : Int) + ((x83_l : Nat) : Int))).toNat : Nat) : Int)) ∧
      Sts [.int .u8 (IntKind.u8.wrap x114)] ⟨b86, 5, none⟩ 0 w6 fun w7 =>
      (0 ≤ (8 : Int) ∧ (8 : Int) ≤ (((IntKind.i64.wrap ((8 : Int) + ((x83_l : Nat) : Int))).toNat : Nat) : Int)) ∧
      LdL ⟨s, 6, none⟩ w7.drew fun x120_b x120_l x120_c =>
      Copy 1 (slBase (some (⟨b86, 0, none⟩ : Addr)) (8 : Int) (((IntKind.i64.wrap ((8 : Int) + ((x83_l : Nat) : Int))).toNat : Nat) : Int) 1) ((((IntKind.i64.wrap ((8 : Int) + ((x83_l : Nat) : Int))).toNat : Nat) : Int).toNat - (8 : Int).toNat) x120_b x120_l w7.drew fun n121 w8 =>
      (0 ≤ (6 : Int) ∧ (6 : Int) ≤ (((IntKind.i64.wrap ((8 : Int) + ((x83_l : Nat) : Int))).toNat : Nat) : Int)) ∧
      LdL ⟨s, 6, none⟩ w8.drew fun x127_b x127_l x127_c =>
      ((
        seg_over.Call src dst (slBase (some (⟨b86, 0, none⟩ : Addr)) ((0 : Nat) : Int) (((IntKind.i64.wrap ((8 : Int) + ((x83_l : Nat) : Int))).toNat : Nat) : Int) 1) ((6 : Int).toNat - ((0 : Nat) : Int).toNat) ((((IntKind.i64.wrap ((8 : Int) + ((x83_l : Nat) : Int))).toNat : Nat) : Int).toNat - ((0 : Nat) : Int).toNat) x127_b x127_l x127_c w8.drew fun r128_0 r128_1 w9 =>
        New (.cells #[.int .u8 (0 : Int), .int .u8 (0 : Int)] 87) w9 fun b w10 =>
        Sts [.int .u8 r128_0, .int .u8 r128_1] ⟨b, 0, none⟩ 0 w10 fun w11 =>
        sB5 (some ⟨b86, 0, none⟩) ((IntKind.i64.wrap ((8 : Int) + ((x83_l : Nat) : Int))).toNat) ((IntKind.i64.wrap ((8 : Int) + ((x83_l : Nat) : Int))).toNat) b w11) ∧ (
        New (.cells #[.int .u8 (0 : Int), .int .u8 (0 : Int)] 87) w8.drew fun b_1 w12 =>
        w12.cell? ⟨s, 6, none⟩ = some (.slice x127_b x127_l x127_c) ∧
        seg_over.Call src dst (slBase (some (⟨b86, 0, none⟩ : Addr)) ((0 : Nat) : Int) (((IntKind.i64.wrap ((8 : Int) + ((x83_l : Nat) : Int))).toNat : Nat) : Int) 1) ((6 : Int).toNat - ((0 : Nat) : Int).toNat) ((((IntKind.i64.wrap ((8 : Int) + ((x83_l : Nat) : Int))).toNat : Nat) : Int).toNat - ((0 : Nat) : Int).toNat) x127_b x127_l x127_c w12 fun r128_0_1 r128_1_1 w13 =>
        Sts [.int .u8 r128_0_1, .int .u8 r128_1_1] ⟨b_1, 0, none⟩ 0 w13 fun w14 =>
        sB5 (some ⟨b86, 0, none⟩) ((IntKind.i64.wrap ((8 : Int) + ((x83_l : Nat) : Int))).toNat) ((IntKind.i64.wrap ((8 : Int) + ((x83_l : Nat) : Int))).toNat) b_1 w14))))) = kstep Try.prog 138 Try.f51.results.toList (Try.f51.body.getD .skip) (seg_Encode.RV R) (kvc Try.prog 138 Try.f51.results.toList (Try.f51.body.getD .skip) (seg_Encode.RV R) [([(0, [1, 1, 1, 1, 1, 1, 1, 1, 1, 1, 1, 1, 1, 1, 1])], fun σ w => dL (slotOf σ 8) fun raw_b_ raw_l_ raw_c_ => dK (slotOf σ 9) fun x_ => sB5 raw_b_ raw_l_ raw_c_ x_ w)] 2000) [(0, [1, 1, 1, 1, 0, 1]), (0, [1, 1, 1, 1, 1])] [(0, .int .i64 src), (1, .int .i64 dst), (5, .pointer (some ⟨s, 0, none⟩)), (77, .bool t77)] w := by kernel_rfl
theorem seg_Encode.B4_sound {R : Option Addr → Nat → Nat → Int → World → Prop}  (src dst : Int) (s : Nat) (t77 : Bool) (w : World) (h : seg_Encode.B4 src dst s t77 w   R) :
    KW Try.prog 51 138 (seg_Encode.RV R) ([(0, [1, 1, 1, 1, 0, 1]), (0, [1, 1, 1, 1, 1])].map (toItem (Try.f51.body.getD .skip))) [(0, .int .i64 src), (1, .int .i64 dst), (5, .pointer (some ⟨s, 0, none⟩)), (77, .bool t77)] w := by
  exact block_spec Try.func51 Try.mixed (stops_cons (fun σ w h => by
      obtain ⟨raw_b_, raw_l_, raw_c_, e0, h⟩ := dL_elim h
      obtain ⟨x_, e1, h⟩ := dK_elim h
      exact (seg_Encode.B5_sound  raw_b_ raw_l_ raw_c_ x_ w h).weaken (Sub.cons (Sub.cons (Sub.nil _) e1) e0)) stops_nil) (Eq.mp (seg_Encode.B4_eq src dst s t77 w   R (fun raw_b_ raw_l_ raw_c_ x_ w => seg_Encode.B5 raw_b_ raw_l_ raw_c_ x_ w  R)) h)
def seg_Encode.B3 (src dst : Int) (s : Nat) (t59 : Bool) (w : World)   (R : Option Addr → Nat → Nat → Int → World → Prop) : Prop :=
  Bm t59 (
    R none 0 0 (24 : Int) w) (
    LdI .i64 ⟨s, 5, none⟩ w fun x61 =>
    Bm (decide (x61 < (0 : Int))) (
      seg_Encode.B4 src dst s true w  R) (
      LdI .i64 ⟨s, 5, none⟩ w fun x65 =>
      Bm (decide (x65 > (255 : Int))) (
        seg_Encode.B4 src dst s true w  R) (
        LdI .i64 ⟨s, 4, none⟩ w fun x70 =>
        Bm (decide (x70 < (0 : Int))) (
          seg_Encode.B4 src dst s true w  R) (
          LdI .i64 ⟨s, 4, none⟩ w fun x75 =>
          seg_Encode.B4 src dst s (decide (x75 > (15 : Int))) w  R))))
theorem seg_Encode.B3_eq (src dst : Int) (s : Nat) (t59 : Bool) (w : World)   (R : Option Addr → Nat → Nat → Int → World → Prop) (sB4 : Int → Int → Nat → Bool → World → Prop) :
    (
  Bm t59 (
    R none 0 0 (24 : Int) w) (
    LdI .i64 ⟨s, 5, none⟩ w fun x61 =>
    Bm (decide (x61 < (0 : Int))) (
      sB4 src dst s true w) (
      LdI .i64 ⟨s, 5, none⟩ w fun x65 =>
      Bm (decide (x65 > (255 : Int))) (
        sB4 src dst s true w) (
        LdI .i64 ⟨s, 4, none⟩ w fun x70 =>
        Bm (decide (x70 < (0 : Int))) (
          sB4 src dst s true w) (
          LdI .i64 ⟨s, 4, none⟩ w fun x75 =>
          sB4 src dst s (decide (x75 > (15 : Int))) w))))) = kstep Try.prog 138 Try.f51.results.toList (Try.f51.body.getD .skip) (seg_Encode.RV R) (kvc Try.prog 138 Try.f51.results.toList (Try.f51.body.getD .skip) (seg_Encode.RV R) [([(0, [1, 1, 1, 1, 0, 1]), (0, [1, 1, 1, 1, 1])], fun σ w => dI .i64 (slotOf σ 0) fun src_ => dI .i64 (slotOf σ 1) fun dst_ => dK (slotOf σ 5) fun s_ => dB (slotOf σ 77) fun t77_ => sB4 src_ dst_ s_ t77_ w)] 2000) [(0, [1, 1, 1, 0, 1]), (0, [1, 1, 1, 1])] [(0, .int .i64 src), (1, .int .i64 dst), (5, .pointer (some ⟨s, 0, none⟩)), (59, .bool t59)] w := by kernel_rfl
theorem seg_Encode.B3_sound {R : Option Addr → Nat → Nat → Int → World → Prop}  (src dst : Int) (s : Nat) (t59 : Bool) (w : World) (h : seg_Encode.B3 src dst s t59 w   R) :
    KW Try.prog 51 138 (seg_Encode.RV R) ([(0, [1, 1, 1, 0, 1]), (0, [1, 1, 1, 1])].map (toItem (Try.f51.body.getD .skip))) [(0, .int .i64 src), (1, .int .i64 dst), (5, .pointer (some ⟨s, 0, none⟩)), (59, .bool t59)] w := by
  exact block_spec Try.func51 Try.mixed (stops_cons (fun σ w h => by
      obtain ⟨src_, e0, h⟩ := dI_elim h
      obtain ⟨dst_, e1, h⟩ := dI_elim h
      obtain ⟨s_, e2, h⟩ := dK_elim h
      obtain ⟨t77_, e3, h⟩ := dB_elim h
      exact (seg_Encode.B4_sound  src_ dst_ s_ t77_ w h).weaken (Sub.cons (Sub.cons (Sub.cons (Sub.cons (Sub.nil _) e3) e2) e1) e0)) stops_nil) (Eq.mp (seg_Encode.B3_eq src dst s t59 w   R (fun src_ dst_ s_ t77_ w => seg_Encode.B4 src_ dst_ s_ t77_ w  R)) h)
def seg_Encode.B2 (src dst : Int) (s : Nat) (t41 : Bool) (w : World)   (R : Option Addr → Nat → Nat → Int → World → Prop) : Prop :=
  Bm t41 (
    R none 0 0 (22 : Int) w) (
    LdI .i64 ⟨s, 2, none⟩ w fun x43 =>
    Bm (decide (x43 < (0 : Int))) (
      seg_Encode.B3 src dst s true w  R) (
      LdI .i64 ⟨s, 2, none⟩ w fun x47 =>
      Bm (decide (x47 > (255 : Int))) (
        seg_Encode.B3 src dst s true w  R) (
        LdI .i64 ⟨s, 3, none⟩ w fun x52 =>
        Bm (decide (x52 < (0 : Int))) (
          seg_Encode.B3 src dst s true w  R) (
          LdI .i64 ⟨s, 3, none⟩ w fun x57 =>
          seg_Encode.B3 src dst s (decide (x57 > (255 : Int))) w  R))))
theorem seg_Encode.B2_eq (src dst : Int) (s : Nat) (t41 : Bool) (w : World)   (R : Option Addr → Nat → Nat → Int → World → Prop) (sB3 : Int → Int → Nat → Bool → World → Prop) :
    (
  Bm t41 (
    R none 0 0 (22 : Int) w) (
    LdI .i64 ⟨s, 2, none⟩ w fun x43 =>
    Bm (decide (x43 < (0 : Int))) (
      sB3 src dst s true w) (
      LdI .i64 ⟨s, 2, none⟩ w fun x47 =>
      Bm (decide (x47 > (255 : Int))) (
        sB3 src dst s true w) (
        LdI .i64 ⟨s, 3, none⟩ w fun x52 =>
        Bm (decide (x52 < (0 : Int))) (
          sB3 src dst s true w) (
          LdI .i64 ⟨s, 3, none⟩ w fun x57 =>
          sB3 src dst s (decide (x57 > (255 : Int))) w))))) = kstep Try.prog 138 Try.f51.results.toList (Try.f51.body.getD .skip) (seg_Encode.RV R) (kvc Try.prog 138 Try.f51.results.toList (Try.f51.body.getD .skip) (seg_Encode.RV R) [([(0, [1, 1, 1, 0, 1]), (0, [1, 1, 1, 1])], fun σ w => dI .i64 (slotOf σ 0) fun src_ => dI .i64 (slotOf σ 1) fun dst_ => dK (slotOf σ 5) fun s_ => dB (slotOf σ 59) fun t59_ => sB3 src_ dst_ s_ t59_ w)] 2000) [(0, [1, 1, 0, 1]), (0, [1, 1, 1])] [(0, .int .i64 src), (1, .int .i64 dst), (5, .pointer (some ⟨s, 0, none⟩)), (41, .bool t41)] w := by kernel_rfl
theorem seg_Encode.B2_sound {R : Option Addr → Nat → Nat → Int → World → Prop}  (src dst : Int) (s : Nat) (t41 : Bool) (w : World) (h : seg_Encode.B2 src dst s t41 w   R) :
    KW Try.prog 51 138 (seg_Encode.RV R) ([(0, [1, 1, 0, 1]), (0, [1, 1, 1])].map (toItem (Try.f51.body.getD .skip))) [(0, .int .i64 src), (1, .int .i64 dst), (5, .pointer (some ⟨s, 0, none⟩)), (41, .bool t41)] w := by
  exact block_spec Try.func51 Try.mixed (stops_cons (fun σ w h => by
      obtain ⟨src_, e0, h⟩ := dI_elim h
      obtain ⟨dst_, e1, h⟩ := dI_elim h
      obtain ⟨s_, e2, h⟩ := dK_elim h
      obtain ⟨t59_, e3, h⟩ := dB_elim h
      exact (seg_Encode.B3_sound  src_ dst_ s_ t59_ w h).weaken (Sub.cons (Sub.cons (Sub.cons (Sub.cons (Sub.nil _) e3) e2) e1) e0)) stops_nil) (Eq.mp (seg_Encode.B2_eq src dst s t41 w   R (fun src_ dst_ s_ t59_ w => seg_Encode.B3 src_ dst_ s_ t59_ w  R)) h)
def seg_Encode.B1 (src dst : Int) (s : Nat) (t23 : Bool) (w : World)   (R : Option Addr → Nat → Nat → Int → World → Prop) : Prop :=
  Bm t23 (
    R none 0 0 (5 : Int) w) (
    LdI .i64 ⟨s, 0, none⟩ w fun x25 =>
    Bm (decide (x25 < (0 : Int))) (
      seg_Encode.B2 src dst s true w  R) (
      LdI .i64 ⟨s, 0, none⟩ w fun x29 =>
      Bm (decide (x29 > (255 : Int))) (
        seg_Encode.B2 src dst s true w  R) (
        LdI .i64 ⟨s, 1, none⟩ w fun x34 =>
        Bm (decide (x34 < (0 : Int))) (
          seg_Encode.B2 src dst s true w  R) (
          LdI .i64 ⟨s, 1, none⟩ w fun x39 =>
          seg_Encode.B2 src dst s (decide (x39 > (255 : Int))) w  R))))
theorem seg_Encode.B1_eq (src dst : Int) (s : Nat) (t23 : Bool) (w : World)   (R : Option Addr → Nat → Nat → Int → World → Prop) (sB2 : Int → Int → Nat → Bool → World → Prop) :
    (
  Bm t23 (
    R none 0 0 (5 : Int) w) (
    LdI .i64 ⟨s, 0, none⟩ w fun x25 =>
    Bm (decide (x25 < (0 : Int))) (
      sB2 src dst s true w) (
      LdI .i64 ⟨s, 0, none⟩ w fun x29 =>
      Bm (decide (x29 > (255 : Int))) (
        sB2 src dst s true w) (
        LdI .i64 ⟨s, 1, none⟩ w fun x34 =>
        Bm (decide (x34 < (0 : Int))) (
          sB2 src dst s true w) (
          LdI .i64 ⟨s, 1, none⟩ w fun x39 =>
          sB2 src dst s (decide (x39 > (255 : Int))) w))))) = kstep Try.prog 138 Try.f51.results.toList (Try.f51.body.getD .skip) (seg_Encode.RV R) (kvc Try.prog 138 Try.f51.results.toList (Try.f51.body.getD .skip) (seg_Encode.RV R) [([(0, [1, 1, 0, 1]), (0, [1, 1, 1])], fun σ w => dI .i64 (slotOf σ 0) fun src_ => dI .i64 (slotOf σ 1) fun dst_ => dK (slotOf σ 5) fun s_ => dB (slotOf σ 41) fun t41_ => sB2 src_ dst_ s_ t41_ w)] 2000) [(0, [1, 0, 1]), (0, [1, 1])] [(0, .int .i64 src), (1, .int .i64 dst), (5, .pointer (some ⟨s, 0, none⟩)), (23, .bool t23)] w := by kernel_rfl
theorem seg_Encode.B1_sound {R : Option Addr → Nat → Nat → Int → World → Prop}  (src dst : Int) (s : Nat) (t23 : Bool) (w : World) (h : seg_Encode.B1 src dst s t23 w   R) :
    KW Try.prog 51 138 (seg_Encode.RV R) ([(0, [1, 0, 1]), (0, [1, 1])].map (toItem (Try.f51.body.getD .skip))) [(0, .int .i64 src), (1, .int .i64 dst), (5, .pointer (some ⟨s, 0, none⟩)), (23, .bool t23)] w := by
  exact block_spec Try.func51 Try.mixed (stops_cons (fun σ w h => by
      obtain ⟨src_, e0, h⟩ := dI_elim h
      obtain ⟨dst_, e1, h⟩ := dI_elim h
      obtain ⟨s_, e2, h⟩ := dK_elim h
      obtain ⟨t41_, e3, h⟩ := dB_elim h
      exact (seg_Encode.B2_sound  src_ dst_ s_ t41_ w h).weaken (Sub.cons (Sub.cons (Sub.cons (Sub.cons (Sub.nil _) e3) e2) e1) e0)) stops_nil) (Eq.mp (seg_Encode.B1_eq src dst s t23 w   R (fun src_ dst_ s_ t41_ w => seg_Encode.B2 src_ dst_ s_ t41_ w  R)) h)
def seg_Encode.B0 (src dst s_0 s_1 s_2 s_3 s_4 s_5 : Int) (s_6_b : Option Addr) (s_6_l s_6_c : Nat) (w : World)   (R : Option Addr → Nat → Nat → Int → World → Prop) : Prop :=
  New (.cells #[.int .i64 s_0, .int .i64 s_1, .int .i64 s_2, .int .i64 s_3, .int .i64 s_4, .int .i64 s_5, .slice s_6_b s_6_l s_6_c] 39) w fun s_ w1 =>
  Bm (decide (src < (0 : Int))) (
    seg_Encode.B1 src dst s_ true w1  R) (
    Bm (decide (src > (255 : Int))) (
      seg_Encode.B1 src dst s_ true w1  R) (
      Bm (decide (dst < (0 : Int))) (
        seg_Encode.B1 src dst s_ true w1  R) (
        seg_Encode.B1 src dst s_ (decide (dst > (255 : Int))) w1  R)))
theorem seg_Encode.B0_eq (src dst s_0 s_1 s_2 s_3 s_4 s_5 : Int) (s_6_b : Option Addr) (s_6_l s_6_c : Nat) (w : World)   (R : Option Addr → Nat → Nat → Int → World → Prop) (sB1 : Int → Int → Nat → Bool → World → Prop) :
    (
  New (.cells #[.int .i64 s_0, .int .i64 s_1, .int .i64 s_2, .int .i64 s_3, .int .i64 s_4, .int .i64 s_5, .slice s_6_b s_6_l s_6_c] 39) w fun s_ w1 =>
  Bm (decide (src < (0 : Int))) (
    sB1 src dst s_ true w1) (
    Bm (decide (src > (255 : Int))) (
      sB1 src dst s_ true w1) (
      Bm (decide (dst < (0 : Int))) (
        sB1 src dst s_ true w1) (
        sB1 src dst s_ (decide (dst > (255 : Int))) w1)))) = kstep Try.prog 138 Try.f51.results.toList (Try.f51.body.getD .skip) (seg_Encode.RV R) (kvc Try.prog 138 Try.f51.results.toList (Try.f51.body.getD .skip) (seg_Encode.RV R) [([(0, [1, 0, 1]), (0, [1, 1])], fun σ w => dI .i64 (slotOf σ 0) fun src_ => dI .i64 (slotOf σ 1) fun dst_ => dK (slotOf σ 5) fun s_ => dB (slotOf σ 23) fun t23_ => sB1 src_ dst_ s_ t23_ w)] 2000) [(0, [])] [(0, .int .i64 src), (1, .int .i64 dst), (2, .agg #[.int .i64 s_0, .int .i64 s_1, .int .i64 s_2, .int .i64 s_3, .int .i64 s_4, .int .i64 s_5, .slice s_6_b s_6_l s_6_c])] w := by kernel_rfl
theorem seg_Encode.B0_sound {R : Option Addr → Nat → Nat → Int → World → Prop}  (src dst s_0 s_1 s_2 s_3 s_4 s_5 : Int) (s_6_b : Option Addr) (s_6_l s_6_c : Nat) (w : World) (h : seg_Encode.B0 src dst s_0 s_1 s_2 s_3 s_4 s_5 s_6_b s_6_l s_6_c w   R) :
    KW Try.prog 51 138 (seg_Encode.RV R) ([(0, [])].map (toItem (Try.f51.body.getD .skip))) [(0, .int .i64 src), (1, .int .i64 dst), (2, .agg #[.int .i64 s_0, .int .i64 s_1, .int .i64 s_2, .int .i64 s_3, .int .i64 s_4, .int .i64 s_5, .slice s_6_b s_6_l s_6_c])] w := by
  exact block_spec Try.func51 Try.mixed (stops_cons (fun σ w h => by
      obtain ⟨src_, e0, h⟩ := dI_elim h
      obtain ⟨dst_, e1, h⟩ := dI_elim h
      obtain ⟨s_, e2, h⟩ := dK_elim h
      obtain ⟨t23_, e3, h⟩ := dB_elim h
      exact (seg_Encode.B1_sound  src_ dst_ s_ t23_ w h).weaken (Sub.cons (Sub.cons (Sub.cons (Sub.cons (Sub.nil _) e3) e2) e1) e0)) stops_nil) (Eq.mp (seg_Encode.B0_eq src dst s_0 s_1 s_2 s_3 s_4 s_5 s_6_b s_6_l s_6_c w   R (fun src_ dst_ s_ t23_ w => seg_Encode.B1 src_ dst_ s_ t23_ w  R)) h)
theorem seg_Encode.sound (src dst s_0 s_1 s_2 s_3 s_4 s_5 : Int) (s_6_b : Option Addr) (s_6_l s_6_c : Nat) (w : World) (R : Option Addr → Nat → Nat → Int → World → Prop) (h : seg_Encode.B0 src dst s_0 s_1 s_2 s_3 s_4 s_5 s_6_b s_6_l s_6_c w R) : seg_Encode.Call src dst s_0 s_1 s_2 s_3 s_4 s_5 s_6_b s_6_l s_6_c w R := by
  have hc := calls_of_block (args := #[.int .i64 src, .int .i64 dst, .agg #[.int .i64 s_0, .int .i64 s_1, .int .i64 s_2, .int .i64 s_3, .int .i64 s_4, .int .i64 s_5, .slice s_6_b s_6_l s_6_c]]) Try.func51 (body := (Try.f51.body.getD .skip)) (by kernel_rfl) (by kernel_rfl) (args_slot _) (seg_Encode.B0_sound src dst s_0 s_1 s_2 s_3 s_4 s_5 s_6_b s_6_l s_6_c w h)
  exact hc.mono fun e w' he => by
    obtain ⟨v, rfl, hv⟩ := he
    exact seg_Encode.RV_elim hv
def segm_Encode.B4 (src dst : Int) (s : Nat) (t78 : Bool) (w : World)   (R : Option Addr → Nat → Nat → Int → World → Prop) : Prop :=
  Bm t78 (
    R none 0 0 (24 : Int) w) (
    LdL ⟨s, 6, none⟩ w fun x80_b x80_l x80_c =>
    Bm (decide (((x80_l : Nat) : Int) > (12 : Int))) (
      R none 0 0 (2 : Int) w) (
      LdI .i64 ⟨s, 0, none⟩ w fun x84 =>
      LdI .i64 ⟨s, 1, none⟩ w fun x87 =>
      LdI .i64 ⟨s, 2, none⟩ w fun x90 =>
      LdI .i64 ⟨s, 3, none⟩ w fun x93 =>
      LdI .i64 ⟨s, 4, none⟩ w fun x96 =>
      LdI .i64 ⟨s, 5, none⟩ w fun x99 =>
      New (.cells #[.int .u8 (IntKind.u8.wrap x84), .int .u8 (IntKind.u8.wrap x87), .int .u8 (IntKind.u8.wrap x90), .int .u8 (IntKind.u8.wrap x93), .int .u8 (IntKind.u8.wrap x96), .int .u8 (IntKind.u8.wrap x99)] 5) w fun b101 w1 =>
      LdL ⟨s, 6, none⟩ w1 fun x107_b x107_l x107_c =>
      segm_sums.Call src dst (some ⟨b101, 0, none⟩) 6 6 x107_b x107_l x107_c w1 fun r108_0 r108_1 w2 =>
      New (.cells #[.int .u8 (IntKind.u8.wrap r108_0), .int .u8 (IntKind.u8.wrap r108_1)] 5) w2 fun b116 w3 =>
      Append 5 (.int .u8 (0 : Int)) 1 1 (some ⟨b101, 0, none⟩) 6 6 (some ⟨b116, 0, none⟩) 2 w3 fun b117 c117 w4 =>
      LdL ⟨s, 6, none⟩ w4 fun x120_b x120_l x120_c =>
      Append 5 (.int .u8 (0 : Int)) 1 1 b117 (6 + 2) c117 x120_b x120_l w4 fun b121 c121 w5 =>
      R b121 ((6 + 2) + x120_l) c121 (0 : Int) w5))
theorem segm_Encode.B4_eq (src dst : Int) (s : Nat) (t78 : Bool) (w : World)   (R : Option Addr → Nat → Nat → Int → World → Prop)  :
    (
  Bm t78 (
    R none 0 0 (24 : Int) w) (
    LdL ⟨s, 6, none⟩ w fun x80_b x80_l x80_c =>
    Bm (decide (((x80_l : Nat) : Int) > (12 : Int))) (
      R none 0 0 (2 : Int) w) (
      LdI .i64 ⟨s, 0, none⟩ w fun x84 =>
      LdI .i64 ⟨s, 1, none⟩ w fun x87 =>
      LdI .i64 ⟨s, 2, none⟩ w fun x90 =>
      LdI .i64 ⟨s, 3, none⟩ w fun x93 =>
      LdI .i64 ⟨s, 4, none⟩ w fun x96 =>
      LdI .i64 ⟨s, 5, none⟩ w fun x99 =>
      New (.cells #[.int .u8 (IntKind.u8.wrap x84), .int .u8 (IntKind.u8.wrap x87), .int .u8 (IntKind.u8.wrap x90), .int .u8 (IntKind.u8.wrap x93), .int .u8 (IntKind.u8.wrap x96), .int .u8 (IntKind.u8.wrap x99)] 5) w fun b101 w1 =>
      LdL ⟨s, 6, none⟩ w1 fun x107_b x107_l x107_c =>
      segm_sums.Call src dst (some ⟨b101, 0, none⟩) 6 6 x107_b x107_l x107_c w1 fun r108_0 r108_1 w2 =>
      New (.cells #[.int .u8 (IntKind.u8.wrap r108_0), .int .u8 (IntKind.u8.wrap r108_1)] 5) w2 fun b116 w3 =>
      Append 5 (.int .u8 (0 : Int)) 1 1 (some ⟨b101, 0, none⟩) 6 6 (some ⟨b116, 0, none⟩) 2 w3 fun b117 c117 w4 =>
      LdL ⟨s, 6, none⟩ w4 fun x120_b x120_l x120_c =>
      Append 5 (.int .u8 (0 : Int)) 1 1 b117 (6 + 2) c117 x120_b x120_l w4 fun b121 c121 w5 =>
      R b121 ((6 + 2) + x120_l) c121 (0 : Int) w5))) = kstep Try.prog 122 Try.f52.results.toList (Try.f52.body.getD .skip) (segm_Encode.RV R) (kvc Try.prog 122 Try.f52.results.toList (Try.f52.body.getD .skip) (segm_Encode.RV R) [] 2000) [(0, [1, 1, 1, 1, 0, 1]), (0, [1, 1, 1, 1, 1])] [(0, .int .i64 src), (1, .int .i64 dst), (5, .pointer (some ⟨s, 0, none⟩)), (78, .bool t78)] w := by kernel_rfl
theorem segm_Encode.B4_sound {R : Option Addr → Nat → Nat → Int → World → Prop}  (src dst : Int) (s : Nat) (t78 : Bool) (w : World) (h : segm_Encode.B4 src dst s t78 w   R) :
    KW Try.prog 52 122 (segm_Encode.RV R) ([(0, [1, 1, 1, 1, 0, 1]), (0, [1, 1, 1, 1, 1])].map (toItem (Try.f52.body.getD .skip))) [(0, .int .i64 src), (1, .int .i64 dst), (5, .pointer (some ⟨s, 0, none⟩)), (78, .bool t78)] w := by
  exact block_spec Try.func52 Try.mixed stops_nil (Eq.mp (segm_Encode.B4_eq src dst s t78 w   R ) h)
def segm_Encode.B3 (src dst : Int) (s : Nat) (t60 : Bool) (w : World)   (R : Option Addr → Nat → Nat → Int → World → Prop) : Prop :=
  Bm t60 (
    R none 0 0 (24 : Int) w) (
    LdI .i64 ⟨s, 5, none⟩ w fun x62 =>
    Bm (decide (x62 < (0 : Int))) (
      segm_Encode.B4 src dst s true w  R) (
      LdI .i64 ⟨s, 5, none⟩ w fun x66 =>
      Bm (decide (x66 > (255 : Int))) (
        segm_Encode.B4 src dst s true w  R) (
        LdI .i64 ⟨s, 4, none⟩ w fun x71 =>
        Bm (decide (x71 < (0 : Int))) (
          segm_Encode.B4 src dst s true w  R) (
          LdI .i64 ⟨s, 4, none⟩ w fun x76 =>
          segm_Encode.B4 src dst s (decide (x76 > (15 : Int))) w  R))))
theorem segm_Encode.B3_eq (src dst : Int) (s : Nat) (t60 : Bool) (w : World)   (R : Option Addr → Nat → Nat → Int → World → Prop) (sB4 : Int → Int → Nat → Bool → World → Prop) :
    (
  Bm t60 (
    R none 0 0 (24 : Int) w) (
    LdI .i64 ⟨s, 5, none⟩ w fun x62 =>
    Bm (decide (x62 < (0 : Int))) (
      sB4 src dst s true w) (
      LdI .i64 ⟨s, 5, none⟩ w fun x66 =>
      Bm (decide (x66 > (255 : Int))) (
        sB4 src dst s true w) (
        LdI .i64 ⟨s, 4, none⟩ w fun x71 =>
        Bm (decide (x71 < (0 : Int))) (
          sB4 src dst s true w) (
          LdI .i64 ⟨s, 4, none⟩ w fun x76 =>
          sB4 src dst s (decide (x76 > (15 : Int))) w))))) = kstep Try.prog 122 Try.f52.results.toList (Try.f52.body.getD .skip) (segm_Encode.RV R) (kvc Try.prog 122 Try.f52.results.toList (Try.f52.body.getD .skip) (segm_Encode.RV R) [([(0, [1, 1, 1, 1, 0, 1]), (0, [1, 1, 1, 1, 1])], fun σ w => dI .i64 (slotOf σ 0) fun src_ => dI .i64 (slotOf σ 1) fun dst_ => dK (slotOf σ 5) fun s_ => dB (slotOf σ 78) fun t78_ => sB4 src_ dst_ s_ t78_ w)] 2000) [(0, [1, 1, 1, 0, 1]), (0, [1, 1, 1, 1])] [(0, .int .i64 src), (1, .int .i64 dst), (5, .pointer (some ⟨s, 0, none⟩)), (60, .bool t60)] w := by kernel_rfl
theorem segm_Encode.B3_sound {R : Option Addr → Nat → Nat → Int → World → Prop}  (src dst : Int) (s : Nat) (t60 : Bool) (w : World) (h : segm_Encode.B3 src dst s t60 w   R) :
    KW Try.prog 52 122 (segm_Encode.RV R) ([(0, [1, 1, 1, 0, 1]), (0, [1, 1, 1, 1])].map (toItem (Try.f52.body.getD .skip))) [(0, .int .i64 src), (1, .int .i64 dst), (5, .pointer (some ⟨s, 0, none⟩)), (60, .bool t60)] w := by
  exact block_spec Try.func52 Try.mixed (stops_cons (fun σ w h => by
      obtain ⟨src_, e0, h⟩ := dI_elim h
      obtain ⟨dst_, e1, h⟩ := dI_elim h
      obtain ⟨s_, e2, h⟩ := dK_elim h
      obtain ⟨t78_, e3, h⟩ := dB_elim h
      exact (segm_Encode.B4_sound  src_ dst_ s_ t78_ w h).weaken (Sub.cons (Sub.cons (Sub.cons (Sub.cons (Sub.nil _) e3) e2) e1) e0)) stops_nil) (Eq.mp (segm_Encode.B3_eq src dst s t60 w   R (fun src_ dst_ s_ t78_ w => segm_Encode.B4 src_ dst_ s_ t78_ w  R)) h)
def segm_Encode.B2 (src dst : Int) (s : Nat) (t42 : Bool) (w : World)   (R : Option Addr → Nat → Nat → Int → World → Prop) : Prop :=
  Bm t42 (
    R none 0 0 (22 : Int) w) (
    LdI .i64 ⟨s, 2, none⟩ w fun x44 =>
    Bm (decide (x44 < (0 : Int))) (
      segm_Encode.B3 src dst s true w  R) (
      LdI .i64 ⟨s, 2, none⟩ w fun x48 =>
      Bm (decide (x48 > (255 : Int))) (
        segm_Encode.B3 src dst s true w  R) (
        LdI .i64 ⟨s, 3, none⟩ w fun x53 =>
        Bm (decide (x53 < (0 : Int))) (
          segm_Encode.B3 src dst s true w  R) (
          LdI .i64 ⟨s, 3, none⟩ w fun x58 =>
          segm_Encode.B3 src dst s (decide (x58 > (255 : Int))) w  R))))
theorem segm_Encode.B2_eq (src dst : Int) (s : Nat) (t42 : Bool) (w : World)   (R : Option Addr → Nat → Nat → Int → World → Prop) (sB3 : Int → Int → Nat → Bool → World → Prop) :
    (
  Bm t42 (
    R none 0 0 (22 : Int) w) (
    LdI .i64 ⟨s, 2, none⟩ w fun x44 =>
    Bm (decide (x44 < (0 : Int))) (
      sB3 src dst s true w) (
      LdI .i64 ⟨s, 2, none⟩ w fun x48 =>
      Bm (decide (x48 > (255 : Int))) (
        sB3 src dst s true w) (
        LdI .i64 ⟨s, 3, none⟩ w fun x53 =>
        Bm (decide (x53 < (0 : Int))) (
          sB3 src dst s true w) (
          LdI .i64 ⟨s, 3, none⟩ w fun x58 =>
          sB3 src dst s (decide (x58 > (255 : Int))) w))))) = kstep Try.prog 122 Try.f52.results.toList (Try.f52.body.getD .skip) (segm_Encode.RV R) (kvc Try.prog 122 Try.f52.results.toList (Try.f52.body.getD .skip) (segm_Encode.RV R) [([(0, [1, 1, 1, 0, 1]), (0, [1, 1, 1, 1])], fun σ w => dI .i64 (slotOf σ 0) fun src_ => dI .i64 (slotOf σ 1) fun dst_ => dK (slotOf σ 5) fun s_ => dB (slotOf σ 60) fun t60_ => sB3 src_ dst_ s_ t60_ w)] 2000) [(0, [1, 1, 0, 1]), (0, [1, 1, 1])] [(0, .int .i64 src), (1, .int .i64 dst), (5, .pointer (some ⟨s, 0, none⟩)), (42, .bool t42)] w := by kernel_rfl
theorem segm_Encode.B2_sound {R : Option Addr → Nat → Nat → Int → World → Prop}  (src dst : Int) (s : Nat) (t42 : Bool) (w : World) (h : segm_Encode.B2 src dst s t42 w   R) :
    KW Try.prog 52 122 (segm_Encode.RV R) ([(0, [1, 1, 0, 1]), (0, [1, 1, 1])].map (toItem (Try.f52.body.getD .skip))) [(0, .int .i64 src), (1, .int .i64 dst), (5, .pointer (some ⟨s, 0, none⟩)), (42, .bool t42)] w := by
  exact block_spec Try.func52 Try.mixed (stops_cons (fun σ w h => by
      obtain ⟨src_, e0, h⟩ := dI_elim h
      obtain ⟨dst_, e1, h⟩ := dI_elim h
      obtain ⟨s_, e2, h⟩ := dK_elim h
      obtain ⟨t60_, e3, h⟩ := dB_elim h
      exact (segm_Encode.B3_sound  src_ dst_ s_ t60_ w h).weaken (Sub.cons (Sub.cons (Sub.cons (Sub.cons (Sub.nil _) e3) e2) e1) e0)) stops_nil) (Eq.mp (segm_Encode.B2_eq src dst s t42 w   R (fun src_ dst_ s_ t60_ w => segm_Encode.B3 src_ dst_ s_ t60_ w  R)) h)
def segm_Encode.B1 (src dst : Int) (s : Nat) (t24 : Bool) (w : World)   (R : Option Addr → Nat → Nat → Int → World → Prop) : Prop :=
  Bm t24 (
    R none 0 0 (5 : Int) w) (
    LdI .i64 ⟨s, 0, none⟩ w fun x26 =>
    Bm (decide (x26 < (0 : Int))) (
      segm_Encode.B2 src dst s true w  R) (
      LdI .i64 ⟨s, 0, none⟩ w fun x30 =>
      Bm (decide (x30 > (255 : Int))) (
        segm_Encode.B2 src dst s true w  R) (
        LdI .i64 ⟨s, 1, none⟩ w fun x35 =>
        Bm (decide (x35 < (0 : Int))) (
          segm_Encode.B2 src dst s true w  R) (
          LdI .i64 ⟨s, 1, none⟩ w fun x40 =>
          segm_Encode.B2 src dst s (decide (x40 > (255 : Int))) w  R))))
theorem segm_Encode.B1_eq (src dst : Int) (s : Nat) (t24 : Bool) (w : World)   (R : Option Addr → Nat → Nat → Int → World → Prop) (sB2 : Int → Int → Nat → Bool → World → Prop) :
    (
  Bm t24 (
    R none 0 0 (5 : Int) w) (
    LdI .i64 ⟨s, 0, none⟩ w fun x26 =>
    Bm (decide (x26 < (0 : Int))) (
      sB2 src dst s true w) (
      LdI .i64 ⟨s, 0, none⟩ w fun x30 =>
      Bm (decide (x30 > (255 : Int))) (
        sB2 src dst s true w) (
        LdI .i64 ⟨s, 1, none⟩ w fun x35 =>
        Bm (decide (x35 < (0 : Int))) (
          sB2 src dst s true w) (
          LdI .i64 ⟨s, 1, none⟩ w fun x40 =>
          sB2 src dst s (decide (x40 > (255 : Int))) w))))) = kstep Try.prog 122 Try.f52.results.toList (Try.f52.body.getD .skip) (segm_Encode.RV R) (kvc Try.prog 122 Try.f52.results.toList (Try.f52.body.getD .skip) (segm_Encode.RV R) [([(0, [1, 1, 0, 1]), (0, [1, 1, 1])], fun σ w => dI .i64 (slotOf σ 0) fun src_ => dI .i64 (slotOf σ 1) fun dst_ => dK (slotOf σ 5) fun s_ => dB (slotOf σ 42) fun t42_ => sB2 src_ dst_ s_ t42_ w)] 2000) [(0, [1, 0, 1]), (0, [1, 1])] [(0, .int .i64 src), (1, .int .i64 dst), (5, .pointer (some ⟨s, 0, none⟩)), (24, .bool t24)] w := by kernel_rfl
theorem segm_Encode.B1_sound {R : Option Addr → Nat → Nat → Int → World → Prop}  (src dst : Int) (s : Nat) (t24 : Bool) (w : World) (h : segm_Encode.B1 src dst s t24 w   R) :
    KW Try.prog 52 122 (segm_Encode.RV R) ([(0, [1, 0, 1]), (0, [1, 1])].map (toItem (Try.f52.body.getD .skip))) [(0, .int .i64 src), (1, .int .i64 dst), (5, .pointer (some ⟨s, 0, none⟩)), (24, .bool t24)] w := by
  exact block_spec Try.func52 Try.mixed (stops_cons (fun σ w h => by
      obtain ⟨src_, e0, h⟩ := dI_elim h
      obtain ⟨dst_, e1, h⟩ := dI_elim h
      obtain ⟨s_, e2, h⟩ := dK_elim h
      obtain ⟨t42_, e3, h⟩ := dB_elim h
      exact (segm_Encode.B2_sound  src_ dst_ s_ t42_ w h).weaken (Sub.cons (Sub.cons (Sub.cons (Sub.cons (Sub.nil _) e3) e2) e1) e0)) stops_nil) (Eq.mp (segm_Encode.B1_eq src dst s t24 w   R (fun src_ dst_ s_ t42_ w => segm_Encode.B2 src_ dst_ s_ t42_ w  R)) h)
def segm_Encode.B0 (src dst s_0 s_1 s_2 s_3 s_4 s_5 : Int) (s_6_b : Option Addr) (s_6_l s_6_c : Nat) (w : World)   (R : Option Addr → Nat → Nat → Int → World → Prop) : Prop :=
  New (.cells #[.int .i64 s_0, .int .i64 s_1, .int .i64 s_2, .int .i64 s_3, .int .i64 s_4, .int .i64 s_5, .slice s_6_b s_6_l s_6_c] 39) w fun s_ w1 =>
  Bm (decide (src < (0 : Int))) (
    segm_Encode.B1 src dst s_ true w1  R) (
    Bm (decide (src > (255 : Int))) (
      segm_Encode.B1 src dst s_ true w1  R) (
      Bm (decide (dst < (0 : Int))) (
        segm_Encode.B1 src dst s_ true w1  R) (
        segm_Encode.B1 src dst s_ (decide (dst > (255 : Int))) w1  R)))
theorem segm_Encode.B0_eq (src dst s_0 s_1 s_2 s_3 s_4 s_5 : Int) (s_6_b : Option Addr) (s_6_l s_6_c : Nat) (w : World)   (R : Option Addr → Nat → Nat → Int → World → Prop) (sB1 : Int → Int → Nat → Bool → World → Prop) :
    (
  New (.cells #[.int .i64 s_0, .int .i64 s_1, .int .i64 s_2, .int .i64 s_3, .int .i64 s_4, .int .i64 s_5, .slice s_6_b s_6_l s_6_c] 39) w fun s_ w1 =>
  Bm (decide (src < (0 : Int))) (
    sB1 src dst s_ true w1) (
    Bm (decide (src > (255 : Int))) (
      sB1 src dst s_ true w1) (
      Bm (decide (dst < (0 : Int))) (
        sB1 src dst s_ true w1) (
        sB1 src dst s_ (decide (dst > (255 : Int))) w1)))) = kstep Try.prog 122 Try.f52.results.toList (Try.f52.body.getD .skip) (segm_Encode.RV R) (kvc Try.prog 122 Try.f52.results.toList (Try.f52.body.getD .skip) (segm_Encode.RV R) [([(0, [1, 0, 1]), (0, [1, 1])], fun σ w => dI .i64 (slotOf σ 0) fun src_ => dI .i64 (slotOf σ 1) fun dst_ => dK (slotOf σ 5) fun s_ => dB (slotOf σ 24) fun t24_ => sB1 src_ dst_ s_ t24_ w)] 2000) [(0, [])] [(0, .int .i64 src), (1, .int .i64 dst), (2, .agg #[.int .i64 s_0, .int .i64 s_1, .int .i64 s_2, .int .i64 s_3, .int .i64 s_4, .int .i64 s_5, .slice s_6_b s_6_l s_6_c])] w := by kernel_rfl
theorem segm_Encode.B0_sound {R : Option Addr → Nat → Nat → Int → World → Prop}  (src dst s_0 s_1 s_2 s_3 s_4 s_5 : Int) (s_6_b : Option Addr) (s_6_l s_6_c : Nat) (w : World) (h : segm_Encode.B0 src dst s_0 s_1 s_2 s_3 s_4 s_5 s_6_b s_6_l s_6_c w   R) :
    KW Try.prog 52 122 (segm_Encode.RV R) ([(0, [])].map (toItem (Try.f52.body.getD .skip))) [(0, .int .i64 src), (1, .int .i64 dst), (2, .agg #[.int .i64 s_0, .int .i64 s_1, .int .i64 s_2, .int .i64 s_3, .int .i64 s_4, .int .i64 s_5, .slice s_6_b s_6_l s_6_c])] w := by
  exact block_spec Try.func52 Try.mixed (stops_cons (fun σ w h => by
      obtain ⟨src_, e0, h⟩ := dI_elim h
      obtain ⟨dst_, e1, h⟩ := dI_elim h
      obtain ⟨s_, e2, h⟩ := dK_elim h
      obtain ⟨t24_, e3, h⟩ := dB_elim h
      exact (segm_Encode.B1_sound  src_ dst_ s_ t24_ w h).weaken (Sub.cons (Sub.cons (Sub.cons (Sub.cons (Sub.nil _) e3) e2) e1) e0)) stops_nil) (Eq.mp (segm_Encode.B0_eq src dst s_0 s_1 s_2 s_3 s_4 s_5 s_6_b s_6_l s_6_c w   R (fun src_ dst_ s_ t24_ w => segm_Encode.B1 src_ dst_ s_ t24_ w  R)) h)
theorem segm_Encode.sound (src dst s_0 s_1 s_2 s_3 s_4 s_5 : Int) (s_6_b : Option Addr) (s_6_l s_6_c : Nat) (w : World) (R : Option Addr → Nat → Nat → Int → World → Prop) (h : segm_Encode.B0 src dst s_0 s_1 s_2 s_3 s_4 s_5 s_6_b s_6_l s_6_c w R) : segm_Encode.Call src dst s_0 s_1 s_2 s_3 s_4 s_5 s_6_b s_6_l s_6_c w R := by
  have hc := calls_of_block (args := #[.int .i64 src, .int .i64 dst, .agg #[.int .i64 s_0, .int .i64 s_1, .int .i64 s_2, .int .i64 s_3, .int .i64 s_4, .int .i64 s_5, .slice s_6_b s_6_l s_6_c]]) Try.func52 (body := (Try.f52.body.getD .skip)) (by kernel_rfl) (by kernel_rfl) (args_slot _) (segm_Encode.B0_sound src dst s_0 s_1 s_2 s_3 s_4 s_5 s_6_b s_6_l s_6_c w h)
  exact hc.mono fun e w' he => by
    obtain ⟨v, rfl, hv⟩ := he
    exact segm_Encode.RV_elim hv
def seglaw_Scribble.L1b (b_b : Option Addr) (b_l b_c : Nat) (i : Int) (w : World)  (N1 : Option Addr → Nat → Nat → Int → World → Prop) (R : World → Prop) : Prop :=
  Bm (decide (i < ((b_l : Nat) : Int))) (
    Pn b_b fun a =>
    (0 ≤ i ∧ i < ((b_l : Nat) : Int)) ∧
    LdI .u8 (Addr.add a (i.toNat * 1)) w fun x12 =>
    Pn b_b fun a_1 =>
    (0 ≤ i ∧ i < ((b_l : Nat) : Int)) ∧
    Sts [.int .u8 (IntKind.u8.wrap (BitVec.ofInt IntKind.u8.bits x12 ^^^ BitVec.ofInt IntKind.u8.bits (255 : Int)).toNat)] (Addr.add a_1 (i.toNat * 1)) 0 w fun w1 =>
    N1 b_b b_l b_c (IntKind.i64.wrap (i + (1 : Int))) w1) (
    R  w)
theorem seglaw_Scribble.L1b_eq (b_b : Option Addr) (b_l b_c : Nat) (i : Int) (w : World)  (N1 : Option Addr → Nat → Nat → Int → World → Prop) (R : World → Prop)  :
    (
  Bm (decide (i < ((b_l : Nat) : Int))) (
    Pn b_b fun a =>
    (0 ≤ i ∧ i < ((b_l : Nat) : Int)) ∧
    LdI .u8 (Addr.add a (i.toNat * 1)) w fun x12 =>
    Pn b_b fun a_1 =>
    (0 ≤ i ∧ i < ((b_l : Nat) : Int)) ∧
    Sts [.int .u8 (IntKind.u8.wrap (BitVec.ofInt IntKind.u8.bits x12 ^^^ BitVec.ofInt IntKind.u8.bits (255 : Int)).toNat)] (Addr.add a_1 (i.toNat * 1)) 0 w fun w1 =>
    N1 b_b b_l b_c (IntKind.i64.wrap (i + (1 : Int))) w1) (
    R  w)) = kstep Try.prog 15 Try.f53.results.toList (Try.f53.body.getD .skip) (seglaw_Scribble.RV R) (kvc Try.prog 15 Try.f53.results.toList (Try.f53.body.getD .skip) (seglaw_Scribble.RV R) [([(0, [1, 0, 0]), (2, [1, 0, 0]), (1, [0])], fun σ w => dL (slotOf σ 0) fun b_b_ b_l_ b_c_ => dI .i64 (slotOf σ 2) fun i_ => N1 b_b_ b_l_ b_c_ i_ w)] 2000) [(0, [1, 0, 0]), (2, [1, 0, 0]), (1, [0])] [(0, .slice b_b b_l b_c), (2, .int .i64 i)] w := by kernel_rfl
theorem seglaw_Scribble.L1b_sound {R : World → Prop} {N1 : Option Addr → Nat → Nat → Int → World → Prop} (hN1 : ∀ b_b b_l b_c i w, N1 b_b b_l b_c i w → KW Try.prog 53 15 (seglaw_Scribble.RV R) ([(0, [1, 0, 0]), (2, [1, 0, 0]), (1, [0])].map (toItem (Try.f53.body.getD .skip))) [(0, .slice b_b b_l b_c), (2, .int .i64 i)] w) (b_b : Option Addr) (b_l b_c : Nat) (i : Int) (w : World) (h : seglaw_Scribble.L1b b_b b_l b_c i w  N1 R) :
    KW Try.prog 53 15 (seglaw_Scribble.RV R) ([(0, [1, 0, 0]), (2, [1, 0, 0]), (1, [0])].map (toItem (Try.f53.body.getD .skip))) [(0, .slice b_b b_l b_c), (2, .int .i64 i)] w := by
  exact block_spec Try.func53 Try.mixed (stops_cons (fun σ w h => by
      obtain ⟨b_b_, b_l_, b_c_, e0, h⟩ := dL_elim h
      obtain ⟨i_, e1, h⟩ := dI_elim h
      exact (hN1 b_b_ b_l_ b_c_ i_ w h).weaken (Sub.cons (Sub.cons (Sub.nil _) e1) e0)) stops_nil) (Eq.mp (seglaw_Scribble.L1b_eq b_b b_l b_c i w  N1 R ) h)
def seglaw_Scribble.L1 (b_b : Option Addr) (b_l b_c : Nat) (i : Int) (w : World)  (R : World → Prop) : Prop :=
  ∃ (I : Nat → Option Addr → Nat → Nat → Int → World → Prop) (m : Nat), I m b_b b_l b_c i w ∧ ∀ m b_b b_l b_c i w, I m b_b b_l b_c i w → seglaw_Scribble.L1b b_b b_l b_c i w  (fun b_b' b_l' b_c' i' w' => ∃ m', m' < m ∧ I m' b_b' b_l' b_c' i' w') R
theorem seglaw_Scribble.L1_sound {R : World → Prop}  (b_b : Option Addr) (b_l b_c : Nat) (i : Int) (w : World) (h : seglaw_Scribble.L1 b_b b_l b_c i w  R) :
    KW Try.prog 53 15 (seglaw_Scribble.RV R) ([(0, [1, 0, 0]), (2, [1, 0, 0]), (1, [0])].map (toItem (Try.f53.body.getD .skip))) [(0, .slice b_b b_l b_c), (2, .int .i64 i)] w := by
  obtain ⟨I, m, hBase, hr⟩ := h
  refine KW.loop (fun m σ w => ∃ (b_b : Option Addr) (b_l b_c : Nat) (i : Int), σ = [(0, .slice b_b b_l b_c), (2, .int .i64 i)] ∧ I m b_b b_l b_c i w) ?_ m _ w ⟨b_b, b_l, b_c, i, rfl, hBase⟩
  rintro m ih σ w ⟨b_b, b_l, b_c, i, rfl, hI⟩
  exact seglaw_Scribble.L1b_sound  (N1 := fun b_b' b_l' b_c' i' w' => ∃ m', m' < m ∧ I m' b_b' b_l' b_c' i' w') (fun b_b' b_l' b_c' i' w' hx => by obtain ⟨m', hlt, hI'⟩ := hx; exact ih m' hlt _ w' ⟨b_b', b_l', b_c', i', rfl, hI'⟩) b_b b_l b_c i w (hr m b_b b_l b_c i w hI)
def seglaw_Scribble.B0 (b_b : Option Addr) (b_l b_c : Nat) (w : World)   (R : World → Prop) : Prop :=
  seglaw_Scribble.L1 b_b b_l b_c (0 : Int) w  R
theorem seglaw_Scribble.B0_eq (b_b : Option Addr) (b_l b_c : Nat) (w : World)   (R : World → Prop) (sL1 : Option Addr → Nat → Nat → Int → World → Prop) :
    (
  sL1 b_b b_l b_c (0 : Int) w) = kstep Try.prog 15 Try.f53.results.toList (Try.f53.body.getD .skip) (seglaw_Scribble.RV R) (kvc Try.prog 15 Try.f53.results.toList (Try.f53.body.getD .skip) (seglaw_Scribble.RV R) [([(0, [1, 0, 0]), (2, [1, 0, 0]), (1, [0])], fun σ w => dL (slotOf σ 0) fun b_b_ b_l_ b_c_ => dI .i64 (slotOf σ 2) fun i_ => sL1 b_b_ b_l_ b_c_ i_ w)] 2000) [(0, [])] [(0, .slice b_b b_l b_c)] w := by kernel_rfl
theorem seglaw_Scribble.B0_sound {R : World → Prop}  (b_b : Option Addr) (b_l b_c : Nat) (w : World) (h : seglaw_Scribble.B0 b_b b_l b_c w   R) :
    KW Try.prog 53 15 (seglaw_Scribble.RV R) ([(0, [])].map (toItem (Try.f53.body.getD .skip))) [(0, .slice b_b b_l b_c)] w := by
  exact block_spec Try.func53 Try.mixed (stops_cons (fun σ w h => by
      obtain ⟨b_b_, b_l_, b_c_, e0, h⟩ := dL_elim h
      obtain ⟨i_, e1, h⟩ := dI_elim h
      exact (seglaw_Scribble.L1_sound  b_b_ b_l_ b_c_ i_ w h).weaken (Sub.cons (Sub.cons (Sub.nil _) e1) e0)) stops_nil) (Eq.mp (seglaw_Scribble.B0_eq b_b b_l b_c w   R (fun b_b_ b_l_ b_c_ i_ w => seglaw_Scribble.L1 b_b_ b_l_ b_c_ i_ w  R)) h)
theorem seglaw_Scribble.sound (b_b : Option Addr) (b_l b_c : Nat) (w : World) (R : World → Prop) (h : seglaw_Scribble.B0 b_b b_l b_c w R) : seglaw_Scribble.Call b_b b_l b_c w R := by
  have hc := calls_of_block (args := #[.slice b_b b_l b_c]) Try.func53 (body := (Try.f53.body.getD .skip)) (by kernel_rfl) (by kernel_rfl) (args_slot _) (seglaw_Scribble.B0_sound b_b b_l b_c w h)
  exact hc.mono fun e w' he => by
    obtain ⟨v, rfl, hv⟩ := he
    exact seglaw_Scribble.RV_elim hv
def seglaw_World_Decode.B0 (w0 : Option Addr) (src dst : Int) (raw_b : Option Addr) (raw_l raw_c : Nat) (w : World)   (R : Int → Int → Int → Int → Int → Int → Option Addr → Nat → Nat → Int → Bool → World → Prop) : Prop :=
  New (.cells #[.int .i64 (0 : Int), .int .i64 (0 : Int), .int .i64 (0 : Int), .int .i64 (0 : Int), .int .i64 (0 : Int), .int .i64 (0 : Int), .slice none 0 0] 39) w fun b8 w1 =>
  api_CopyBytes.Call raw_b raw_l raw_c w1 fun r19_b r19_l r19_c w2 =>
  api_CopyBytes.Call raw_b raw_l raw_c w2 fun r21_b r21_l r21_c w3 =>
  seg_Decode.Call src dst r19_b r19_l r19_c w3 fun r26_0_0 r26_0_1 r26_0_2 r26_0_3 r26_0_4 r26_0_5 r26_0_6_b r26_0_6_l r26_0_6_c r26_1 w4 =>
  New (.cells #[.int .i64 (0 : Int), .int .i64 (0 : Int), .int .i64 (0 : Int), .int .i64 (0 : Int), .int .i64 (0 : Int), .int .i64 (0 : Int), .slice none 0 0] 39) w4 fun a_ w5 =>
  Sts [.int .i64 r26_0_0, .int .i64 r26_0_1, .int .i64 r26_0_2, .int .i64 r26_0_3, .int .i64 r26_0_4, .int .i64 r26_0_5, .slice r26_0_6_b r26_0_6_l r26_0_6_c] ⟨a_, 0, none⟩ 0 w5 fun w6 =>
  segm_Decode.Call src dst r21_b r21_l r21_c w6 fun r33_0_0 r33_0_1 r33_0_2 r33_0_3 r33_0_4 r33_0_5 r33_0_6_b r33_0_6_l r33_0_6_c r33_1 w7 =>
  New (.cells #[.int .i64 (0 : Int), .int .i64 (0 : Int), .int .i64 (0 : Int), .int .i64 (0 : Int), .int .i64 (0 : Int), .int .i64 (0 : Int), .slice none 0 0] 39) w7 fun b_ w8 =>
  Sts [.int .i64 r33_0_0, .int .i64 r33_0_1, .int .i64 r33_0_2, .int .i64 r33_0_3, .int .i64 r33_0_4, .int .i64 r33_0_5, .slice r33_0_6_b r33_0_6_l r33_0_6_c] ⟨b_, 0, none⟩ 0 w8 fun w9 =>
  seglaw_Scribble.Call r19_b r19_l r19_c w9 fun w10 =>
  Bm (r26_1 != r33_1) (
    LdI .i64 ⟨b_, 0, none⟩ w10 fun x41_0 =>
    LdI .i64 ⟨b_, 1, none⟩ w10 fun x41_1 =>
    LdI .i64 ⟨b_, 2, none⟩ w10 fun x41_2 =>
    LdI .i64 ⟨b_, 3, none⟩ w10 fun x41_3 =>
    LdI .i64 ⟨b_, 4, none⟩ w10 fun x41_4 =>
    LdI .i64 ⟨b_, 5, none⟩ w10 fun x41_5 =>
    LdL ⟨b_, 6, none⟩ w10 fun x41_6_b x41_6_l x41_6_c =>
    Sts [.int .i64 x41_0, .int .i64 x41_1, .int .i64 x41_2, .int .i64 x41_3, .int .i64 x41_4, .int .i64 x41_5, .slice x41_6_b x41_6_l x41_6_c] ⟨b8, 0, none⟩ 0 w10 fun w11 =>
    LdI .i64 ⟨b8, 0, none⟩ w11 fun r_0 =>
    LdI .i64 ⟨b8, 1, none⟩ w11 fun r_1 =>
    LdI .i64 ⟨b8, 2, none⟩ w11 fun r_2 =>
    LdI .i64 ⟨b8, 3, none⟩ w11 fun r_3 =>
    LdI .i64 ⟨b8, 4, none⟩ w11 fun r_4 =>
    LdI .i64 ⟨b8, 5, none⟩ w11 fun r_5 =>
    LdL ⟨b8, 6, none⟩ w11 fun r_6_b r_6_l r_6_c =>
    R r_0 r_1 r_2 r_3 r_4 r_5 r_6_b r_6_l r_6_c r26_1 false w11) (
    LdI .i64 ⟨a_, 0, none⟩ w10 fun x43_0 =>
    LdI .i64 ⟨a_, 1, none⟩ w10 fun x43_1 =>
    LdI .i64 ⟨a_, 2, none⟩ w10 fun x43_2 =>
    LdI .i64 ⟨a_, 3, none⟩ w10 fun x43_3 =>
    LdI .i64 ⟨a_, 4, none⟩ w10 fun x43_4 =>
    LdI .i64 ⟨a_, 5, none⟩ w10 fun x43_5 =>
    LdL ⟨a_, 6, none⟩ w10 fun x43_6_b x43_6_l x43_6_c =>
    LdI .i64 ⟨b_, 0, none⟩ w10 fun x44_0 =>
    LdI .i64 ⟨b_, 1, none⟩ w10 fun x44_1 =>
    LdI .i64 ⟨b_, 2, none⟩ w10 fun x44_2 =>
    LdI .i64 ⟨b_, 3, none⟩ w10 fun x44_3 =>
    LdI .i64 ⟨b_, 4, none⟩ w10 fun x44_4 =>
    LdI .i64 ⟨b_, 5, none⟩ w10 fun x44_5 =>
    LdL ⟨b_, 6, none⟩ w10 fun x44_6_b x44_6_l x44_6_c =>
    seglaw_SameSeg.Call x43_0 x43_1 x43_2 x43_3 x43_4 x43_5 x43_6_b x43_6_l x43_6_c x44_0 x44_1 x44_2 x44_3 x44_4 x44_5 x44_6_b x44_6_l x44_6_c w10 fun r45 w12 =>
    LdL ⟨a_, 6, none⟩ w12 fun x48_b x48_l x48_c =>
    seglaw_World_Own.Call w0 x48_b x48_l x48_c w12 fun w13 =>
    LdI .i64 ⟨b_, 0, none⟩ w13 fun x50_0 =>
    LdI .i64 ⟨b_, 1, none⟩ w13 fun x50_1 =>
    LdI .i64 ⟨b_, 2, none⟩ w13 fun x50_2 =>
    LdI .i64 ⟨b_, 3, none⟩ w13 fun x50_3 =>
    LdI .i64 ⟨b_, 4, none⟩ w13 fun x50_4 =>
    LdI .i64 ⟨b_, 5, none⟩ w13 fun x50_5 =>
    LdL ⟨b_, 6, none⟩ w13 fun x50_6_b x50_6_l x50_6_c =>
    Sts [.int .i64 x50_0, .int .i64 x50_1, .int .i64 x50_2, .int .i64 x50_3, .int .i64 x50_4, .int .i64 x50_5, .slice x50_6_b x50_6_l x50_6_c] ⟨b8, 0, none⟩ 0 w13 fun w14 =>
    LdI .i64 ⟨b8, 0, none⟩ w14 fun r_0_1 =>
    LdI .i64 ⟨b8, 1, none⟩ w14 fun r_1_1 =>
    LdI .i64 ⟨b8, 2, none⟩ w14 fun r_2_1 =>
    LdI .i64 ⟨b8, 3, none⟩ w14 fun r_3_1 =>
    LdI .i64 ⟨b8, 4, none⟩ w14 fun r_4_1 =>
    LdI .i64 ⟨b8, 5, none⟩ w14 fun r_5_1 =>
    LdL ⟨b8, 6, none⟩ w14 fun r_6_b_1 r_6_l_1 r_6_c_1 =>
    R r_0_1 r_1_1 r_2_1 r_3_1 r_4_1 r_5_1 r_6_b_1 r_6_l_1 r_6_c_1 r26_1 r45 w14)
theorem seglaw_World_Decode.B0_eq (w0 : Option Addr) (src dst : Int) (raw_b : Option Addr) (raw_l raw_c : Nat) (w : World)   (R : Int → Int → Int → Int → Int → Int → Option Addr → Nat → Nat → Int → Bool → World → Prop)  :
    (
  New (.cells #[.int .i64 (0 : Int), .int .i64 (0 : Int), .int .i64 (0 : Int), .int .i64 (0 : Int), .int .i64 (0 : Int), .int .i64 (0 : Int), .slice none 0 0] 39) w fun b8 w1 =>
  api_CopyBytes.Call raw_b raw_l raw_c w1 fun r19_b r19_l r19_c w2 =>
  api_CopyBytes.Call raw_b raw_l raw_c w2 fun r21_b r21_l r21_c w3 =>
  seg_Decode.Call src dst r19_b r19_l r19_c w3 fun r26_0_0 r26_0_1 r26_0_2 r26_0_3 r26_0_4 r26_0_5 r26_0_6_b r26_0_6_l r26_0_6_c r26_1 w4 =>
  New (.cells #[.int .i64 (0 : Int), .int .i64 (0 : Int), .int .i64 (0 : Int), .int .i64 (0 : Int), .int .i64 (0 : Int), .int .i64 (0 : Int), .slice none 0 0] 39) w4 fun a_ w5 =>
  Sts [.int .i64 r26_0_0, .int .i64 r26_0_1, .int .i64 r26_0_2, .int .i64 r26_0_3, .int .i64 r26_0_4, .int .i64 r26_0_5, .slice r26_0_6_b r26_0_6_l r26_0_6_c] ⟨a_, 0, none⟩ 0 w5 fun w6 =>
  segm_Decode.Call src dst r21_b r21_l r21_c w6 fun r33_0_0 r33_0_1 r33_0_2 r33_0_3 r33_0_4 r33_0_5 r33_0_6_b r33_0_6_l r33_0_6_c r33_1 w7 =>
  New (.cells #[.int .i64 (0 : Int), .int .i64 (0 : Int), .int .i64 (0 : Int), .int .i64 (0 : Int), .int .i64 (0 : Int), .int .i64 (0 : Int), .slice none 0 0] 39) w7 fun b_ w8 =>
  Sts [.int .i64 r33_0_0, .int .i64 r33_0_1, .int .i64 r33_0_2, .int .i64 r33_0_3, .int .i64 r33_0_4, .int .i64 r33_0_5, .slice r33_0_6_b r33_0_6_l r33_0_6_c] ⟨b_, 0, none⟩ 0 w8 fun w9 =>
  seglaw_Scribble.Call r19_b r19_l r19_c w9 fun w10 =>
  Bm (r26_1 != r33_1) (
    LdI .i64 ⟨b_, 0, none⟩ w10 fun x41_0 =>
    LdI .i64 ⟨b_, 1, none⟩ w10 fun x41_1 =>
    LdI .i64 ⟨b_, 2, none⟩ w10 fun x41_2 =>
    LdI .i64 ⟨b_, 3, none⟩ w10 fun x41_3 =>
    LdI .i64 ⟨b_, 4, none⟩ w10 fun x41_4 =>
    LdI .i64 ⟨b_, 5, none⟩ w10 fun x41_5 =>
    LdL ⟨b_, 6, none⟩ w10 fun x41_6_b x41_6_l x41_6_c =>
    Sts [.int .i64 x41_0, .int .i64 x41_1, .int .i64 x41_2, .int .i64 x41_3, .int .i64 x41_4, .int .i64 x41_5, .slice x41_6_b x41_6_l x41_6_c] ⟨b8, 0, none⟩ 0 w10 fun w11 =>
    LdI .i64 ⟨b8, 0, none⟩ w11 fun r_0 =>
    LdI .i64 ⟨b8, 1, none⟩ w11 fun r_1 =>
    LdI .i64 ⟨b8, 2, none⟩ w11 fun r_2 =>
    LdI .i64 ⟨b8, 3, none⟩ w11 fun r_3 =>
    LdI .i64 ⟨b8, 4, none⟩ w11 fun r_4 =>
    LdI .i64 ⟨b8, 5, none⟩ w11 fun r_5 =>
    LdL ⟨b8, 6, none⟩ w11 fun r_6_b r_6_l r_6_c =>
    R r_0 r_1 r_2 r_3 r_4 r_5 r_6_b r_6_l r_6_c r26_1 false w11) (
    LdI .i64 ⟨a_, 0, none⟩ w10 fun x43_0 =>
    LdI .i64 ⟨a_, 1, none⟩ w10 fun x43_1 =>
    LdI .i64 ⟨a_, 2, none⟩ w10 fun x43_2 =>
    LdI .i64 ⟨a_, 3, none⟩ w10 fun x43_3 =>
    LdI .i64 ⟨a_, 4, none⟩ w10 fun x43_4 =>
    LdI .i64 ⟨a_, 5, none⟩ w10 fun x43_5 =>
    LdL ⟨a_, 6, none⟩ w10 fun x43_6_b x43_6_l x43_6_c =>
    LdI .i64 ⟨b_, 0, none⟩ w10 fun x44_0 =>
    LdI .i64 ⟨b_, 1, none⟩ w10 fun x44_1 =>
    LdI .i64 ⟨b_, 2, none⟩ w10 fun x44_2 =>
    LdI .i64 ⟨b_, 3, none⟩ w10 fun x44_3 =>
    LdI .i64 ⟨b_, 4, none⟩ w10 fun x44_4 =>
    LdI .i64 ⟨b_, 5, none⟩ w10 fun x44_5 =>
    LdL ⟨b_, 6, none⟩ w10 fun x44_6_b x44_6_l x44_6_c =>
    seglaw_SameSeg.Call x43_0 x43_1 x43_2 x43_3 x43_4 x43_5 x43_6_b x43_6_l x43_6_c x44_0 x44_1 x44_2 x44_3 x44_4 x44_5 x44_6_b x44_6_l x44_6_c w10 fun r45 w12 =>
    LdL ⟨a_, 6, none⟩ w12 fun x48_b x48_l x48_c =>
    seglaw_World_Own.Call w0 x48_b x48_l x48_c w12 fun w13 =>
    LdI .i64 ⟨b_, 0, none⟩ w13 fun x50_0 =>
    LdI .i64 ⟨b_, 1, none⟩ w13 fun x50_1 =>
    LdI .i64 ⟨b_, 2, none⟩ w13 fun x50_2 =>
    LdI .i64 ⟨b_, 3, none⟩ w13 fun x50_3 =>
    LdI .i64 ⟨b_, 4, none⟩ w13 fun x50_4 =>
    LdI .i64 ⟨b_, 5, none⟩ w13 fun x50_5 =>
    LdL ⟨b_, 6, none⟩ w13 fun x50_6_b x50_6_l x50_6_c =>
    Sts [.int .i64 x50_0, .int .i64 x50_1, .int .i64 x50_2, .int .i64 x50_3, .int .i64 x50_4, .int .i64 x50_5, .slice x50_6_b x50_6_l x50_6_c] ⟨b8, 0, none⟩ 0 w13 fun w14 =>
    LdI .i64 ⟨b8, 0, none⟩ w14 fun r_0_1 =>
    LdI .i64 ⟨b8, 1, none⟩ w14 fun r_1_1 =>
    LdI .i64 ⟨b8, 2, none⟩ w14 fun r_2_1 =>
    LdI .i64 ⟨b8, 3, none⟩ w14 fun r_3_1 =>
    LdI .i64 ⟨b8, 4, none⟩ w14 fun r_4_1 =>
    LdI .i64 ⟨b8, 5, none⟩ w14 fun r_5_1 =>
    LdL ⟨b8, 6, none⟩ w14 fun r_6_b_1 r_6_l_1 r_6_c_1 =>
    R r_0_1 r_1_1 r_2_1 r_3_1 r_4_1 r_5_1 r_6_b_1 r_6_l_1 r_6_c_1 r26_1 r45 w14)) = kstep Try.prog 53 Try.f54.results.toList (Try.f54.body.getD .skip) (seglaw_World_Decode.RV R) (kvc Try.prog 53 Try.f54.results.toList (Try.f54.body.getD .skip) (seglaw_World_Decode.RV R) [] 2000) [(0, [])] [(0, .pointer w0), (1, .int .i64 src), (2, .int .i64 dst), (3, .slice raw_b raw_l raw_c)] w := by kernel_rfl
theorem seglaw_World_Decode.B0_sound {R : Int → Int → Int → Int → Int → Int → Option Addr → Nat → Nat → Int → Bool → World → Prop}  (w0 : Option Addr) (src dst : Int) (raw_b : Option Addr) (raw_l raw_c : Nat) (w : World) (h : seglaw_World_Decode.B0 w0 src dst raw_b raw_l raw_c w   R) :
    KW Try.prog 54 53 (seglaw_World_Decode.RV R) ([(0, [])].map (toItem (Try.f54.body.getD .skip))) [(0, .pointer w0), (1, .int .i64 src), (2, .int .i64 dst), (3, .slice raw_b raw_l raw_c)] w := by
  exact block_spec Try.func54 Try.mixed stops_nil (Eq.mp (seglaw_World_Decode.B0_eq w0 src dst raw_b raw_l raw_c w   R ) h)
theorem seglaw_World_Decode.sound (w0 : Option Addr) (src dst : Int) (raw_b : Option Addr) (raw_l raw_c : Nat) (w : World) (R : Int → Int → Int → Int → Int → Int → Option Addr → Nat → Nat → Int → Bool → World → Prop) (h : seglaw_World_Decode.B0 w0 src dst raw_b raw_l raw_c w R) : seglaw_World_Decode.Call w0 src dst raw_b raw_l raw_c w R := by
  have hc := calls_of_block (args := #[.pointer w0, .int .i64 src, .int .i64 dst, .slice raw_b raw_l raw_c]) Try.func54 (body := (Try.f54.body.getD .skip)) (by kernel_rfl) (by kernel_rfl) (args_slot _) (seglaw_World_Decode.B0_sound w0 src dst raw_b raw_l raw_c w h)
  exact hc.mono fun e w' he => by
    obtain ⟨v, rfl, hv⟩ := he
    exact seglaw_World_Decode.RV_elim hv
end Go.Proofs.Qxb6500426a
