import Derived.Test.Qxb6500424aGreatSig
set_option maxRecDepth 100000
set_option linter.unusedVariables false
open Go.Vc
namespace Go.Proofs.Qxb6500424aGreat
def seg_Decode.B3 (raw_b : Option Addr) (raw_l raw_c t6 none0 : Nat) (t55 : Bool) (w : World)   (R : Int → Int → Int → Int → Int → Int → Option Addr → Nat → Nat → Int → World → Prop) : Prop :=
  Bm t55 (
    LdI .i64 ⟨none0, 0, none⟩ w fun x56_0 =>
    LdI .i64 ⟨none0, 1, none⟩ w fun x56_1 =>
    LdI .i64 ⟨none0, 2, none⟩ w fun x56_2 =>
    LdI .i64 ⟨none0, 3, none⟩ w fun x56_3 =>
    LdI .i64 ⟨none0, 4, none⟩ w fun x56_4 =>
    LdI .i64 ⟨none0, 5, none⟩ w fun x56_5 =>
    LdL ⟨none0, 6, none⟩ w fun x56_6_b x56_6_l x56_6_c =>
    Sts [.int .i64 x56_0, .int .i64 x56_1, .int .i64 x56_2, .int .i64 x56_3, .int .i64 x56_4, .int .i64 x56_5, .slice x56_6_b x56_6_l x56_6_c] ⟨t6, 0, none⟩ 0 w fun w1 =>
    LdI .i64 ⟨t6, 0, none⟩ w1 fun r_0 =>
    LdI .i64 ⟨t6, 1, none⟩ w1 fun r_1 =>
    LdI .i64 ⟨t6, 2, none⟩ w1 fun r_2 =>
    LdI .i64 ⟨t6, 3, none⟩ w1 fun r_3 =>
    LdI .i64 ⟨t6, 4, none⟩ w1 fun r_4 =>
    LdI .i64 ⟨t6, 5, none⟩ w1 fun r_5 =>
    LdL ⟨t6, 6, none⟩ w1 fun r_6_b r_6_l r_6_c =>
    R r_0 r_1 r_2 r_3 r_4 r_5 r_6_b r_6_l r_6_c (4 : Int) w1) (
    Pn raw_b fun a =>
    (0 ≤ (4 : Int) ∧ (4 : Int) < ((raw_l : Nat) : Int)) ∧
    LdI .u8 (a.add 4) w fun x59 =>
    Bm (decide (x59 > (15 : Int))) (
      LdI .i64 ⟨none0, 0, none⟩ w fun x61_0 =>
      LdI .i64 ⟨none0, 1, none⟩ w fun x61_1 =>
      LdI .i64 ⟨none0, 2, none⟩ w fun x61_2 =>
      LdI .i64 ⟨none0, 3, none⟩ w fun x61_3 =>
      LdI .i64 ⟨none0, 4, none⟩ w fun x61_4 =>
      LdI .i64 ⟨none0, 5, none⟩ w fun x61_5 =>
      LdL ⟨none0, 6, none⟩ w fun x61_6_b x61_6_l x61_6_c =>
      Sts [.int .i64 x61_0, .int .i64 x61_1, .int .i64 x61_2, .int .i64 x61_3, .int .i64 x61_4, .int .i64 x61_5, .slice x61_6_b x61_6_l x61_6_c] ⟨t6, 0, none⟩ 0 w fun w2 =>
      LdI .i64 ⟨t6, 0, none⟩ w2 fun r_0_1 =>
      LdI .i64 ⟨t6, 1, none⟩ w2 fun r_1_1 =>
      LdI .i64 ⟨t6, 2, none⟩ w2 fun r_2_1 =>
      LdI .i64 ⟨t6, 3, none⟩ w2 fun r_3_1 =>
      LdI .i64 ⟨t6, 4, none⟩ w2 fun r_4_1 =>
      LdI .i64 ⟨t6, 5, none⟩ w2 fun r_5_1 =>
      LdL ⟨t6, 6, none⟩ w2 fun r_6_b_1 r_6_l_1 r_6_c_1 =>
      R r_0_1 r_1_1 r_2_1 r_3_1 r_4_1 r_5_1 r_6_b_1 r_6_l_1 r_6_c_1 (24 : Int) w2) (
      (0 ≤ (8 : Int) ∧ (8 : Int) ≤ ((raw_l : Nat) : Int)) ∧
      api_CopyBytes.Call (slBase raw_b (8 : Int) ((raw_c : Nat) : Int) 1) (((raw_l : Nat) : Int).toNat - (8 : Int).toNat) (((raw_c : Nat) : Int).toNat - (8 : Int).toNat) w fun r64_b r64_l r64_c w3 =>
      Pn raw_b fun a_1 =>
      (0 ≤ (0 : Int) ∧ (0 : Int) < ((raw_l : Nat) : Int)) ∧
      LdI .u8 a_1 w3.drew fun x67 =>
      Pn raw_b fun a_2 =>
      (0 ≤ (1 : Int) ∧ (1 : Int) < ((raw_l : Nat) : Int)) ∧
      LdI .u8 (a_2.add 1) w3.drew fun x71 =>
      Pn raw_b fun a_3 =>
      (0 ≤ (2 : Int) ∧ (2 : Int) < ((raw_l : Nat) : Int)) ∧
      LdI .u8 (a_3.add 2) w3.drew fun x75 =>
      Pn raw_b fun a_4 =>
      (0 ≤ (3 : Int) ∧ (3 : Int) < ((raw_l : Nat) : Int)) ∧
      LdI .u8 (a_4.add 3) w3.drew fun x79 =>
      Pn raw_b fun a_5 =>
      (0 ≤ (4 : Int) ∧ (4 : Int) < ((raw_l : Nat) : Int)) ∧
      LdI .u8 (a_5.add 4) w3.drew fun x83 =>
      Pn raw_b fun a_6 =>
      (0 ≤ (5 : Int) ∧ (5 : Int) < ((raw_l : Nat) : Int)) ∧
      LdI .u8 (a_6.add 5) w3.drew fun x87 =>
      Sts [.int .i64 (IntKind.i64.wrap x67), .int .i64 (IntKind.i64.wrap x71), .int .i64 (IntKind.i64.wrap x75), .int .i64 (IntKind.i64.wrap x79), .int .i64 (IntKind.i64.wrap x83), .int .i64 (IntKind.i64.wrap x87), .slice r64_b r64_l r64_c] ⟨t6, 0, none⟩ 0 w3.drew fun w4 =>
      LdI .i64 ⟨t6, 0, none⟩ w4 fun r_0_2 =>
      LdI .i64 ⟨t6, 1, none⟩ w4 fun r_1_2 =>
      LdI .i64 ⟨t6, 2, none⟩ w4 fun r_2_2 =>
      LdI .i64 ⟨t6, 3, none⟩ w4 fun r_3_2 =>
      LdI .i64 ⟨t6, 4, none⟩ w4 fun r_4_2 =>
      LdI .i64 ⟨t6, 5, none⟩ w4 fun r_5_2 =>
      LdL ⟨t6, 6, none⟩ w4 fun r_6_b_2 r_6_l_2 r_6_c_2 =>
      R r_0_2 r_1_2 r_2_2 r_3_2 r_4_2 r_5_2 r_6_b_2 r_6_l_2 r_6_c_2 (0 : Int) w4))
theorem seg_Decode.B3_eq (raw_b : Option Addr) (raw_l raw_c t6 none0 : Nat) (t55 : Bool) (w : World)   (R : Int → Int → Int → Int → Int → Int → Option Addr → Nat → Nat → Int → World → Prop)  :
    (
  Bm t55 (
    LdI .i64 ⟨none0, 0, none⟩ w fun x56_0 =>
    LdI .i64 ⟨none0, 1, none⟩ w fun x56_1 =>
    LdI .i64 ⟨none0, 2, none⟩ w fun x56_2 =>
    LdI .i64 ⟨none0, 3, none⟩ w fun x56_3 =>
    LdI .i64 ⟨none0, 4, none⟩ w fun x56_4 =>
    LdI .i64 ⟨none0, 5, none⟩ w fun x56_5 =>
    LdL ⟨none0, 6, none⟩ w fun x56_6_b x56_6_l x56_6_c =>
    Sts [.int .i64 x56_0, .int .i64 x56_1, .int .i64 x56_2, .int .i64 x56_3, .int .i64 x56_4, .int .i64 x56_5, .slice x56_6_b x56_6_l x56_6_c] ⟨t6, 0, none⟩ 0 w fun w1 =>
    LdI .i64 ⟨t6, 0, none⟩ w1 fun r_0 =>
    LdI .i64 ⟨t6, 1, none⟩ w1 fun r_1 =>
    LdI .i64 ⟨t6, 2, none⟩ w1 fun r_2 =>
    LdI .i64 ⟨t6, 3, none⟩ w1 fun r_3 =>
    LdI .i64 ⟨t6, 4, none⟩ w1 fun r_4 =>
    LdI .i64 ⟨t6, 5, none⟩ w1 fun r_5 =>
    LdL ⟨t6, 6, none⟩ w1 fun r_6_b r_6_l r_6_c =>
    R r_0 r_1 r_2 r_3 r_4 r_5 r_6_b r_6_l r_6_c (4 : Int) w1) (
    Pn raw_b fun a =>
    (0 ≤ (4 : Int) ∧ (4 : Int) < ((raw_l : Nat) : Int)) ∧
    LdI .u8 (a.add 4) w fun x59 =>
    Bm (decide (x59 > (15 : Int))) (
      LdI .i64 ⟨none0, 0, none⟩ w fun x61_0 =>
      LdI .i64 ⟨none0, 1, none⟩ w fun x61_1 =>
      LdI .i64 ⟨none0, 2, none⟩ w fun x61_2 =>
      LdI .i64 ⟨none0, 3, none⟩ w fun x61_3 =>
      LdI .i64 ⟨none0, 4, none⟩ w fun x61_4 =>
      LdI .i64 ⟨none0, 5, none⟩ w fun x61_5 =>
      LdL ⟨none0, 6, none⟩ w fun x61_6_b x61_6_l x61_6_c =>
      Sts [.int .i64 x61_0, .int .i64 x61_1, .int .i64 x61_2, .int .i64 x61_3, .int .i64 x61_4, .int .i64 x61_5, .slice x61_6_b x61_6_l x61_6_c] ⟨t6, 0, none⟩ 0 w fun w2 =>
      LdI .i64 ⟨t6, 0, none⟩ w2 fun r_0_1 =>
      LdI .i64 ⟨t6, 1, none⟩ w2 fun r_1_1 =>
      LdI .i64 ⟨t6, 2, none⟩ w2 fun r_2_1 =>
      LdI .i64 ⟨t6, 3, none⟩ w2 fun r_3_1 =>
      LdI .i64 ⟨t6, 4, none⟩ w2 fun r_4_1 =>
      LdI .i64 ⟨t6, 5, none⟩ w2 fun r_5_1 =>
      LdL ⟨t6, 6, none⟩ w2 fun r_6_b_1 r_6_l_1 r_6_c_1 =>
      R r_0_1 r_1_1 r_2_1 r_3_1 r_4_1 r_5_1 r_6_b_1 r_6_l_1 r_6_c_1 (24 : Int) w2) (
      (0 ≤ (8 : Int) ∧ (8 : Int) ≤ ((raw_l : Nat) : Int)) ∧
      api_CopyBytes.Call (slBase raw_b (8 : Int) ((raw_c : Nat) : Int) 1) (((raw_l : Nat) : Int).toNat - (8 : Int).toNat) (((raw_c : Nat) : Int).toNat - (8 : Int).toNat) w fun r64_b r64_l r64_c w3 =>
      Pn raw_b fun a_1 =>
      (0 ≤ (0 : Int) ∧ (0 : Int) < ((raw_l : Nat) : Int)) ∧
      LdI .u8 a_1 w3.drew fun x67 =>
      Pn raw_b fun a_2 =>
      (0 ≤ (1 : Int) ∧ (1 : Int) < ((raw_l : Nat) : Int)) ∧
      LdI .u8 (a_2.add 1) w3.drew fun x71 =>
      Pn raw_b fun a_3 =>
      (0 ≤ (2 : Int) ∧ (2 : Int) < ((raw_l : Nat) : Int)) ∧
      LdI .u8 (a_3.add 2) w3.drew fun x75 =>
      Pn raw_b fun a_4 =>
      (0 ≤ (3 : Int) ∧ (3 : Int) < ((raw_l : Nat) : Int)) ∧
      LdI .u8 (a_4.add 3) w3.drew fun x79 =>
      Pn raw_b fun a_5 =>
      (0 ≤ (4 : Int) ∧ (4 : Int) < ((raw_l : Nat) : Int)) ∧
      LdI .u8 (a_5.add 4) w3.drew fun x83 =>
      Pn raw_b fun a_6 =>
      (0 ≤ (5 : Int) ∧ (5 : Int) < ((raw_l : Nat) : Int)) ∧
      LdI .u8 (a_6.add 5) w3.drew fun x87 =>
      Sts [.int .i64 (IntKind.i64.wrap x67), .int .i64 (IntKind.i64.wrap x71), .int .i64 (IntKind.i64.wrap x75), .int .i64 (IntKind.i64.wrap x79), .int .i64 (IntKind.i64.wrap x83), .int .i64 (IntKind.i64.wrap x87), .slice r64_b r64_l r64_c] ⟨t6, 0, none⟩ 0 w3.drew fun w4 =>
      LdI .i64 ⟨t6, 0, none⟩ w4 fun r_0_2 =>
      LdI .i64 ⟨t6, 1, none⟩ w4 fun r_1_2 =>
      LdI .i64 ⟨t6, 2, none⟩ w4 fun r_2_2 =>
      LdI .i64 ⟨t6, 3, none⟩ w4 fun r_3_2 =>
      LdI .i64 ⟨t6, 4, none⟩ w4 fun r_4_2 =>
      LdI .i64 ⟨t6, 5, none⟩ w4 fun r_5_2 =>
      LdL ⟨t6, 6, none⟩ w4 fun r_6_b_2 r_6_l_2 r_6_c_2 =>
      R r_0_2 r_1_2 r_2_2 r_3_2 r_4_2 r_5_2 r_6_b_2 r_6_l_2 r_6_c_2 (0 : Int) w4))) = kstep Tryz.prog 91 Tryz.f115.results.toList (Tryz.f115.body.getD .skip) (seg_Decode.RV R) (kvc Tryz.prog 91 Tryz.f115.results.toList (Tryz.f115.body.getD .skip) (seg_Decode.RV R) [] 2000) [(0, [1, 1, 1, 1, 1, 1, 0, 1]), (0, [1, 1, 1, 1, 1, 1, 1])] [(2, .slice raw_b raw_l raw_c), (6, .pointer (some ⟨t6, 0, none⟩)), (8, .pointer (some ⟨none0, 0, none⟩)), (55, .bool t55)] w := by kernel_rfl
theorem seg_Decode.B3_sound {R : Int → Int → Int → Int → Int → Int → Option Addr → Nat → Nat → Int → World → Prop}  (raw_b : Option Addr) (raw_l raw_c t6 none0 : Nat) (t55 : Bool) (w : World) (h : seg_Decode.B3 raw_b raw_l raw_c t6 none0 t55 w   R) :
    KW Tryz.prog 115 91 (seg_Decode.RV R) ([(0, [1, 1, 1, 1, 1, 1, 0, 1]), (0, [1, 1, 1, 1, 1, 1, 1])].map (toItem (Tryz.f115.body.getD .skip))) [(2, .slice raw_b raw_l raw_c), (6, .pointer (some ⟨t6, 0, none⟩)), (8, .pointer (some ⟨none0, 0, none⟩)), (55, .bool t55)] w := by
  exact block_spec Tryz.func115 Tryz.mixed stops_nil (Eq.mp (seg_Decode.B3_eq raw_b raw_l raw_c t6 none0 t55 w   R ) h)
def seg_Decode.B2 (raw_b : Option Addr) (raw_l raw_c t6 none0 x : Nat) (w : World)   (R : Int → Int → Int → Int → Int → Int → Option Addr → Nat → Nat → Int → World → Prop) : Prop :=
  LdI .u8 ⟨x, 0, none⟩ w.drew fun x43 =>
  Pn raw_b fun a =>
  (0 ≤ (6 : Int) ∧ (6 : Int) < ((raw_l : Nat) : Int)) ∧
  LdI .u8 (a.add 6) w.drew fun x46 =>
  Bm (x43 != x46) (
    seg_Decode.B3 raw_b raw_l raw_c t6 none0 true w.drew  R) (
    LdI .u8 ⟨x, 1, none⟩ w.drew fun x50 =>
    Pn raw_b fun a_1 =>
    (0 ≤ (7 : Int) ∧ (7 : Int) < ((raw_l : Nat) : Int)) ∧
    LdI .u8 (a_1.add 7) w.drew fun x53 =>
    seg_Decode.B3 raw_b raw_l raw_c t6 none0 (x50 != x53) w.drew  R)
theorem seg_Decode.B2_eq (raw_b : Option Addr) (raw_l raw_c t6 none0 x : Nat) (w : World)   (R : Int → Int → Int → Int → Int → Int → Option Addr → Nat → Nat → Int → World → Prop) (sB3 : Option Addr → Nat → Nat → Nat → Nat → Bool → World → Prop) :
    (
  LdI .u8 ⟨x, 0, none⟩ w.drew fun x43 =>
  Pn raw_b fun a =>
  (0 ≤ (6 : Int) ∧ (6 : Int) < ((raw_l : Nat) : Int)) ∧
  LdI .u8 (a.add 6) w.drew fun x46 =>
  Bm (x43 != x46) (
    sB3 raw_b raw_l raw_c t6 none0 true w.drew) (
    LdI .u8 ⟨x, 1, none⟩ w.drew fun x50 =>
    Pn raw_b fun a_1 =>
    (0 ≤ (7 : Int) ∧ (7 : Int) < ((raw_l : Nat) : Int)) ∧
    LdI .u8 (a_1.add 7) w.drew fun x53 =>
    sB3 raw_b raw_l raw_c t6 none0 (x50 != x53) w.drew)) = kstep Tryz.prog 91 Tryz.f115.results.toList (Tryz.f115.body.getD .skip) (seg_Decode.RV R) (kvc Tryz.prog 91 Tryz.f115.results.toList (Tryz.f115.body.getD .skip) (seg_Decode.RV R) [([(0, [1, 1, 1, 1, 1, 1, 0, 1]), (0, [1, 1, 1, 1, 1, 1, 1])], fun σ w => dL (slotOf σ 2) fun raw_b_ raw_l_ raw_c_ => dK (slotOf σ 6) fun t6_ => dK (slotOf σ 8) fun none0_ => dB (slotOf σ 55) fun t55_ => sB3 raw_b_ raw_l_ raw_c_ t6_ none0_ t55_ w)] 2000) [(0, [1, 1, 1, 1, 1, 1])] [(2, .slice raw_b raw_l raw_c), (6, .pointer (some ⟨t6, 0, none⟩)), (8, .pointer (some ⟨none0, 0, none⟩)), (9, .pointer (some ⟨x, 0, none⟩))] w := by kernel_rfl
theorem seg_Decode.B2_sound {R : Int → Int → Int → Int → Int → Int → Option Addr → Nat → Nat → Int → World → Prop}  (raw_b : Option Addr) (raw_l raw_c t6 none0 x : Nat) (w : World) (h : seg_Decode.B2 raw_b raw_l raw_c t6 none0 x w   R) :
    KW Tryz.prog 115 91 (seg_Decode.RV R) ([(0, [1, 1, 1, 1, 1, 1])].map (toItem (Tryz.f115.body.getD .skip))) [(2, .slice raw_b raw_l raw_c), (6, .pointer (some ⟨t6, 0, none⟩)), (8, .pointer (some ⟨none0, 0, none⟩)), (9, .pointer (some ⟨x, 0, none⟩))] w := by
  exact block_spec Tryz.func115 Tryz.mixed (stops_cons (fun σ w h => by
      obtain ⟨raw_b_, raw_l_, raw_c_, e0, h⟩ := dL_elim h
      obtain ⟨t6_, e1, h⟩ := dK_elim h
      obtain ⟨none0_, e2, h⟩ := dK_elim h
      obtain ⟨t55_, e3, h⟩ := dB_elim h
      exact (seg_Decode.B3_sound  raw_b_ raw_l_ raw_c_ t6_ none0_ t55_ w h).weaken (Sub.cons (Sub.cons (Sub.cons (Sub.cons (Sub.nil _) e3) e2) e1) e0)) stops_nil) (Eq.mp (seg_Decode.B2_eq raw_b raw_l raw_c t6 none0 x w   R (fun raw_b_ raw_l_ raw_c_ t6_ none0_ t55_ w => seg_Decode.B3 raw_b_ raw_l_ raw_c_ t6_ none0_ t55_ w  R)) h)
def seg_Decode.B1 (src dst : Int) (raw_b : Option Addr) (raw_l raw_c t6 none0 : Nat) (t25 : Bool) (w : World)   (R : Int → Int → Int → Int → Int → Int → Option Addr → Nat → Nat → Int → World → Prop) : Prop :=
  Bm t25 (
    LdI .i64 ⟨none0, 0, none⟩ w fun x26_0 =>
    LdI .i64 ⟨none0, 1, none⟩ w fun x26_1 =>
    LdI .i64 ⟨none0, 2, none⟩ w fun x26_2 =>
    LdI .i64 ⟨none0, 3, none⟩ w fun x26_3 =>
    LdI .i64 ⟨none0, 4, none⟩ w fun x26_4 =>
    LdI .i64 ⟨none0, 5, none⟩ w fun x26_5 =>
    LdL ⟨none0, 6, none⟩ w fun x26_6_b x26_6_l x26_6_c =>
    Sts [.int .i64 x26_0, .int .i64 x26_1, .int .i64 x26_2, .int .i64 x26_3, .int .i64 x26_4, .int .i64 x26_5, .slice x26_6_b x26_6_l x26_6_c] ⟨t6, 0, none⟩ 0 w fun w1 =>
    LdI .i64 ⟨t6, 0, none⟩ w1 fun r_0 =>
    LdI .i64 ⟨t6, 1, none⟩ w1 fun r_1 =>
    LdI .i64 ⟨t6, 2, none⟩ w1 fun r_2 =>
    LdI .i64 ⟨t6, 3, none⟩ w1 fun r_3 =>
    LdI .i64 ⟨t6, 4, none⟩ w1 fun r_4 =>
    LdI .i64 ⟨t6, 5, none⟩ w1 fun r_5 =>
    LdL ⟨t6, 6, none⟩ w1 fun r_6_b r_6_l r_6_c =>
    R r_0 r_1 r_2 r_3 r_4 r_5 r_6_b r_6_l r_6_c (5 : Int) w1) (
    Bm (decide (((raw_l : Nat) : Int) < (8 : Int))) (
      LdI .i64 ⟨none0, 0, none⟩ w fun x30_0 =>
      LdI .i64 ⟨none0, 1, none⟩ w fun x30_1 =>
      LdI .i64 ⟨none0, 2, none⟩ w fun x30_2 =>
      LdI .i64 ⟨none0, 3, none⟩ w fun x30_3 =>
      LdI .i64 ⟨none0, 4, none⟩ w fun x30_4 =>
      LdI .i64 ⟨none0, 5, none⟩ w fun x30_5 =>
      LdL ⟨none0, 6, none⟩ w fun x30_6_b x30_6_l x30_6_c =>
      Sts [.int .i64 x30_0, .int .i64 x30_1, .int .i64 x30_2, .int .i64 x30_3, .int .i64 x30_4, .int .i64 x30_5, .slice x30_6_b x30_6_l x30_6_c] ⟨t6, 0, none⟩ 0 w fun w2 =>
      LdI .i64 ⟨t6, 0, none⟩ w2 fun r_0_1 =>
      LdI .i64 ⟨t6, 1, none⟩ w2 fun r_1_1 =>
      LdI .i64 ⟨t6, 2, none⟩ w2 fun r_2_1 =>
      LdI .i64 ⟨t6, 3, none⟩ w2 fun r_3_1 =>
      LdI .i64 ⟨t6, 4, none⟩ w2 fun r_4_1 =>
      LdI .i64 ⟨t6, 5, none⟩ w2 fun r_5_1 =>
      LdL ⟨t6, 6, none⟩ w2 fun r_6_b_1 r_6_l_1 r_6_c_1 =>
      R r_0_1 r_1_1 r_2_1 r_3_1 r_4_1 r_5_1 r_6_b_1 r_6_l_1 r_6_c_1 (1 : Int) w2) (
      Bm (decide (((raw_l : Nat) : Int) > (20 : Int))) (
        LdI .i64 ⟨none0, 0, none⟩ w fun x34_0 =>
        LdI .i64 ⟨none0, 1, none⟩ w fun x34_1 =>
        LdI .i64 ⟨none0, 2, none⟩ w fun x34_2 =>
        LdI .i64 ⟨none0, 3, none⟩ w fun x34_3 =>
        LdI .i64 ⟨none0, 4, none⟩ w fun x34_4 =>
        LdI .i64 ⟨none0, 5, none⟩ w fun x34_5 =>
        LdL ⟨none0, 6, none⟩ w fun x34_6_b x34_6_l x34_6_c =>
        Sts [.int .i64 x34_0, .int .i64 x34_1, .int .i64 x34_2, .int .i64 x34_3, .int .i64 x34_4, .int .i64 x34_5, .slice x34_6_b x34_6_l x34_6_c] ⟨t6, 0, none⟩ 0 w fun w3 =>
        LdI .i64 ⟨t6, 0, none⟩ w3 fun r_0_2 =>
        LdI .i64 ⟨t6, 1, none⟩ w3 fun r_1_2 =>
        LdI .i64 ⟨t6, 2, none⟩ w3 fun r_2_2 =>
        LdI .i64 ⟨t6, 3, none⟩ w3 fun r_3_2 =>
        LdI .i64 ⟨t6, 4, none⟩ w3 fun r_4_2 =>
        LdI .i64 ⟨t6, 5, none⟩ w3 fun r_5_2 =>
        LdL ⟨t6, 6, none⟩ w3 fun r_6_b_2 r_6_l_2 r_6_c_2 =>
        R r_0_2 r_1_2 r_2_2 r_3_2 r_4_2 r_5_2 r_6_b_2 r_6_l_2 r_6_c_2 (2 : Int) w3) (
        (0 ≤ (6 : Int) ∧ (6 : Int) ≤ ((raw_c : Nat) : Int)) ∧
        (0 ≤ (8 : Int) ∧ (8 : Int) ≤ ((raw_l : Nat) : Int)) ∧
        ((
          seg_over.Call src dst (slBase raw_b ((0 : Nat) : Int) ((raw_c : Nat) : Int) 1) ((6 : Int).toNat - ((0 : Nat) : Int).toNat) (((raw_c : Nat) : Int).toNat - ((0 : Nat) : Int).toNat) (slBase raw_b (8 : Int) ((raw_c : Nat) : Int) 1) (((raw_l : Nat) : Int).toNat - (8 : Int).toNat) (((raw_c : Nat) : Int).toNat - (8 : Int).toNat) w.drew fun r41_0 r41_1 w4 =>
          New (.cells #[.int .u8 (0 : Int), .int .u8 (0 : Int)] 203) w4 fun b w5 =>
          Sts [.int .u8 r41_0, .int .u8 r41_1] ⟨b, 0, none⟩ 0 w5 fun w6 =>
          seg_Decode.B2 raw_b raw_l raw_c t6 none0 b w6  R) ∧ (
          New (.cells #[.int .u8 (0 : Int), .int .u8 (0 : Int)] 203) w.drew fun b_1 w7 =>
          seg_over.Call src dst (slBase raw_b ((0 : Nat) : Int) ((raw_c : Nat) : Int) 1) ((6 : Int).toNat - ((0 : Nat) : Int).toNat) (((raw_c : Nat) : Int).toNat - ((0 : Nat) : Int).toNat) (slBase raw_b (8 : Int) ((raw_c : Nat) : Int) 1) (((raw_l : Nat) : Int).toNat - (8 : Int).toNat) (((raw_c : Nat) : Int).toNat - (8 : Int).toNat) w7 fun r41_0_1 r41_1_1 w8 =>
          Sts [.int .u8 r41_0_1, .int .u8 r41_1_1] ⟨b_1, 0, none⟩ 0 w8 fun w9 =>
          seg_Decode.B2 raw_b raw_l raw_c t6 none0 b_1 w9  R)))))
theorem seg_Decode.B1_eq (src dst : Int) (raw_b : Option Addr) (raw_l raw_c t6 none0 : Nat) (t25 : Bool) (w : World)   (R : Int → Int → Int → Int → Int → Int → Option Addr → Nat → Nat → Int → World → Prop) (sB2 : Option Addr → Nat → Nat → Nat → Nat → Nat → World → Prop) :
    (
  Bm t25 (
    LdI .i64 ⟨none0, 0, none⟩ w fun x26_0 =>
    LdI .i64 ⟨none0, 1, none⟩ w fun x26_1 =>
    LdI .i64 ⟨none0, 2, none⟩ w fun x26_2 =>
    LdI .i64 ⟨none0, 3, none⟩ w fun x26_3 =>
    LdI .i64 ⟨none0, 4, none⟩ w fun x26_4 =>
    LdI .i64 ⟨none0, 5, none⟩ w fun x26_5 =>
    LdL ⟨none0, 6, none⟩ w fun x26_6_b x26_6_l x26_6_c =>
    Sts [.int .i64 x26_0, .int .i64 x26_1, .int .i64 x26_2, .int .i64 x26_3, .int .i64 x26_4, .int .i64 x26_5, .slice x26_6_b x26_6_l x26_6_c] ⟨t6, 0, none⟩ 0 w fun w1 =>
    LdI .i64 ⟨t6, 0, none⟩ w1 fun r_0 =>
    LdI .i64 ⟨t6, 1, none⟩ w1 fun r_1 =>
    LdI .i64 ⟨t6, 2, none⟩ w1 fun r_2 =>
    LdI .i64 ⟨t6, 3, none⟩ w1 fun r_3 =>
    LdI .i64 ⟨t6, 4, none⟩ w1 fun r_4 =>
    LdI .i64 ⟨t6, 5, none⟩ w1 fun r_5 =>
    LdL ⟨t6, 6, none⟩ w1 fun r_6_b r_6_l r_6_c =>
    R r_0 r_1 r_2 r_3 r_4 r_5 r_6_b r_6_l r_6_c (5 : Int) w1) (
    Bm (decide (((raw_l : Nat) : Int) < (8 : Int))) (
      LdI .i64 ⟨none0, 0, none⟩ w fun x30_0 =>
      LdI .i64 ⟨none0, 1, none⟩ w fun x30_1 =>
      LdI .i64 ⟨none0, 2, none⟩ w fun x30_2 =>
      LdI .i64 ⟨none0, 3, none⟩ w fun x30_3 =>
      LdI .i64 ⟨none0, 4, none⟩ w fun x30_4 =>
      LdI .i64 ⟨none0, 5, none⟩ w fun x30_5 =>
      LdL ⟨none0, 6, none⟩ w fun x30_6_b x30_6_l x30_6_c =>
      Sts [.int .i64 x30_0, .int .i64 x30_1, .int .i64 x30_2, .int .i64 x30_3, .int .i64 x30_4, .int .i64 x30_5, .slice x30_6_b x30_6_l x30_6_c] ⟨t6, 0, none⟩ 0 w fun w2 =>
      LdI .i64 ⟨t6, 0, none⟩ w2 fun r_0_1 =>
      LdI .i64 ⟨t6, 1, none⟩ w2 fun r_1_1 =>
      LdI .i64 ⟨t6, 2, none⟩ w2 fun r_2_1 =>
      LdI .i64 ⟨t6, 3, none⟩ w2 fun r_3_1 =>
      LdI .i64 ⟨t6, 4, none⟩ w2 fun r_4_1 =>
      LdI .i64 ⟨t6, 5, none⟩ w2 fun r_5_1 =>
      LdL ⟨t6, 6, none⟩ w2 fun r_6_b_1 r_6_l_1 r_6_c_1 =>
      R r_0_1 r_1_1 r_2_1 r_3_1 r_4_1 r_5_1 r_6_b_1 r_6_l_1 r_6_c_1 (1 : Int) w2) (
      Bm (decide (((raw_l : Nat) : Int) > (20 : Int))) (
        LdI .i64 ⟨none0, 0, none⟩ w fun x34_0 =>
        LdI .i64 ⟨none0, 1, none⟩ w fun x34_1 =>
        LdI .i64 ⟨none0, 2, none⟩ w fun x34_2 =>
        LdI .i64 ⟨none0, 3, none⟩ w fun x34_3 =>
        LdI .i64 ⟨none0, 4, none⟩ w fun x34_4 =>
        LdI .i64 ⟨none0, 5, none⟩ w fun x34_5 =>
        LdL ⟨none0, 6, none⟩ w fun x34_6_b x34_6_l x34_6_c =>
        Sts [.int .i64 x34_0, .int .i64 x34_1, .int .i64 x34_2, .int .i64 x34_3, .int .i64 x34_4, .int .i64 x34_5, .slice x34_6_b x34_6_l x34_6_c] ⟨t6, 0, none⟩ 0 w fun w3 =>
        LdI .i64 ⟨t6, 0, none⟩ w3 fun r_0_2 =>
        LdI .i64 ⟨t6, 1, none⟩ w3 fun r_1_2 =>
        LdI .i64 ⟨t6, 2, none⟩ w3 fun r_2_2 =>
        LdI .i64 ⟨t6, 3, none⟩ w3 fun r_3_2 =>
        LdI .i64 ⟨t6, 4, none⟩ w3 fun r_4_2 =>
        LdI .i64 ⟨t6, 5, none⟩ w3 fun r_5_2 =>
        LdL ⟨t6, 6, none⟩ w3 fun r_6_b_2 r_6_l_2 r_6_c_2 =>
        R r_0_2 r_1_2 r_2_2 r_3_2 r_4_2 r_5_2 r_6_b_2 r_6_l_2 r_6_c_2 (2 : Int) w3) (
        (0 ≤ (6 : Int) ∧ (6 : Int) ≤ ((raw_c : Nat) : Int)) ∧
        (0 ≤ (8 : Int) ∧ (8 : Int) ≤ ((raw_l : Nat) : Int)) ∧
        ((
          seg_over.Call src dst (slBase raw_b ((0 : Nat) : Int) ((raw_c : Nat) : Int) 1) ((6 : Int).toNat - ((0 : Nat) : Int).toNat) (((raw_c : Nat) : Int).toNat - ((0 : Nat) : Int).toNat) (slBase raw_b (8 : Int) ((raw_c : Nat) : Int) 1) (((raw_l : Nat) : Int).toNat - (8 : Int).toNat) (((raw_c : Nat) : Int).toNat - (8 : Int).toNat) w.drew fun r41_0 r41_1 w4 =>
          New (.cells #[.int .u8 (0 : Int), .int .u8 (0 : Int)] 203) w4 fun b w5 =>
          Sts [.int .u8 r41_0, .int .u8 r41_1] ⟨b, 0, none⟩ 0 w5 fun w6 =>
          sB2 raw_b raw_l raw_c t6 none0 b w6) ∧ (
          New (.cells #[.int .u8 (0 : Int), .int .u8 (0 : Int)] 203) w.drew fun b_1 w7 =>
          seg_over.Call src dst (slBase raw_b ((0 : Nat) : Int) ((raw_c : Nat) : Int) 1) ((6 : Int).toNat - ((0 : Nat) : Int).toNat) (((raw_c : Nat) : Int).toNat - ((0 : Nat) : Int).toNat) (slBase raw_b (8 : Int) ((raw_c : Nat) : Int) 1) (((raw_l : Nat) : Int).toNat - (8 : Int).toNat) (((raw_c : Nat) : Int).toNat - (8 : Int).toNat) w7 fun r41_0_1 r41_1_1 w8 =>
          Sts [.int .u8 r41_0_1, .int .u8 r41_1_1] ⟨b_1, 0, none⟩ 0 w8 fun w9 =>
          sB2 raw_b raw_l raw_c t6 none0 b_1 w9)))))) = kstep Tryz.prog 91 Tryz.f115.results.toList (Tryz.f115.body.getD .skip) (seg_Decode.RV R) (kvc Tryz.prog 91 Tryz.f115.results.toList (Tryz.f115.body.getD .skip) (seg_Decode.RV R) [([(0, [1, 1, 1, 1, 1, 1])], fun σ w => dL (slotOf σ 2) fun raw_b_ raw_l_ raw_c_ => dK (slotOf σ 6) fun t6_ => dK (slotOf σ 8) fun none0_ => dK (slotOf σ 9) fun x_ => sB2 raw_b_ raw_l_ raw_c_ t6_ none0_ x_ w)] 2000) [(0, [1, 1, 0, 1]), (0, [1, 1, 1])] [(0, .int .i64 src), (1, .int .i64 dst), (2, .slice raw_b raw_l raw_c), (6, .pointer (some ⟨t6, 0, none⟩)), (8, .pointer (some ⟨none0, 0, none⟩)), (25, .bool t25)] w := by kernel_rfl
theorem seg_Decode.B1_sound {R : Int → Int → Int → Int → Int → Int → Option Addr → Nat → Nat → Int → World → Prop}  (src dst : Int) (raw_b : Option Addr) (raw_l raw_c t6 none0 : Nat) (t25 : Bool) (w : World) (h : seg_Decode.B1 src dst raw_b raw_l raw_c t6 none0 t25 w   R) :
    KW Tryz.prog 115 91 (seg_Decode.RV R) ([(0, [1, 1, 0, 1]), (0, [1, 1, 1])].map (toItem (Tryz.f115.body.getD .skip))) [(0, .int .i64 src), (1, .int .i64 dst), (2, .slice raw_b raw_l raw_c), (6, .pointer (some ⟨t6, 0, none⟩)), (8, .pointer (some ⟨none0, 0, none⟩)), (25, .bool t25)] w := by
  exact block_spec Tryz.func115 Tryz.mixed (stops_cons (fun σ w h => by
      obtain ⟨raw_b_, raw_l_, raw_c_, e0, h⟩ := dL_elim h
      obtain ⟨t6_, e1, h⟩ := dK_elim h
      obtain ⟨none0_, e2, h⟩ := dK_elim h
      obtain ⟨x_, e3, h⟩ := dK_elim h
      exact (seg_Decode.B2_sound  raw_b_ raw_l_ raw_c_ t6_ none0_ x_ w h).weaken (Sub.cons (Sub.cons (Sub.cons (Sub.cons (Sub.nil _) e3) e2) e1) e0)) stops_nil) (Eq.mp (seg_Decode.B1_eq src dst raw_b raw_l raw_c t6 none0 t25 w   R (fun raw_b_ raw_l_ raw_c_ t6_ none0_ x_ w => seg_Decode.B2 raw_b_ raw_l_ raw_c_ t6_ none0_ x_ w  R)) h)
def seg_Decode.B0 (src dst : Int) (raw_b : Option Addr) (raw_l raw_c : Nat) (w : World)   (R : Int → Int → Int → Int → Int → Int → Option Addr → Nat → Nat → Int → World → Prop) : Prop :=
  New (.cells #[.int .i64 (0 : Int), .int .i64 (0 : Int), .int .i64 (0 : Int), .int .i64 (0 : Int), .int .i64 (0 : Int), .int .i64 (0 : Int), .slice none 0 0] 177) w fun b6 w1 =>
  New (.cells #[.int .i64 (0 : Int), .int .i64 (0 : Int), .int .i64 (0 : Int), .int .i64 (0 : Int), .int .i64 (0 : Int), .int .i64 (0 : Int), .slice none 0 0] 177) w1 fun none0_ w2 =>
  Sts [.int .i64 (0 : Int), .int .i64 (0 : Int), .int .i64 (0 : Int), .int .i64 (0 : Int), .int .i64 (0 : Int), .int .i64 (0 : Int), .slice none 0 0] ⟨none0_, 0, none⟩ 0 w2 fun w3 =>
  Bm (decide (src < (0 : Int))) (
    seg_Decode.B1 src dst raw_b raw_l raw_c b6 none0_ true w3  R) (
    Bm (decide (src > (255 : Int))) (
      seg_Decode.B1 src dst raw_b raw_l raw_c b6 none0_ true w3  R) (
      Bm (decide (dst < (0 : Int))) (
        seg_Decode.B1 src dst raw_b raw_l raw_c b6 none0_ true w3  R) (
        seg_Decode.B1 src dst raw_b raw_l raw_c b6 none0_ (decide (dst > (255 : Int))) w3  R)))
theorem seg_Decode.B0_eq (src dst : Int) (raw_b : Option Addr) (raw_l raw_c : Nat) (w : World)   (R : Int → Int → Int → Int → Int → Int → Option Addr → Nat → Nat → Int → World → Prop) (sB1 : Int → Int → Option Addr → Nat → Nat → Nat → Nat → Bool → World → Prop) :
    (
  New (.cells #[.int .i64 (0 : Int), .int .i64 (0 : Int), .int .i64 (0 : Int), .int .i64 (0 : Int), .int .i64 (0 : Int), .int .i64 (0 : Int), .slice none 0 0] 177) w fun b6 w1 =>
  New (.cells #[.int .i64 (0 : Int), .int .i64 (0 : Int), .int .i64 (0 : Int), .int .i64 (0 : Int), .int .i64 (0 : Int), .int .i64 (0 : Int), .slice none 0 0] 177) w1 fun none0_ w2 =>
  Sts [.int .i64 (0 : Int), .int .i64 (0 : Int), .int .i64 (0 : Int), .int .i64 (0 : Int), .int .i64 (0 : Int), .int .i64 (0 : Int), .slice none 0 0] ⟨none0_, 0, none⟩ 0 w2 fun w3 =>
  Bm (decide (src < (0 : Int))) (
    sB1 src dst raw_b raw_l raw_c b6 none0_ true w3) (
    Bm (decide (src > (255 : Int))) (
      sB1 src dst raw_b raw_l raw_c b6 none0_ true w3) (
      Bm (decide (dst < (0 : Int))) (
        sB1 src dst raw_b raw_l raw_c b6 none0_ true w3) (
        sB1 src dst raw_b raw_l raw_c b6 none0_ (decide (dst > (255 : Int))) w3)))) = kstep Tryz.prog 91 Tryz.f115.results.toList (Tryz.f115.body.getD .skip) (seg_Decode.RV R) (kvc Tryz.prog 91 Tryz.f115.results.toList (Tryz.f115.body.getD .skip) (seg_Decode.RV R) [([(0, [1, 1, 0, 1]), (0, [1, 1, 1])], fun σ w => dI .i64 (slotOf σ 0) fun src_ => dI .i64 (slotOf σ 1) fun dst_ => dL (slotOf σ 2) fun raw_b_ raw_l_ raw_c_ => dK (slotOf σ 6) fun t6_ => dK (slotOf σ 8) fun none0_ => dB (slotOf σ 25) fun t25_ => sB1 src_ dst_ raw_b_ raw_l_ raw_c_ t6_ none0_ t25_ w)] 2000) [(0, [])] [(0, .int .i64 src), (1, .int .i64 dst), (2, .slice raw_b raw_l raw_c)] w := by kernel_rfl
theorem seg_Decode.B0_sound {R : Int → Int → Int → Int → Int → Int → Option Addr → Nat → Nat → Int → World → Prop}  (src dst : Int) (raw_b : Option Addr) (raw_l raw_c : Nat) (w : World) (h : seg_Decode.B0 src dst raw_b raw_l raw_c w   R) :
    KW Tryz.prog 115 91 (seg_Decode.RV R) ([(0, [])].map (toItem (Tryz.f115.body.getD .skip))) [(0, .int .i64 src), (1, .int .i64 dst), (2, .slice raw_b raw_l raw_c)] w := by
  exact block_spec Tryz.func115 Tryz.mixed (stops_cons (fun σ w h => by
      obtain ⟨src_, e0, h⟩ := dI_elim h
      obtain ⟨dst_, e1, h⟩ := dI_elim h
      obtain ⟨raw_b_, raw_l_, raw_c_, e2, h⟩ := dL_elim h
      obtain ⟨t6_, e3, h⟩ := dK_elim h
      obtain ⟨none0_, e4, h⟩ := dK_elim h
      obtain ⟨t25_, e5, h⟩ := dB_elim h
      exact (seg_Decode.B1_sound  src_ dst_ raw_b_ raw_l_ raw_c_ t6_ none0_ t25_ w h).weaken (Sub.cons (Sub.cons (Sub.cons (Sub.cons (Sub.cons (Sub.cons (Sub.nil _) e5) e4) e3) e2) e1) e0)) stops_nil) (Eq.mp (seg_Decode.B0_eq src dst raw_b raw_l raw_c w   R (fun src_ dst_ raw_b_ raw_l_ raw_c_ t6_ none0_ t25_ w => seg_Decode.B1 src_ dst_ raw_b_ raw_l_ raw_c_ t6_ none0_ t25_ w  R)) h)
theorem seg_Decode.sound (src dst : Int) (raw_b : Option Addr) (raw_l raw_c : Nat) (w : World) (R : Int → Int → Int → Int → Int → Int → Option Addr → Nat → Nat → Int → World → Prop) (h : seg_Decode.B0 src dst raw_b raw_l raw_c w R) : seg_Decode.Call src dst raw_b raw_l raw_c w R := by
  have hc := calls_of_block (args := #[.int .i64 src, .int .i64 dst, .slice raw_b raw_l raw_c]) Tryz.func115 (body := (Tryz.f115.body.getD .skip)) (by kernel_rfl) (by kernel_rfl) (args_slot _) (seg_Decode.B0_sound src dst raw_b raw_l raw_c w h)
  exact hc.mono fun e w' he => by
    obtain ⟨v, rfl, hv⟩ := he
    exact seg_Decode.RV_elim hv
def sock_Table_Lookup.B2 (t : Option Addr) (lport rhost rport j n : Int) (e : Nat) (t51 : Bool) (w : World) (N1 : Option Addr → Int → Int → Int → Int → Int → World → Prop)  (R : Int → World → Prop) : Prop :=
  Bm t51 (
    LdI .i64 ⟨e, 0, none⟩ w fun x53 =>
    R x53 w) (
    Pn t fun a =>
    (0 ≤ j ∧ j < ((6 : Nat) : Int)) ∧
    LdI .i64 ((Addr.add a (j.toNat * 15)).add 9) w fun x60 =>
    N1 t lport rhost rport x60 (IntKind.i64.wrap (n + (1 : Int))) w)
theorem sock_Table_Lookup.B2_eq (t : Option Addr) (lport rhost rport j n : Int) (e : Nat) (t51 : Bool) (w : World) (N1 : Option Addr → Int → Int → Int → Int → Int → World → Prop)  (R : Int → World → Prop)  :
    (
  Bm t51 (
    LdI .i64 ⟨e, 0, none⟩ w fun x53 =>
    R x53 w) (
    Pn t fun a =>
    (0 ≤ j ∧ j < ((6 : Nat) : Int)) ∧
    LdI .i64 ((Addr.add a (j.toNat * 15)).add 9) w fun x60 =>
    N1 t lport rhost rport x60 (IntKind.i64.wrap (n + (1 : Int))) w)) = kstep Tryz.prog 61 Tryz.f116.results.toList (Tryz.f116.body.getD .skip) (sock_Table_Lookup.RV R) (kvc Tryz.prog 61 Tryz.f116.results.toList (Tryz.f116.body.getD .skip) (sock_Table_Lookup.RV R) [([(0, [1, 1, 0, 1, 0, 0]), (2, [1, 1, 0, 1, 0, 0]), (1, [0]), (0, [1, 1, 1])], fun σ w => dP (slotOf σ 0) fun t_ => dI .i64 (slotOf σ 1) fun lport_ => dI .i64 (slotOf σ 2) fun rhost_ => dI .i64 (slotOf σ 3) fun rport_ => dI .i64 (slotOf σ 9) fun j_ => dI .i64 (slotOf σ 10) fun n_ => N1 t_ lport_ rhost_ rport_ j_ n_ w)] 2000) [(0, [1, 1, 0, 1, 0, 0, 1, 0, 0, 1, 0, 1]), (0, [1, 1, 0, 1, 0, 0, 1, 0, 0, 1, 1]), (1, [1]), (0, [1, 1, 0, 1, 0, 0, 1, 1]), (2, [1, 1, 0, 1, 0, 0]), (1, [0]), (0, [1, 1, 1])] [(0, .pointer t), (1, .int .i64 lport), (2, .int .i64 rhost), (3, .int .i64 rport), (9, .int .i64 j), (10, .int .i64 n), (11, .pointer (some ⟨e, 0, none⟩)), (51, .bool t51)] w := by kernel_rfl
theorem sock_Table_Lookup.B2_sound {R : Int → World → Prop} {N1 : Option Addr → Int → Int → Int → Int → Int → World → Prop} (hN1 : ∀ t lport rhost rport j n w, N1 t lport rhost rport j n w → KW Tryz.prog 116 61 (sock_Table_Lookup.RV R) ([(0, [1, 1, 0, 1, 0, 0]), (2, [1, 1, 0, 1, 0, 0]), (1, [0]), (0, [1, 1, 1])].map (toItem (Tryz.f116.body.getD .skip))) [(0, .pointer t), (1, .int .i64 lport), (2, .int .i64 rhost), (3, .int .i64 rport), (9, .int .i64 j), (10, .int .i64 n)] w) (t : Option Addr) (lport rhost rport j n : Int) (e : Nat) (t51 : Bool) (w : World) (h : sock_Table_Lookup.B2 t lport rhost rport j n e t51 w N1  R) :
    KW Tryz.prog 116 61 (sock_Table_Lookup.RV R) ([(0, [1, 1, 0, 1, 0, 0, 1, 0, 0, 1, 0, 1]), (0, [1, 1, 0, 1, 0, 0, 1, 0, 0, 1, 1]), (1, [1]), (0, [1, 1, 0, 1, 0, 0, 1, 1]), (2, [1, 1, 0, 1, 0, 0]), (1, [0]), (0, [1, 1, 1])].map (toItem (Tryz.f116.body.getD .skip))) [(0, .pointer t), (1, .int .i64 lport), (2, .int .i64 rhost), (3, .int .i64 rport), (9, .int .i64 j), (10, .int .i64 n), (11, .pointer (some ⟨e, 0, none⟩)), (51, .bool t51)] w := by
  exact block_spec Tryz.func116 Tryz.mixed (stops_cons (fun σ w h => by
      obtain ⟨t_, e0, h⟩ := dP_elim h
      obtain ⟨lport_, e1, h⟩ := dI_elim h
      obtain ⟨rhost_, e2, h⟩ := dI_elim h
      obtain ⟨rport_, e3, h⟩ := dI_elim h
      obtain ⟨j_, e4, h⟩ := dI_elim h
      obtain ⟨n_, e5, h⟩ := dI_elim h
      exact (hN1 t_ lport_ rhost_ rport_ j_ n_ w h).weaken (Sub.cons (Sub.cons (Sub.cons (Sub.cons (Sub.cons (Sub.cons (Sub.nil _) e5) e4) e3) e2) e1) e0)) stops_nil) (Eq.mp (sock_Table_Lookup.B2_eq t lport rhost rport j n e t51 w N1  R ) h)
def sock_Table_Lookup.B1 (t : Option Addr) (lport rhost rport j n : Int) (t26 : Bool) (w : World) (N1 : Option Addr → Int → Int → Int → Int → Int → World → Prop)  (R : Int → World → Prop) : Prop :=
  Bm t26 (
    Pn t fun a =>
    (0 ≤ j ∧ j < ((6 : Nat) : Int)) ∧
    LdI .i64 ((Addr.add a (j.toNat * 15)).add 1) w fun x35_0 =>
    LdI .i64 (((Addr.add a (j.toNat * 15)).add 1).add 1) w fun x35_1 =>
    LdI .i64 (((Addr.add a (j.toNat * 15)).add 1).add 2) w fun x35_2 =>
    LdI .i64 (((Addr.add a (j.toNat * 15)).add 1).add 3) w fun x35_3 =>
    LdI .i64 (((Addr.add a (j.toNat * 15)).add 1).add 4) w fun x35_4 =>
    LdI .i64 (((Addr.add a (j.toNat * 15)).add 1).add 5) w fun x35_5 =>
    LdI .i64 (((Addr.add a (j.toNat * 15)).add 1).add 6) w fun x35_6 =>
    LdB (((Addr.add a (j.toNat * 15)).add 1).add 7) w fun x35_7 =>
    New (.cells #[.int .i64 (0 : Int), .int .i64 (0 : Int), .int .i64 (0 : Int), .int .i64 (0 : Int), .int .i64 (0 : Int), .int .i64 (0 : Int), .int .i64 (0 : Int), .bool false] 66) w fun e_ w1 =>
    Sts [.int .i64 x35_0, .int .i64 x35_1, .int .i64 x35_2, .int .i64 x35_3, .int .i64 x35_4, .int .i64 x35_5, .int .i64 x35_6, .bool x35_7] ⟨e_, 0, none⟩ 0 w1 fun w2 =>
    LdI .i64 ⟨e_, 2, none⟩ w2 fun x37 =>
    Bm (x37 == lport) (
      LdI .i64 ⟨e_, 3, none⟩ w2 fun x42 =>
      Bm (x42 == rhost) (
        LdI .i64 ⟨e_, 4, none⟩ w2 fun x48 =>
        sock_Table_Lookup.B2 t lport rhost rport j n e_ (x48 == rport) w2 N1 R) (
        sock_Table_Lookup.B2 t lport rhost rport j n e_ false w2 N1 R)) (
      sock_Table_Lookup.B2 t lport rhost rport j n e_ false w2 N1 R)) (
    R (0 : Int) w)
theorem sock_Table_Lookup.B1_eq (t : Option Addr) (lport rhost rport j n : Int) (t26 : Bool) (w : World) (N1 : Option Addr → Int → Int → Int → Int → Int → World → Prop)  (R : Int → World → Prop) (sB2 : Option Addr → Int → Int → Int → Int → Int → Nat → Bool → World → Prop) :
    (
  Bm t26 (
    Pn t fun a =>
    (0 ≤ j ∧ j < ((6 : Nat) : Int)) ∧
    LdI .i64 ((Addr.add a (j.toNat * 15)).add 1) w fun x35_0 =>
    LdI .i64 (((Addr.add a (j.toNat * 15)).add 1).add 1) w fun x35_1 =>
    LdI .i64 (((Addr.add a (j.toNat * 15)).add 1).add 2) w fun x35_2 =>
    LdI .i64 (((Addr.add a (j.toNat * 15)).add 1).add 3) w fun x35_3 =>
    LdI .i64 (((Addr.add a (j.toNat * 15)).add 1).add 4) w fun x35_4 =>
    LdI .i64 (((Addr.add a (j.toNat * 15)).add 1).add 5) w fun x35_5 =>
    LdI .i64 (((Addr.add a (j.toNat * 15)).add 1).add 6) w fun x35_6 =>
    LdB (((Addr.add a (j.toNat * 15)).add 1).add 7) w fun x35_7 =>
    New (.cells #[.int .i64 (0 : Int), .int .i64 (0 : Int), .int .i64 (0 : Int), .int .i64 (0 : Int), .int .i64 (0 : Int), .int .i64 (0 : Int), .int .i64 (0 : Int), .bool false] 66) w fun e_ w1 =>
    Sts [.int .i64 x35_0, .int .i64 x35_1, .int .i64 x35_2, .int .i64 x35_3, .int .i64 x35_4, .int .i64 x35_5, .int .i64 x35_6, .bool x35_7] ⟨e_, 0, none⟩ 0 w1 fun w2 =>
    LdI .i64 ⟨e_, 2, none⟩ w2 fun x37 =>
    Bm (x37 == lport) (
      LdI .i64 ⟨e_, 3, none⟩ w2 fun x42 =>
      Bm (x42 == rhost) (
        LdI .i64 ⟨e_, 4, none⟩ w2 fun x48 =>
        sB2 t lport rhost rport j n e_ (x48 == rport) w2) (
        sB2 t lport rhost rport j n e_ false w2)) (
      sB2 t lport rhost rport j n e_ false w2)) (
    R (0 : Int) w)) = kstep Tryz.prog 61 Tryz.f116.results.toList (Tryz.f116.body.getD .skip) (sock_Table_Lookup.RV R) (kvc Tryz.prog 61 Tryz.f116.results.toList (Tryz.f116.body.getD .skip) (sock_Table_Lookup.RV R) [([(0, [1, 1, 0, 1, 0, 0, 1, 0, 0, 1, 0, 1]), (0, [1, 1, 0, 1, 0, 0, 1, 0, 0, 1, 1]), (1, [1]), (0, [1, 1, 0, 1, 0, 0, 1, 1]), (2, [1, 1, 0, 1, 0, 0]), (1, [0]), (0, [1, 1, 1])], fun σ w => dP (slotOf σ 0) fun t_ => dI .i64 (slotOf σ 1) fun lport_ => dI .i64 (slotOf σ 2) fun rhost_ => dI .i64 (slotOf σ 3) fun rport_ => dI .i64 (slotOf σ 9) fun j_ => dI .i64 (slotOf σ 10) fun n_ => dK (slotOf σ 11) fun e_ => dB (slotOf σ 51) fun t51_ => sB2 t_ lport_ rhost_ rport_ j_ n_ e_ t51_ w)] 2000) [(0, [1, 1, 0, 1, 0, 0, 0, 1]), (0, [1, 1, 0, 1, 0, 0, 1]), (2, [1, 1, 0, 1, 0, 0]), (1, [0]), (0, [1, 1, 1])] [(0, .pointer t), (1, .int .i64 lport), (2, .int .i64 rhost), (3, .int .i64 rport), (9, .int .i64 j), (10, .int .i64 n), (26, .bool t26)] w := by kernel_rfl
theorem sock_Table_Lookup.B1_sound {R : Int → World → Prop} {N1 : Option Addr → Int → Int → Int → Int → Int → World → Prop} (hN1 : ∀ t lport rhost rport j n w, N1 t lport rhost rport j n w → KW Tryz.prog 116 61 (sock_Table_Lookup.RV R) ([(0, [1, 1, 0, 1, 0, 0]), (2, [1, 1, 0, 1, 0, 0]), (1, [0]), (0, [1, 1, 1])].map (toItem (Tryz.f116.body.getD .skip))) [(0, .pointer t), (1, .int .i64 lport), (2, .int .i64 rhost), (3, .int .i64 rport), (9, .int .i64 j), (10, .int .i64 n)] w) (t : Option Addr) (lport rhost rport j n : Int) (t26 : Bool) (w : World) (h : sock_Table_Lookup.B1 t lport rhost rport j n t26 w N1  R) :
    KW Tryz.prog 116 61 (sock_Table_Lookup.RV R) ([(0, [1, 1, 0, 1, 0, 0, 0, 1]), (0, [1, 1, 0, 1, 0, 0, 1]), (2, [1, 1, 0, 1, 0, 0]), (1, [0]), (0, [1, 1, 1])].map (toItem (Tryz.f116.body.getD .skip))) [(0, .pointer t), (1, .int .i64 lport), (2, .int .i64 rhost), (3, .int .i64 rport), (9, .int .i64 j), (10, .int .i64 n), (26, .bool t26)] w := by
  exact block_spec Tryz.func116 Tryz.mixed (stops_cons (fun σ w h => by
      obtain ⟨t_, e0, h⟩ := dP_elim h
      obtain ⟨lport_, e1, h⟩ := dI_elim h
      obtain ⟨rhost_, e2, h⟩ := dI_elim h
      obtain ⟨rport_, e3, h⟩ := dI_elim h
      obtain ⟨j_, e4, h⟩ := dI_elim h
      obtain ⟨n_, e5, h⟩ := dI_elim h
      obtain ⟨e_, e6, h⟩ := dK_elim h
      obtain ⟨t51_, e7, h⟩ := dB_elim h
      exact (sock_Table_Lookup.B2_sound hN1 t_ lport_ rhost_ rport_ j_ n_ e_ t51_ w h).weaken (Sub.cons (Sub.cons (Sub.cons (Sub.cons (Sub.cons (Sub.cons (Sub.cons (Sub.cons (Sub.nil _) e7) e6) e5) e4) e3) e2) e1) e0)) stops_nil) (Eq.mp (sock_Table_Lookup.B1_eq t lport rhost rport j n t26 w N1  R (fun t_ lport_ rhost_ rport_ j_ n_ e_ t51_ w => sock_Table_Lookup.B2 t_ lport_ rhost_ rport_ j_ n_ e_ t51_ w N1 R)) h)
def sock_Table_Lookup.L1b (t : Option Addr) (lport rhost rport j n : Int) (w : World)  (N1 : Option Addr → Int → Int → Int → Int → Int → World → Prop) (R : Int → World → Prop) : Prop :=
  Bm (j != (-1 : Int)) (
    sock_Table_Lookup.B1 t lport rhost rport j n (decide (n < (6 : Int))) w N1 R) (
    sock_Table_Lookup.B1 t lport rhost rport j n false w N1 R)
theorem sock_Table_Lookup.L1b_eq (t : Option Addr) (lport rhost rport j n : Int) (w : World)  (N1 : Option Addr → Int → Int → Int → Int → Int → World → Prop) (R : Int → World → Prop) (sB1 : Option Addr → Int → Int → Int → Int → Int → Bool → World → Prop) :
    (
  Bm (j != (-1 : Int)) (
    sB1 t lport rhost rport j n (decide (n < (6 : Int))) w) (
    sB1 t lport rhost rport j n false w)) = kstep Tryz.prog 61 Tryz.f116.results.toList (Tryz.f116.body.getD .skip) (sock_Table_Lookup.RV R) (kvc Tryz.prog 61 Tryz.f116.results.toList (Tryz.f116.body.getD .skip) (sock_Table_Lookup.RV R) [([(0, [1, 1, 0, 1, 0, 0, 0, 1]), (0, [1, 1, 0, 1, 0, 0, 1]), (2, [1, 1, 0, 1, 0, 0]), (1, [0]), (0, [1, 1, 1])], fun σ w => dP (slotOf σ 0) fun t_ => dI .i64 (slotOf σ 1) fun lport_ => dI .i64 (slotOf σ 2) fun rhost_ => dI .i64 (slotOf σ 3) fun rport_ => dI .i64 (slotOf σ 9) fun j_ => dI .i64 (slotOf σ 10) fun n_ => dB (slotOf σ 26) fun t26_ => sB1 t_ lport_ rhost_ rport_ j_ n_ t26_ w)] 2000) [(0, [1, 1, 0, 1, 0, 0]), (2, [1, 1, 0, 1, 0, 0]), (1, [0]), (0, [1, 1, 1])] [(0, .pointer t), (1, .int .i64 lport), (2, .int .i64 rhost), (3, .int .i64 rport), (9, .int .i64 j), (10, .int .i64 n)] w := by kernel_rfl
theorem sock_Table_Lookup.L1b_sound {R : Int → World → Prop} {N1 : Option Addr → Int → Int → Int → Int → Int → World → Prop} (hN1 : ∀ t lport rhost rport j n w, N1 t lport rhost rport j n w → KW Tryz.prog 116 61 (sock_Table_Lookup.RV R) ([(0, [1, 1, 0, 1, 0, 0]), (2, [1, 1, 0, 1, 0, 0]), (1, [0]), (0, [1, 1, 1])].map (toItem (Tryz.f116.body.getD .skip))) [(0, .pointer t), (1, .int .i64 lport), (2, .int .i64 rhost), (3, .int .i64 rport), (9, .int .i64 j), (10, .int .i64 n)] w) (t : Option Addr) (lport rhost rport j n : Int) (w : World) (h : sock_Table_Lookup.L1b t lport rhost rport j n w  N1 R) :
    KW Tryz.prog 116 61 (sock_Table_Lookup.RV R) ([(0, [1, 1, 0, 1, 0, 0]), (2, [1, 1, 0, 1, 0, 0]), (1, [0]), (0, [1, 1, 1])].map (toItem (Tryz.f116.body.getD .skip))) [(0, .pointer t), (1, .int .i64 lport), (2, .int .i64 rhost), (3, .int .i64 rport), (9, .int .i64 j), (10, .int .i64 n)] w := by
  exact block_spec Tryz.func116 Tryz.mixed (stops_cons (fun σ w h => by
      obtain ⟨t_, e0, h⟩ := dP_elim h
      obtain ⟨lport_, e1, h⟩ := dI_elim h
      obtain ⟨rhost_, e2, h⟩ := dI_elim h
      obtain ⟨rport_, e3, h⟩ := dI_elim h
      obtain ⟨j_, e4, h⟩ := dI_elim h
      obtain ⟨n_, e5, h⟩ := dI_elim h
      obtain ⟨t26_, e6, h⟩ := dB_elim h
      exact (sock_Table_Lookup.B1_sound hN1 t_ lport_ rhost_ rport_ j_ n_ t26_ w h).weaken (Sub.cons (Sub.cons (Sub.cons (Sub.cons (Sub.cons (Sub.cons (Sub.cons (Sub.nil _) e6) e5) e4) e3) e2) e1) e0)) stops_nil) (Eq.mp (sock_Table_Lookup.L1b_eq t lport rhost rport j n w  N1 R (fun t_ lport_ rhost_ rport_ j_ n_ t26_ w => sock_Table_Lookup.B1 t_ lport_ rhost_ rport_ j_ n_ t26_ w N1 R)) h)
def sock_Table_Lookup.L1 (t : Option Addr) (lport rhost rport j n : Int) (w : World)  (R : Int → World → Prop) : Prop :=
  ∃ (I : Nat → Option Addr → Int → Int → Int → Int → Int → World → Prop) (m : Nat), I m t lport rhost rport j n w ∧ ∀ m t lport rhost rport j n w, I m t lport rhost rport j n w → sock_Table_Lookup.L1b t lport rhost rport j n w  (fun t' lport' rhost' rport' j' n' w' => ∃ m', m' < m ∧ I m' t' lport' rhost' rport' j' n' w') R
theorem sock_Table_Lookup.L1_sound {R : Int → World → Prop}  (t : Option Addr) (lport rhost rport j n : Int) (w : World) (h : sock_Table_Lookup.L1 t lport rhost rport j n w  R) :
    KW Tryz.prog 116 61 (sock_Table_Lookup.RV R) ([(0, [1, 1, 0, 1, 0, 0]), (2, [1, 1, 0, 1, 0, 0]), (1, [0]), (0, [1, 1, 1])].map (toItem (Tryz.f116.body.getD .skip))) [(0, .pointer t), (1, .int .i64 lport), (2, .int .i64 rhost), (3, .int .i64 rport), (9, .int .i64 j), (10, .int .i64 n)] w := by
  obtain ⟨I, m, hBase, hr⟩ := h
  refine KW.loop (fun m σ w => ∃ (t : Option Addr) (lport rhost rport j n : Int), σ = [(0, .pointer t), (1, .int .i64 lport), (2, .int .i64 rhost), (3, .int .i64 rport), (9, .int .i64 j), (10, .int .i64 n)] ∧ I m t lport rhost rport j n w) ?_ m _ w ⟨t, lport, rhost, rport, j, n, rfl, hBase⟩
  rintro m ih σ w ⟨t, lport, rhost, rport, j, n, rfl, hI⟩
  exact sock_Table_Lookup.L1b_sound  (N1 := fun t' lport' rhost' rport' j' n' w' => ∃ m', m' < m ∧ I m' t' lport' rhost' rport' j' n' w') (fun t' lport' rhost' rport' j' n' w' hx => by obtain ⟨m', hlt, hI'⟩ := hx; exact ih m' hlt _ w' ⟨t', lport', rhost', rport', j', n', rfl, hI'⟩) t lport rhost rport j n w (hr m t lport rhost rport j n w hI)
def sock_Table_Lookup.B0 (t : Option Addr) (lport rhost rport : Int) (w : World)   (R : Int → World → Prop) : Prop :=
  Pn t fun a =>
  sock_hash.Call lport rhost rport w.drew fun r16 w1 =>
  (0 ≤ r16 ∧ r16 < ((4 : Nat) : Int)) ∧
  LdI .i64 (Addr.add (a.add 91) (r16.toNat * 1)) w1 fun x20 =>
  sock_Table_Lookup.L1 t lport rhost rport x20 (0 : Int) w1  R
theorem sock_Table_Lookup.B0_eq (t : Option Addr) (lport rhost rport : Int) (w : World)   (R : Int → World → Prop) (sL1 : Option Addr → Int → Int → Int → Int → Int → World → Prop) :
    (
  Pn t fun a =>
  sock_hash.Call lport rhost rport w.drew fun r16 w1 =>
  (0 ≤ r16 ∧ r16 < ((4 : Nat) : Int)) ∧
  LdI .i64 (Addr.add (a.add 91) (r16.toNat * 1)) w1 fun x20 =>
  sL1 t lport rhost rport x20 (0 : Int) w1) = kstep Tryz.prog 61 Tryz.f116.results.toList (Tryz.f116.body.getD .skip) (sock_Table_Lookup.RV R) (kvc Tryz.prog 61 Tryz.f116.results.toList (Tryz.f116.body.getD .skip) (sock_Table_Lookup.RV R) [([(0, [1, 1, 0, 1, 0, 0]), (2, [1, 1, 0, 1, 0, 0]), (1, [0]), (0, [1, 1, 1])], fun σ w => dP (slotOf σ 0) fun t_ => dI .i64 (slotOf σ 1) fun lport_ => dI .i64 (slotOf σ 2) fun rhost_ => dI .i64 (slotOf σ 3) fun rport_ => dI .i64 (slotOf σ 9) fun j_ => dI .i64 (slotOf σ 10) fun n_ => sL1 t_ lport_ rhost_ rport_ j_ n_ w)] 2000) [(0, [])] [(0, .pointer t), (1, .int .i64 lport), (2, .int .i64 rhost), (3, .int .i64 rport)] w := by kernel_rfl
theorem sock_Table_Lookup.B0_sound {R : Int → World → Prop}  (t : Option Addr) (lport rhost rport : Int) (w : World) (h : sock_Table_Lookup.B0 t lport rhost rport w   R) :
    KW Tryz.prog 116 61 (sock_Table_Lookup.RV R) ([(0, [])].map (toItem (Tryz.f116.body.getD .skip))) [(0, .pointer t), (1, .int .i64 lport), (2, .int .i64 rhost), (3, .int .i64 rport)] w := by
  exact block_spec Tryz.func116 Tryz.mixed (stops_cons (fun σ w h => by
      obtain ⟨t_, e0, h⟩ := dP_elim h
      obtain ⟨lport_, e1, h⟩ := dI_elim h
      obtain ⟨rhost_, e2, h⟩ := dI_elim h
      obtain ⟨rport_, e3, h⟩ := dI_elim h
      obtain ⟨j_, e4, h⟩ := dI_elim h
      obtain ⟨n_, e5, h⟩ := dI_elim h
      exact (sock_Table_Lookup.L1_sound  t_ lport_ rhost_ rport_ j_ n_ w h).weaken (Sub.cons (Sub.cons (Sub.cons (Sub.cons (Sub.cons (Sub.cons (Sub.nil _) e5) e4) e3) e2) e1) e0)) stops_nil) (Eq.mp (sock_Table_Lookup.B0_eq t lport rhost rport w   R (fun t_ lport_ rhost_ rport_ j_ n_ w => sock_Table_Lookup.L1 t_ lport_ rhost_ rport_ j_ n_ w  R)) h)
theorem sock_Table_Lookup.sound (t : Option Addr) (lport rhost rport : Int) (w : World) (R : Int → World → Prop) (h : sock_Table_Lookup.B0 t lport rhost rport w R) : sock_Table_Lookup.Call t lport rhost rport w R := by
  have hc := calls_of_block (args := #[.pointer t, .int .i64 lport, .int .i64 rhost, .int .i64 rport]) Tryz.func116 (body := (Tryz.f116.body.getD .skip)) (by kernel_rfl) (by kernel_rfl) (args_slot _) (sock_Table_Lookup.B0_sound t lport rhost rport w h)
  exact hc.mono fun e w' he => by
    obtain ⟨v, rfl, hv⟩ := he
    exact sock_Table_Lookup.RV_elim hv
def host_Host_toRow.B2 (h0 out_b : Option Addr) (out_l out_c en : Nat) (segs_b : Option Addr) (segs_l segs_c : Nat) (w : World)   (R : Option Addr → Nat → Nat → World → Prop) : Prop :=
  LdI .i64 ⟨en, 0, none⟩ w fun x61_0 =>
  LdI .i64 ⟨en, 1, none⟩ w fun x61_1 =>
  LdI .i64 ⟨en, 2, none⟩ w fun x61_2 =>
  LdI .i64 ⟨en, 3, none⟩ w fun x61_3 =>
  LdI .i64 ⟨en, 4, none⟩ w fun x61_4 =>
  LdI .i64 ⟨en, 5, none⟩ w fun x61_5 =>
  LdI .i64 ⟨en, 6, none⟩ w fun x61_6 =>
  LdB ⟨en, 7, none⟩ w fun x61_7 =>
  host_Host_emit.Call h0 out_b out_l out_c x61_0 x61_1 x61_2 x61_3 x61_4 x61_5 x61_6 x61_7 segs_b segs_l segs_c w fun r63_b r63_l r63_c w1 =>
  R r63_b r63_l r63_c w1
theorem host_Host_toRow.B2_eq (h0 out_b : Option Addr) (out_l out_c en : Nat) (segs_b : Option Addr) (segs_l segs_c : Nat) (w : World)   (R : Option Addr → Nat → Nat → World → Prop)  :
    (
  LdI .i64 ⟨en, 0, none⟩ w fun x61_0 =>
  LdI .i64 ⟨en, 1, none⟩ w fun x61_1 =>
  LdI .i64 ⟨en, 2, none⟩ w fun x61_2 =>
  LdI .i64 ⟨en, 3, none⟩ w fun x61_3 =>
  LdI .i64 ⟨en, 4, none⟩ w fun x61_4 =>
  LdI .i64 ⟨en, 5, none⟩ w fun x61_5 =>
  LdI .i64 ⟨en, 6, none⟩ w fun x61_6 =>
  LdB ⟨en, 7, none⟩ w fun x61_7 =>
  host_Host_emit.Call h0 out_b out_l out_c x61_0 x61_1 x61_2 x61_3 x61_4 x61_5 x61_6 x61_7 segs_b segs_l segs_c w fun r63_b r63_l r63_c w1 =>
  R r63_b r63_l r63_c w1) = kstep Tryz.prog 64 Tryz.f117.results.toList (Tryz.f117.body.getD .skip) (host_Host_toRow.RV R) (kvc Tryz.prog 64 Tryz.f117.results.toList (Tryz.f117.body.getD .skip) (host_Host_toRow.RV R) [] 2000) [(0, [1, 1, 1, 1, 1])] [(0, .pointer h0), (1, .slice out_b out_l out_c), (9, .pointer (some ⟨en, 0, none⟩)), (11, .slice segs_b segs_l segs_c)] w := by kernel_rfl
theorem host_Host_toRow.B2_sound {R : Option Addr → Nat → Nat → World → Prop}  (h0 out_b : Option Addr) (out_l out_c en : Nat) (segs_b : Option Addr) (segs_l segs_c : Nat) (w : World) (h : host_Host_toRow.B2 h0 out_b out_l out_c en segs_b segs_l segs_c w   R) :
    KW Tryz.prog 117 64 (host_Host_toRow.RV R) ([(0, [1, 1, 1, 1, 1])].map (toItem (Tryz.f117.body.getD .skip))) [(0, .pointer h0), (1, .slice out_b out_l out_c), (9, .pointer (some ⟨en, 0, none⟩)), (11, .slice segs_b segs_l segs_c)] w := by
  exact block_spec Tryz.func117 Tryz.mixed stops_nil (Eq.mp (host_Host_toRow.B2_eq h0 out_b out_l out_c en segs_b segs_l segs_c w   R ) h)
def host_Host_toRow.B1 (h0 out_b : Option Addr) (out_l out_c : Nat) (sd : Int) (en : Nat) (segs_b : Option Addr) (segs_l segs_c : Nat) (t40 : Bool) (w : World)   (R : Option Addr → Nat → Nat → World → Prop) : Prop :=
  Bm t40 (
    LdI .i64 ⟨en, 5, none⟩ w.drew fun x43 =>
    Pn h0 fun a =>
    (0 ≤ x43 ∧ x43 < ((4 : Nat) : Int)) ∧
    LdP (Addr.add (a.add 13) (x43.toNat * 1)) w.drew fun x47 =>
    conn_Conn_Info.Call x47 w.drew fun r48 w1 =>
    Pn r48 fun a_1 =>
    LdI .i64 a_1 w1 fun x51 =>
    Bm (x51 == (3 : Int)) (
      Pn h0 fun a_2 =>
      LdP (a_2.add 17) w1 fun x56 =>
      sock_Table_Ready.Call x56 sd w1 fun r58 w2 =>
      host_Host_toRow.B2 h0 out_b out_l out_c en segs_b segs_l segs_c w2  R) (
      host_Host_toRow.B2 h0 out_b out_l out_c en segs_b segs_l segs_c w1  R)) (
    host_Host_toRow.B2 h0 out_b out_l out_c en segs_b segs_l segs_c w  R)
theorem host_Host_toRow.B1_eq (h0 out_b : Option Addr) (out_l out_c : Nat) (sd : Int) (en : Nat) (segs_b : Option Addr) (segs_l segs_c : Nat) (t40 : Bool) (w : World)   (R : Option Addr → Nat → Nat → World → Prop) (sB2 : Option Addr → Option Addr → Nat → Nat → Nat → Option Addr → Nat → Nat → World → Prop) :
    (
  Bm t40 (
    LdI .i64 ⟨en, 5, none⟩ w.drew fun x43 =>
    Pn h0 fun a =>
    (0 ≤ x43 ∧ x43 < ((4 : Nat) : Int)) ∧
    LdP (Addr.add (a.add 13) (x43.toNat * 1)) w.drew fun x47 =>
    conn_Conn_Info.Call x47 w.drew fun r48 w1 =>
    Pn r48 fun a_1 =>
    LdI .i64 a_1 w1 fun x51 =>
    Bm (x51 == (3 : Int)) (
      Pn h0 fun a_2 =>
      LdP (a_2.add 17) w1 fun x56 =>
      sock_Table_Ready.Call x56 sd w1 fun r58 w2 =>
      sB2 h0 out_b out_l out_c en segs_b segs_l segs_c w2) (
      sB2 h0 out_b out_l out_c en segs_b segs_l segs_c w1)) (
    sB2 h0 out_b out_l out_c en segs_b segs_l segs_c w)) = kstep Tryz.prog 64 Tryz.f117.results.toList (Tryz.f117.body.getD .skip) (host_Host_toRow.RV R) (kvc Tryz.prog 64 Tryz.f117.results.toList (Tryz.f117.body.getD .skip) (host_Host_toRow.RV R) [([(0, [1, 1, 1, 1, 1])], fun σ w => dP (slotOf σ 0) fun h0_ => dL (slotOf σ 1) fun out_b_ out_l_ out_c_ => dK (slotOf σ 9) fun en_ => dL (slotOf σ 11) fun segs_b_ segs_l_ segs_c_ => sB2 h0_ out_b_ out_l_ out_c_ en_ segs_b_ segs_l_ segs_c_ w)] 2000) [(0, [1, 1, 1, 1, 0, 1]), (0, [1, 1, 1, 1, 1])] [(0, .pointer h0), (1, .slice out_b out_l out_c), (2, .int .i64 sd), (9, .pointer (some ⟨en, 0, none⟩)), (11, .slice segs_b segs_l segs_c), (40, .bool t40)] w := by kernel_rfl
theorem host_Host_toRow.B1_sound {R : Option Addr → Nat → Nat → World → Prop}  (h0 out_b : Option Addr) (out_l out_c : Nat) (sd : Int) (en : Nat) (segs_b : Option Addr) (segs_l segs_c : Nat) (t40 : Bool) (w : World) (h : host_Host_toRow.B1 h0 out_b out_l out_c sd en segs_b segs_l segs_c t40 w   R) :
    KW Tryz.prog 117 64 (host_Host_toRow.RV R) ([(0, [1, 1, 1, 1, 0, 1]), (0, [1, 1, 1, 1, 1])].map (toItem (Tryz.f117.body.getD .skip))) [(0, .pointer h0), (1, .slice out_b out_l out_c), (2, .int .i64 sd), (9, .pointer (some ⟨en, 0, none⟩)), (11, .slice segs_b segs_l segs_c), (40, .bool t40)] w := by
  exact block_spec Tryz.func117 Tryz.mixed (stops_cons (fun σ w h => by
      obtain ⟨h0_, e0, h⟩ := dP_elim h
      obtain ⟨out_b_, out_l_, out_c_, e1, h⟩ := dL_elim h
      obtain ⟨en_, e2, h⟩ := dK_elim h
      obtain ⟨segs_b_, segs_l_, segs_c_, e3, h⟩ := dL_elim h
      exact (host_Host_toRow.B2_sound  h0_ out_b_ out_l_ out_c_ en_ segs_b_ segs_l_ segs_c_ w h).weaken (Sub.cons (Sub.cons (Sub.cons (Sub.cons (Sub.nil _) e3) e2) e1) e0)) stops_nil) (Eq.mp (host_Host_toRow.B1_eq h0 out_b out_l out_c sd en segs_b segs_l segs_c t40 w   R (fun h0_ out_b_ out_l_ out_c_ en_ segs_b_ segs_l_ segs_c_ w => host_Host_toRow.B2 h0_ out_b_ out_l_ out_c_ en_ segs_b_ segs_l_ segs_c_ w  R)) h)
def host_Host_toRow.B0 (h0 out_b : Option Addr) (out_l out_c : Nat) (sd s_0 s_1 s_2 s_3 s_4 s_5 : Int) (s_6_b : Option Addr) (s_6_l s_6_c : Nat) (w : World)   (R : Option Addr → Nat → Nat → World → Prop) : Prop :=
  New (.cells #[.int .i64 s_0, .int .i64 s_1, .int .i64 s_2, .int .i64 s_3, .int .i64 s_4, .int .i64 s_5, .slice s_6_b s_6_l s_6_c] 177) w fun s_ w1 =>
  Pn h0 fun a =>
  LdP (a.add 17) w1 fun x16 =>
  sock_Table_Get.Call x16 sd w1 fun r18_0_0 r18_0_1 r18_0_2 r18_0_3 r18_0_4 r18_0_5 r18_0_6 r18_0_7 r18_1 w2 =>
  New (.cells #[.int .i64 (0 : Int), .int .i64 (0 : Int), .int .i64 (0 : Int), .int .i64 (0 : Int), .int .i64 (0 : Int), .int .i64 (0 : Int), .int .i64 (0 : Int), .bool false] 66) w2 fun en_ w3 =>
  Sts [.int .i64 r18_0_0, .int .i64 r18_0_1, .int .i64 r18_0_2, .int .i64 r18_0_3, .int .i64 r18_0_4, .int .i64 r18_0_5, .int .i64 r18_0_6, .bool r18_0_7] ⟨en_, 0, none⟩ 0 w3 fun w4 =>
  Bm (r18_1 != (0 : Int)) (
    R out_b out_l out_c w4) (
    LdI .i64 ⟨en_, 5, none⟩ w4.drew fun x26 =>
    Pn h0 fun a_1 =>
    (0 ≤ x26 ∧ x26 < ((4 : Nat) : Int)) ∧
    LdP (Addr.add (a_1.add 13) (x26.toNat * 1)) w4.drew fun x30 =>
    LdI .i64 ⟨s_, 0, none⟩ w4.drew fun x31_0 =>
    LdI .i64 ⟨s_, 1, none⟩ w4.drew fun x31_1 =>
    LdI .i64 ⟨s_, 2, none⟩ w4.drew fun x31_2 =>
    LdI .i64 ⟨s_, 3, none⟩ w4.drew fun x31_3 =>
    LdI .i64 ⟨s_, 4, none⟩ w4.drew fun x31_4 =>
    LdI .i64 ⟨s_, 5, none⟩ w4.drew fun x31_5 =>
    LdL ⟨s_, 6, none⟩ w4.drew fun x31_6_b x31_6_l x31_6_c =>
    conn_Conn_Input.Call x30 x31_0 x31_1 x31_2 x31_3 x31_4 x31_5 x31_6_b x31_6_l x31_6_c w4.drew fun r32_b r32_l r32_c w5 =>
    LdI .i64 ⟨en_, 6, none⟩ w5 fun x34 =>
    Bm (x34 != (0 : Int)) (
      LdB ⟨en_, 7, none⟩ w5 fun x38 =>
      host_Host_toRow.B1 h0 out_b out_l out_c sd en_ r32_b r32_l r32_c (!x38) w5  R) (
      host_Host_toRow.B1 h0 out_b out_l out_c sd en_ r32_b r32_l r32_c false w5  R))
theorem host_Host_toRow.B0_eq (h0 out_b : Option Addr) (out_l out_c : Nat) (sd s_0 s_1 s_2 s_3 s_4 s_5 : Int) (s_6_b : Option Addr) (s_6_l s_6_c : Nat) (w : World)   (R : Option Addr → Nat → Nat → World → Prop) (sB1 : Option Addr → Option Addr → Nat → Nat → Int → Nat → Option Addr → Nat → Nat → Bool → World → Prop) :
    (
  New (.cells #[.int .i64 s_0, .int .i64 s_1, .int .i64 s_2, .int .i64 s_3, .int .i64 s_4, .int .i64 s_5, .slice s_6_b s_6_l s_6_c] 177) w fun s_ w1 =>
  Pn h0 fun a =>
  LdP (a.add 17) w1 fun x16 =>
  sock_Table_Get.Call x16 sd w1 fun r18_0_0 r18_0_1 r18_0_2 r18_0_3 r18_0_4 r18_0_5 r18_0_6 r18_0_7 r18_1 w2 =>
  New (.cells #[.int .i64 (0 : Int), .int .i64 (0 : Int), .int .i64 (0 : Int), .int .i64 (0 : Int), .int .i64 (0 : Int), .int .i64 (0 : Int), .int .i64 (0 : Int), .bool false] 66) w2 fun en_ w3 =>
  Sts [.int .i64 r18_0_0, .int .i64 r18_0_1, .int .i64 r18_0_2, .int .i64 r18_0_3, .int .i64 r18_0_4, .int .i64 r18_0_5, .int .i64 r18_0_6, .bool r18_0_7] ⟨en_, 0, none⟩ 0 w3 fun w4 =>
  Bm (r18_1 != (0 : Int)) (
    R out_b out_l out_c w4) (
    LdI .i64 ⟨en_, 5, none⟩ w4.drew fun x26 =>
    Pn h0 fun a_1 =>
    (0 ≤ x26 ∧ x26 < ((4 : Nat) : Int)) ∧
    LdP (Addr.add (a_1.add 13) (x26.toNat * 1)) w4.drew fun x30 =>
    LdI .i64 ⟨s_, 0, none⟩ w4.drew fun x31_0 =>
    LdI .i64 ⟨s_, 1, none⟩ w4.drew fun x31_1 =>
    LdI .i64 ⟨s_, 2, none⟩ w4.drew fun x31_2 =>
    LdI .i64 ⟨s_, 3, none⟩ w4.drew fun x31_3 =>
    LdI .i64 ⟨s_, 4, none⟩ w4.drew fun x31_4 =>
    LdI .i64 ⟨s_, 5, none⟩ w4.drew fun x31_5 =>
    LdL ⟨s_, 6, none⟩ w4.drew fun x31_6_b x31_6_l x31_6_c =>
    conn_Conn_Input.Call x30 x31_0 x31_1 x31_2 x31_3 x31_4 x31_5 x31_6_b x31_6_l x31_6_c w4.drew fun r32_b r32_l r32_c w5 =>
    LdI .i64 ⟨en_, 6, none⟩ w5 fun x34 =>
    Bm (x34 != (0 : Int)) (
      LdB ⟨en_, 7, none⟩ w5 fun x38 =>
      sB1 h0 out_b out_l out_c sd en_ r32_b r32_l r32_c (!x38) w5) (
      sB1 h0 out_b out_l out_c sd en_ r32_b r32_l r32_c false w5))) = kstep Tryz.prog 64 Tryz.f117.results.toList (Tryz.f117.body.getD .skip) (host_Host_toRow.RV R) (kvc Tryz.prog 64 Tryz.f117.results.toList (Tryz.f117.body.getD .skip) (host_Host_toRow.RV R) [([(0, [1, 1, 1, 1, 0, 1]), (0, [1, 1, 1, 1, 1])], fun σ w => dP (slotOf σ 0) fun h0_ => dL (slotOf σ 1) fun out_b_ out_l_ out_c_ => dI .i64 (slotOf σ 2) fun sd_ => dK (slotOf σ 9) fun en_ => dL (slotOf σ 11) fun segs_b_ segs_l_ segs_c_ => dB (slotOf σ 40) fun t40_ => sB1 h0_ out_b_ out_l_ out_c_ sd_ en_ segs_b_ segs_l_ segs_c_ t40_ w)] 2000) [(0, [])] [(0, .pointer h0), (1, .slice out_b out_l out_c), (2, .int .i64 sd), (3, .agg #[.int .i64 s_0, .int .i64 s_1, .int .i64 s_2, .int .i64 s_3, .int .i64 s_4, .int .i64 s_5, .slice s_6_b s_6_l s_6_c])] w := by kernel_rfl
theorem host_Host_toRow.B0_sound {R : Option Addr → Nat → Nat → World → Prop}  (h0 out_b : Option Addr) (out_l out_c : Nat) (sd s_0 s_1 s_2 s_3 s_4 s_5 : Int) (s_6_b : Option Addr) (s_6_l s_6_c : Nat) (w : World) (h : host_Host_toRow.B0 h0 out_b out_l out_c sd s_0 s_1 s_2 s_3 s_4 s_5 s_6_b s_6_l s_6_c w   R) :
    KW Tryz.prog 117 64 (host_Host_toRow.RV R) ([(0, [])].map (toItem (Tryz.f117.body.getD .skip))) [(0, .pointer h0), (1, .slice out_b out_l out_c), (2, .int .i64 sd), (3, .agg #[.int .i64 s_0, .int .i64 s_1, .int .i64 s_2, .int .i64 s_3, .int .i64 s_4, .int .i64 s_5, .slice s_6_b s_6_l s_6_c])] w := by
  exact block_spec Tryz.func117 Tryz.mixed (stops_cons (fun σ w h => by
      obtain ⟨h0_, e0, h⟩ := dP_elim h
      obtain ⟨out_b_, out_l_, out_c_, e1, h⟩ := dL_elim h
      obtain ⟨sd_, e2, h⟩ := dI_elim h
      obtain ⟨en_, e3, h⟩ := dK_elim h
      obtain ⟨segs_b_, segs_l_, segs_c_, e4, h⟩ := dL_elim h
      obtain ⟨t40_, e5, h⟩ := dB_elim h
      exact (host_Host_toRow.B1_sound  h0_ out_b_ out_l_ out_c_ sd_ en_ segs_b_ segs_l_ segs_c_ t40_ w h).weaken (Sub.cons (Sub.cons (Sub.cons (Sub.cons (Sub.cons (Sub.cons (Sub.nil _) e5) e4) e3) e2) e1) e0)) stops_nil) (Eq.mp (host_Host_toRow.B0_eq h0 out_b out_l out_c sd s_0 s_1 s_2 s_3 s_4 s_5 s_6_b s_6_l s_6_c w   R (fun h0_ out_b_ out_l_ out_c_ sd_ en_ segs_b_ segs_l_ segs_c_ t40_ w => host_Host_toRow.B1 h0_ out_b_ out_l_ out_c_ sd_ en_ segs_b_ segs_l_ segs_c_ t40_ w  R)) h)
theorem host_Host_toRow.sound (h0 out_b : Option Addr) (out_l out_c : Nat) (sd s_0 s_1 s_2 s_3 s_4 s_5 : Int) (s_6_b : Option Addr) (s_6_l s_6_c : Nat) (w : World) (R : Option Addr → Nat → Nat → World → Prop) (h : host_Host_toRow.B0 h0 out_b out_l out_c sd s_0 s_1 s_2 s_3 s_4 s_5 s_6_b s_6_l s_6_c w R) : host_Host_toRow.Call h0 out_b out_l out_c sd s_0 s_1 s_2 s_3 s_4 s_5 s_6_b s_6_l s_6_c w R := by
  have hc := calls_of_block (args := #[.pointer h0, .slice out_b out_l out_c, .int .i64 sd, .agg #[.int .i64 s_0, .int .i64 s_1, .int .i64 s_2, .int .i64 s_3, .int .i64 s_4, .int .i64 s_5, .slice s_6_b s_6_l s_6_c]]) Tryz.func117 (body := (Tryz.f117.body.getD .skip)) (by kernel_rfl) (by kernel_rfl) (args_slot _) (host_Host_toRow.B0_sound h0 out_b out_l out_c sd s_0 s_1 s_2 s_3 s_4 s_5 s_6_b s_6_l s_6_c w h)
  exact hc.mono fun e w' he => by
    obtain ⟨v, rfl, hv⟩ := he
    exact host_Host_toRow.RV_elim hv
def sock_Table_Listener.B0 (t : Option Addr) (lport : Int) (w : World)   (R : Int → World → Prop) : Prop :=
  sock_Table_listenerRow.Call t lport w fun r8 w1 =>
  Bm (r8 == (-1 : Int)) (
    R (0 : Int) w1) (
    Pn t fun a =>
    (0 ≤ r8 ∧ r8 < ((6 : Nat) : Int)) ∧
    LdI .i64 ((Addr.add a (r8.toNat * 15)).add 1) w1 fun x18 =>
    R x18 w1)
theorem sock_Table_Listener.B0_eq (t : Option Addr) (lport : Int) (w : World)   (R : Int → World → Prop)  :
    (
  sock_Table_listenerRow.Call t lport w fun r8 w1 =>
  Bm (r8 == (-1 : Int)) (
    R (0 : Int) w1) (
    Pn t fun a =>
    (0 ≤ r8 ∧ r8 < ((6 : Nat) : Int)) ∧
    LdI .i64 ((Addr.add a (r8.toNat * 15)).add 1) w1 fun x18 =>
    R x18 w1)) = kstep Tryz.prog 19 Tryz.f118.results.toList (Tryz.f118.body.getD .skip) (sock_Table_Listener.RV R) (kvc Tryz.prog 19 Tryz.f118.results.toList (Tryz.f118.body.getD .skip) (sock_Table_Listener.RV R) [] 2000) [(0, [])] [(0, .pointer t), (1, .int .i64 lport)] w := by kernel_rfl
theorem sock_Table_Listener.B0_sound {R : Int → World → Prop}  (t : Option Addr) (lport : Int) (w : World) (h : sock_Table_Listener.B0 t lport w   R) :
    KW Tryz.prog 118 19 (sock_Table_Listener.RV R) ([(0, [])].map (toItem (Tryz.f118.body.getD .skip))) [(0, .pointer t), (1, .int .i64 lport)] w := by
  exact block_spec Tryz.func118 Tryz.mixed stops_nil (Eq.mp (sock_Table_Listener.B0_eq t lport w   R ) h)
theorem sock_Table_Listener.sound (t : Option Addr) (lport : Int) (w : World) (R : Int → World → Prop) (h : sock_Table_Listener.B0 t lport w R) : sock_Table_Listener.Call t lport w R := by
  have hc := calls_of_block (args := #[.pointer t, .int .i64 lport]) Tryz.func118 (body := (Tryz.f118.body.getD .skip)) (by kernel_rfl) (by kernel_rfl) (args_slot _) (sock_Table_Listener.B0_sound t lport w h)
  exact hc.mono fun e w' he => by
    obtain ⟨v, rfl, hv⟩ := he
    exact sock_Table_Listener.RV_elim hv
def host_Host_toListener.B0 (h0 out_b : Option Addr) (out_l out_c : Nat) (src s_0 s_1 s_2 s_3 s_4 s_5 : Int) (s_6_b : Option Addr) (s_6_l s_6_c : Nat) (w : World)   (R : Option Addr → Nat → Nat → World → Prop) : Prop :=
  New (.cells #[.int .i64 s_0, .int .i64 s_1, .int .i64 s_2, .int .i64 s_3, .int .i64 s_4, .int .i64 s_5, .slice s_6_b s_6_l s_6_c] 177) w fun s_ w1 =>
  Pn h0 fun a =>
  LdP (a.add 17) w1.drew fun x17 =>
  LdI .i64 ⟨s_, 1, none⟩ w1.drew fun x19 =>
  LdI .i64 ⟨s_, 0, none⟩ w1.drew fun x22 =>
  sock_Table_Child.Call x17 x19 src x22 w1.drew fun r23_0 r23_1 w2 =>
  Bm (r23_1 != (0 : Int)) (
    Pn h0 fun a_1 =>
    (0 ≤ (5 : Int) ∧ (5 : Int) < ((8 : Nat) : Int)) ∧
    LdI .i64 ((a_1.add 3).add 5) w2.drew fun x32 =>
    Pn h0 fun a_2 =>
    (0 ≤ (5 : Int) ∧ (5 : Int) < ((8 : Nat) : Int)) ∧
    Sts [.int .i64 (IntKind.i64.wrap (x32 + (1 : Int)))] ((a_2.add 3).add 5) 0 w2.drew fun w3 =>
    R out_b out_l out_c w3) (
    Pn h0 fun a_3 =>
    LdP (a_3.add 17) w2 fun x42 =>
    sock_Table_Get.Call x42 r23_0 w2 fun r44_0_0 r44_0_1 r44_0_2 r44_0_3 r44_0_4 r44_0_5 r44_0_6 r44_0_7 r44_1 w4 =>
    New (.cells #[.int .i64 (0 : Int), .int .i64 (0 : Int), .int .i64 (0 : Int), .int .i64 (0 : Int), .int .i64 (0 : Int), .int .i64 (0 : Int), .int .i64 (0 : Int), .bool false] 66) w4 fun en_ w5 =>
    Sts [.int .i64 r44_0_0, .int .i64 r44_0_1, .int .i64 r44_0_2, .int .i64 r44_0_3, .int .i64 r44_0_4, .int .i64 r44_0_5, .int .i64 r44_0_6, .bool r44_0_7] ⟨en_, 0, none⟩ 0 w5 fun w6 =>
    Bm (r44_1 != (0 : Int)) (
      R out_b out_l out_c w6) (
      LdI .i64 ⟨en_, 5, none⟩ w6.drew fun x53 =>
      Pn h0 fun a_4 =>
      (0 ≤ x53 ∧ x53 < ((4 : Nat) : Int)) ∧
      LdP (Addr.add (a_4.add 13) (x53.toNat * 1)) w6.drew fun x57 =>
      Pn h0 fun a_5 =>
      LdI .i64 (a_5.add 1) w6.drew fun x61 =>
      (256 : Int) ≠ 0 ∧
      LdI .i64 ⟨s_, 0, none⟩ w6.drew fun x63_0 =>
      LdI .i64 ⟨s_, 1, none⟩ w6.drew fun x63_1 =>
      LdI .i64 ⟨s_, 2, none⟩ w6.drew fun x63_2 =>
      LdI .i64 ⟨s_, 3, none⟩ w6.drew fun x63_3 =>
      LdI .i64 ⟨s_, 4, none⟩ w6.drew fun x63_4 =>
      LdI .i64 ⟨s_, 5, none⟩ w6.drew fun x63_5 =>
      LdL ⟨s_, 6, none⟩ w6.drew fun x63_6_b x63_6_l x63_6_c =>
      conn_Conn_OpenPassive.Call x57 (x61.tmod (256 : Int)) x63_0 x63_1 x63_2 x63_3 x63_4 x63_5 x63_6_b x63_6_l x63_6_c w6.drew fun r64_0_b r64_0_l r64_0_c r64_1 w7 =>
      Bm (r64_1 != (0 : Int)) (
        R out_b out_l out_c w7) (
        LdI .i64 ⟨en_, 0, none⟩ w7 fun x72_0 =>
        LdI .i64 ⟨en_, 1, none⟩ w7 fun x72_1 =>
        LdI .i64 ⟨en_, 2, none⟩ w7 fun x72_2 =>
        LdI .i64 ⟨en_, 3, none⟩ w7 fun x72_3 =>
        LdI .i64 ⟨en_, 4, none⟩ w7 fun x72_4 =>
        LdI .i64 ⟨en_, 5, none⟩ w7 fun x72_5 =>
        LdI .i64 ⟨en_, 6, none⟩ w7 fun x72_6 =>
        LdB ⟨en_, 7, none⟩ w7 fun x72_7 =>
        host_Host_emit.Call h0 out_b out_l out_c x72_0 x72_1 x72_2 x72_3 x72_4 x72_5 x72_6 x72_7 r64_0_b r64_0_l r64_0_c w7 fun r74_b r74_l r74_c w8 =>
        R r74_b r74_l r74_c w8)))
theorem host_Host_toListener.B0_eq (h0 out_b : Option Addr) (out_l out_c : Nat) (src s_0 s_1 s_2 s_3 s_4 s_5 : Int) (s_6_b : Option Addr) (s_6_l s_6_c : Nat) (w : World)   (R : Option Addr → Nat → Nat → World → Prop)  :
    (
  New (.cells #[.int .i64 s_0, .int .i64 s_1, .int .i64 s_2, .int .i64 s_3, .int .i64 s_4, .int .i64 s_5, .slice s_6_b s_6_l s_6_c] 177) w fun s_ w1 =>
  Pn h0 fun a =>
  LdP (a.add 17) w1.drew fun x17 =>
  LdI .i64 ⟨s_, 1, none⟩ w1.drew fun x19 =>
  LdI .i64 ⟨s_, 0, none⟩ w1.drew fun x22 =>
  sock_Table_Child.Call x17 x19 src x22 w1.drew fun r23_0 r23_1 w2 =>
  Bm (r23_1 != (0 : Int)) (
    Pn h0 fun a_1 =>
    (0 ≤ (5 : Int) ∧ (5 : Int) < ((8 : Nat) : Int)) ∧
    LdI .i64 ((a_1.add 3).add 5) w2.drew fun x32 =>
    Pn h0 fun a_2 =>
    (0 ≤ (5 : Int) ∧ (5 : Int) < ((8 : Nat) : Int)) ∧
    Sts [.int .i64 (IntKind.i64.wrap (x32 + (1 : Int)))] ((a_2.add 3).add 5) 0 w2.drew fun w3 =>
    R out_b out_l out_c w3) (
    Pn h0 fun a_3 =>
    LdP (a_3.add 17) w2 fun x42 =>
    sock_Table_Get.Call x42 r23_0 w2 fun r44_0_0 r44_0_1 r44_0_2 r44_0_3 r44_0_4 r44_0_5 r44_0_6 r44_0_7 r44_1 w4 =>
    New (.cells #[.int .i64 (0 : Int), .int .i64 (0 : Int), .int .i64 (0 : Int), .int .i64 (0 : Int), .int .i64 (0 : Int), .int .i64 (0 : Int), .int .i64 (0 : Int), .bool false] 66) w4 fun en_ w5 =>
    Sts [.int .i64 r44_0_0, .int .i64 r44_0_1, .int .i64 r44_0_2, .int .i64 r44_0_3, .int .i64 r44_0_4, .int .i64 r44_0_5, .int .i64 r44_0_6, .bool r44_0_7] ⟨en_, 0, none⟩ 0 w5 fun w6 =>
    Bm (r44_1 != (0 : Int)) (
      R out_b out_l out_c w6) (
      LdI .i64 ⟨en_, 5, none⟩ w6.drew fun x53 =>
      Pn h0 fun a_4 =>
      (0 ≤ x53 ∧ x53 < ((4 : Nat) : Int)) ∧
      LdP (Addr.add (a_4.add 13) (x53.toNat * 1)) w6.drew fun x57 =>
      Pn h0 fun a_5 =>
      LdI .i64 (a_5.add 1) w6.drew fun x61 =>
      (256 : Int) ≠ 0 ∧
      LdI .i64 ⟨s_, 0, none⟩ w6.drew fun x63_0 =>
      LdI .i64 ⟨s_, 1, none⟩ w6.drew fun x63_1 =>
      LdI .i64 ⟨s_, 2, none⟩ w6.drew fun x63_2 =>
      LdI .i64 ⟨s_, 3, none⟩ w6.drew fun x63_3 =>
      LdI .i64 ⟨s_, 4, none⟩ w6.drew fun x63_4 =>
      LdI .i64 ⟨s_, 5, none⟩ w6.drew fun x63_5 =>
      LdL ⟨s_, 6, none⟩ w6.drew fun x63_6_b x63_6_l x63_6_c =>
      conn_Conn_OpenPassive.Call x57 (x61.tmod (256 : Int)) x63_0 x63_1 x63_2 x63_3 x63_4 x63_5 x63_6_b x63_6_l x63_6_c w6.drew fun r64_0_b r64_0_l r64_0_c r64_1 w7 =>
      Bm (r64_1 != (0 : Int)) (
        R out_b out_l out_c w7) (
        LdI .i64 ⟨en_, 0, none⟩ w7 fun x72_0 =>
        LdI .i64 ⟨en_, 1, none⟩ w7 fun x72_1 =>
        LdI .i64 ⟨en_, 2, none⟩ w7 fun x72_2 =>
        LdI .i64 ⟨en_, 3, none⟩ w7 fun x72_3 =>
        LdI .i64 ⟨en_, 4, none⟩ w7 fun x72_4 =>
        LdI .i64 ⟨en_, 5, none⟩ w7 fun x72_5 =>
        LdI .i64 ⟨en_, 6, none⟩ w7 fun x72_6 =>
        LdB ⟨en_, 7, none⟩ w7 fun x72_7 =>
        host_Host_emit.Call h0 out_b out_l out_c x72_0 x72_1 x72_2 x72_3 x72_4 x72_5 x72_6 x72_7 r64_0_b r64_0_l r64_0_c w7 fun r74_b r74_l r74_c w8 =>
        R r74_b r74_l r74_c w8)))) = kstep Tryz.prog 75 Tryz.f119.results.toList (Tryz.f119.body.getD .skip) (host_Host_toListener.RV R) (kvc Tryz.prog 75 Tryz.f119.results.toList (Tryz.f119.body.getD .skip) (host_Host_toListener.RV R) [] 2000) [(0, [])] [(0, .pointer h0), (1, .slice out_b out_l out_c), (2, .int .i64 src), (3, .agg #[.int .i64 s_0, .int .i64 s_1, .int .i64 s_2, .int .i64 s_3, .int .i64 s_4, .int .i64 s_5, .slice s_6_b s_6_l s_6_c])] w := by kernel_rfl
theorem host_Host_toListener.B0_sound {R : Option Addr → Nat → Nat → World → Prop}  (h0 out_b : Option Addr) (out_l out_c : Nat) (src s_0 s_1 s_2 s_3 s_4 s_5 : Int) (s_6_b : Option Addr) (s_6_l s_6_c : Nat) (w : World) (h : host_Host_toListener.B0 h0 out_b out_l out_c src s_0 s_1 s_2 s_3 s_4 s_5 s_6_b s_6_l s_6_c w   R) :
    KW Tryz.prog 119 75 (host_Host_toListener.RV R) ([(0, [])].map (toItem (Tryz.f119.body.getD .skip))) [(0, .pointer h0), (1, .slice out_b out_l out_c), (2, .int .i64 src), (3, .agg #[.int .i64 s_0, .int .i64 s_1, .int .i64 s_2, .int .i64 s_3, .int .i64 s_4, .int .i64 s_5, .slice s_6_b s_6_l s_6_c])] w := by
  exact block_spec Tryz.func119 Tryz.mixed stops_nil (Eq.mp (host_Host_toListener.B0_eq h0 out_b out_l out_c src s_0 s_1 s_2 s_3 s_4 s_5 s_6_b s_6_l s_6_c w   R ) h)
theorem host_Host_toListener.sound (h0 out_b : Option Addr) (out_l out_c : Nat) (src s_0 s_1 s_2 s_3 s_4 s_5 : Int) (s_6_b : Option Addr) (s_6_l s_6_c : Nat) (w : World) (R : Option Addr → Nat → Nat → World → Prop) (h : host_Host_toListener.B0 h0 out_b out_l out_c src s_0 s_1 s_2 s_3 s_4 s_5 s_6_b s_6_l s_6_c w R) : host_Host_toListener.Call h0 out_b out_l out_c src s_0 s_1 s_2 s_3 s_4 s_5 s_6_b s_6_l s_6_c w R := by
  have hc := calls_of_block (args := #[.pointer h0, .slice out_b out_l out_c, .int .i64 src, .agg #[.int .i64 s_0, .int .i64 s_1, .int .i64 s_2, .int .i64 s_3, .int .i64 s_4, .int .i64 s_5, .slice s_6_b s_6_l s_6_c]]) Tryz.func119 (body := (Tryz.f119.body.getD .skip)) (by kernel_rfl) (by kernel_rfl) (args_slot _) (host_Host_toListener.B0_sound h0 out_b out_l out_c src s_0 s_1 s_2 s_3 s_4 s_5 s_6_b s_6_l s_6_c w h)
  exact hc.mono fun e w' he => by
    obtain ⟨v, rfl, hv⟩ := he
    exact host_Host_toListener.RV_elim hv
end Go.Proofs.Qxb6500424aGreat
