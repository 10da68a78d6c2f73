import Derived.Test.Qxb6500430aGreatSig
set_option maxRecDepth 100000
set_option linter.unusedVariables false
open Go.Vc
namespace Go.Proofs.Qxb6500430aGreat
def api_DecodeMsg.L1b (s : ByteArray) (t2 m0 : Nat) (end0 n p i : Int) (w : World)  (N1 : ByteArray → Nat → Nat → Int → Int → Int → Int → World → Prop) (R : Int → Int → Int → Int → Int → Int → Int → Bool → Option Addr → Nat → Nat → ByteArray → Int → World → Prop) : Prop :=
  Bm (decide (i < n)) (
    Bm (decide ((IntKind.i64.wrap (p + (9 : Int))) > end0)) (
      Sts [.int .i64 (0 : Int), .int .i64 (0 : Int), .int .i64 (0 : Int), .int .i64 (0 : Int), .int .i64 (0 : Int), .int .i64 (0 : Int), .int .i64 (0 : Int), .bool false, .slice none 0 0, .string (ByteArray.mk #[])] ⟨t2, 0, none⟩ 0 w fun w1 =>
      LdI .i64 ⟨t2, 0, none⟩ w1 fun r_0 =>
      LdI .i64 ⟨t2, 1, none⟩ w1 fun r_1 =>
      LdI .i64 ⟨t2, 2, none⟩ w1 fun r_2 =>
      LdI .i64 ⟨t2, 3, none⟩ w1 fun r_3 =>
      LdI .i64 ⟨t2, 4, none⟩ w1 fun r_4 =>
      LdI .i64 ⟨t2, 5, none⟩ w1 fun r_5 =>
      LdI .i64 ⟨t2, 6, none⟩ w1 fun r_6 =>
      LdB ⟨t2, 7, none⟩ w1 fun r_7 =>
      LdL ⟨t2, 8, none⟩ w1 fun r_8_b r_8_l r_8_c =>
      LdS ⟨t2, 9, none⟩ w1 fun r_9 =>
      R r_0 r_1 r_2 r_3 r_4 r_5 r_6 r_7 r_8_b r_8_l r_8_c r_9 (12 : Int) w1) (
      (0 ≤ (IntKind.i64.wrap (p + (8 : Int))) ∧ (IntKind.i64.wrap (p + (8 : Int))) < ((s.size : Nat) : Int)) ∧
      api_GetU64.Call s p w.drew fun r97 w2 =>
      Bm (decide ((IntKind.i64.wrap ((IntKind.i64.wrap (p + (9 : Int))) + (IntKind.i64.wrap (byteAt s (IntKind.i64.wrap (p + (8 : Int))))))) > end0)) (
        Sts [.int .i64 (0 : Int), .int .i64 (0 : Int), .int .i64 (0 : Int), .int .i64 (0 : Int), .int .i64 (0 : Int), .int .i64 (0 : Int), .int .i64 (0 : Int), .bool false, .slice none 0 0, .string (ByteArray.mk #[])] ⟨t2, 0, none⟩ 0 w2 fun w3 =>
        LdI .i64 ⟨t2, 0, none⟩ w3 fun r_0_1 =>
        LdI .i64 ⟨t2, 1, none⟩ w3 fun r_1_1 =>
        LdI .i64 ⟨t2, 2, none⟩ w3 fun r_2_1 =>
        LdI .i64 ⟨t2, 3, none⟩ w3 fun r_3_1 =>
        LdI .i64 ⟨t2, 4, none⟩ w3 fun r_4_1 =>
        LdI .i64 ⟨t2, 5, none⟩ w3 fun r_5_1 =>
        LdI .i64 ⟨t2, 6, none⟩ w3 fun r_6_1 =>
        LdB ⟨t2, 7, none⟩ w3 fun r_7_1 =>
        LdL ⟨t2, 8, none⟩ w3 fun r_8_b_1 r_8_l_1 r_8_c_1 =>
        LdS ⟨t2, 9, none⟩ w3 fun r_9_1 =>
        R r_0_1 r_1_1 r_2_1 r_3_1 r_4_1 r_5_1 r_6_1 r_7_1 r_8_b_1 r_8_l_1 r_8_c_1 r_9_1 (12 : Int) w3) (
        LdL ⟨m0, 8, none⟩ w2.drew fun x111_b x111_l x111_c =>
        (0 ≤ (IntKind.i64.wrap ((IntKind.i64.wrap (p + (9 : Int))) + (IntKind.i64.wrap (byteAt s (IntKind.i64.wrap (p + (8 : Int))))))) ∧ (IntKind.i64.wrap ((IntKind.i64.wrap (p + (9 : Int))) + (IntKind.i64.wrap (byteAt s (IntKind.i64.wrap (p + (8 : Int))))))) ≤ ((s.size : Nat) : Int)) ∧
        (0 ≤ (IntKind.i64.wrap (p + (9 : Int))) ∧ (IntKind.i64.wrap (p + (9 : Int))) ≤ (IntKind.i64.wrap ((IntKind.i64.wrap (p + (9 : Int))) + (IntKind.i64.wrap (byteAt s (IntKind.i64.wrap (p + (8 : Int)))))))) ∧
        New (.cells #[.int .i64 r97, .string (s.extract (IntKind.i64.wrap (p + (9 : Int))).toNat (IntKind.i64.wrap ((IntKind.i64.wrap (p + (9 : Int))) + (IntKind.i64.wrap (byteAt s (IntKind.i64.wrap (p + (8 : Int))))))).toNat)] 155) w2.drew fun b122 w4 =>
        w4.cell? ⟨m0, 8, none⟩ = some (.slice x111_b x111_l x111_c) ∧
        Append 155 (.agg #[.int .i64 (0 : Int), .string (ByteArray.mk #[])]) 2 24 x111_b x111_l x111_c (some ⟨b122, 0, none⟩) 1 w4 fun b123 c123 w5 =>
        Sts [.slice b123 (x111_l + 1) c123] ⟨m0, 8, none⟩ 0 w5 fun w6 =>
        N1 s t2 m0 end0 n (IntKind.i64.wrap (p + (IntKind.i64.wrap ((9 : Int) + (IntKind.i64.wrap (byteAt s (IntKind.i64.wrap (p + (8 : Int))))))))) (IntKind.i64.wrap (i + (1 : Int))) w6))) (
    Bm (decide (p ≥ end0)) (
      Sts [.int .i64 (0 : Int), .int .i64 (0 : Int), .int .i64 (0 : Int), .int .i64 (0 : Int), .int .i64 (0 : Int), .int .i64 (0 : Int), .int .i64 (0 : Int), .bool false, .slice none 0 0, .string (ByteArray.mk #[])] ⟨t2, 0, none⟩ 0 w fun w7 =>
      LdI .i64 ⟨t2, 0, none⟩ w7 fun r_0_2 =>
      LdI .i64 ⟨t2, 1, none⟩ w7 fun r_1_2 =>
      LdI .i64 ⟨t2, 2, none⟩ w7 fun r_2_2 =>
      LdI .i64 ⟨t2, 3, none⟩ w7 fun r_3_2 =>
      LdI .i64 ⟨t2, 4, none⟩ w7 fun r_4_2 =>
      LdI .i64 ⟨t2, 5, none⟩ w7 fun r_5_2 =>
      LdI .i64 ⟨t2, 6, none⟩ w7 fun r_6_2 =>
      LdB ⟨t2, 7, none⟩ w7 fun r_7_2 =>
      LdL ⟨t2, 8, none⟩ w7 fun r_8_b_2 r_8_l_2 r_8_c_2 =>
      LdS ⟨t2, 9, none⟩ w7 fun r_9_2 =>
      R r_0_2 r_1_2 r_2_2 r_3_2 r_4_2 r_5_2 r_6_2 r_7_2 r_8_b_2 r_8_l_2 r_8_c_2 r_9_2 (12 : Int) w7) (
      (0 ≤ p ∧ p < ((s.size : Nat) : Int)) ∧
      Bm ((IntKind.i64.wrap ((IntKind.i64.wrap (p + (1 : Int))) + (IntKind.i64.wrap (byteAt s p)))) != end0) (
        Sts [.int .i64 (0 : Int), .int .i64 (0 : Int), .int .i64 (0 : Int), .int .i64 (0 : Int), .int .i64 (0 : Int), .int .i64 (0 : Int), .int .i64 (0 : Int), .bool false, .slice none 0 0, .string (ByteArray.mk #[])] ⟨t2, 0, none⟩ 0 w fun w8 =>
        LdI .i64 ⟨t2, 0, none⟩ w8 fun r_0_3 =>
        LdI .i64 ⟨t2, 1, none⟩ w8 fun r_1_3 =>
        LdI .i64 ⟨t2, 2, none⟩ w8 fun r_2_3 =>
        LdI .i64 ⟨t2, 3, none⟩ w8 fun r_3_3 =>
        LdI .i64 ⟨t2, 4, none⟩ w8 fun r_4_3 =>
        LdI .i64 ⟨t2, 5, none⟩ w8 fun r_5_3 =>
        LdI .i64 ⟨t2, 6, none⟩ w8 fun r_6_3 =>
        LdB ⟨t2, 7, none⟩ w8 fun r_7_3 =>
        LdL ⟨t2, 8, none⟩ w8 fun r_8_b_3 r_8_l_3 r_8_c_3 =>
        LdS ⟨t2, 9, none⟩ w8 fun r_9_3 =>
        R r_0_3 r_1_3 r_2_3 r_3_3 r_4_3 r_5_3 r_6_3 r_7_3 r_8_b_3 r_8_l_3 r_8_c_3 r_9_3 (12 : Int) w8) (
        (0 ≤ end0 ∧ end0 ≤ ((s.size : Nat) : Int)) ∧
        (0 ≤ (IntKind.i64.wrap (p + (1 : Int))) ∧ (IntKind.i64.wrap (p + (1 : Int))) ≤ end0) ∧
        Sts [.string (s.extract (IntKind.i64.wrap (p + (1 : Int))).toNat end0.toNat)] ⟨m0, 9, none⟩ 0 w fun w9 =>
        LdI .i64 ⟨m0, 0, none⟩ w9 fun x150_0 =>
        LdI .i64 ⟨m0, 1, none⟩ w9 fun x150_1 =>
        LdI .i64 ⟨m0, 2, none⟩ w9 fun x150_2 =>
        LdI .i64 ⟨m0, 3, none⟩ w9 fun x150_3 =>
        LdI .i64 ⟨m0, 4, none⟩ w9 fun x150_4 =>
        LdI .i64 ⟨m0, 5, none⟩ w9 fun x150_5 =>
        LdI .i64 ⟨m0, 6, none⟩ w9 fun x150_6 =>
        LdB ⟨m0, 7, none⟩ w9 fun x150_7 =>
        LdL ⟨m0, 8, none⟩ w9 fun x150_8_b x150_8_l x150_8_c =>
        LdS ⟨m0, 9, none⟩ w9 fun x150_9 =>
        api_MsgOK.Call x150_0 x150_1 x150_2 x150_3 x150_4 x150_5 x150_6 x150_7 x150_8_b x150_8_l x150_8_c x150_9 w9 fun r151 w10 =>
        Bm (!r151) (
          Sts [.int .i64 (0 : Int), .int .i64 (0 : Int), .int .i64 (0 : Int), .int .i64 (0 : Int), .int .i64 (0 : Int), .int .i64 (0 : Int), .int .i64 (0 : Int), .bool false, .slice none 0 0, .string (ByteArray.mk #[])] ⟨t2, 0, none⟩ 0 w10 fun w11 =>
          LdI .i64 ⟨t2, 0, none⟩ w11 fun r_0_4 =>
          LdI .i64 ⟨t2, 1, none⟩ w11 fun r_1_4 =>
          LdI .i64 ⟨t2, 2, none⟩ w11 fun r_2_4 =>
          LdI .i64 ⟨t2, 3, none⟩ w11 fun r_3_4 =>
          LdI .i64 ⟨t2, 4, none⟩ w11 fun r_4_4 =>
          LdI .i64 ⟨t2, 5, none⟩ w11 fun r_5_4 =>
          LdI .i64 ⟨t2, 6, none⟩ w11 fun r_6_4 =>
          LdB ⟨t2, 7, none⟩ w11 fun r_7_4 =>
          LdL ⟨t2, 8, none⟩ w11 fun r_8_b_4 r_8_l_4 r_8_c_4 =>
          LdS ⟨t2, 9, none⟩ w11 fun r_9_4 =>
          R r_0_4 r_1_4 r_2_4 r_3_4 r_4_4 r_5_4 r_6_4 r_7_4 r_8_b_4 r_8_l_4 r_8_c_4 r_9_4 (12 : Int) w11) (
          LdI .i64 ⟨m0, 0, none⟩ w10 fun x154_0 =>
          LdI .i64 ⟨m0, 1, none⟩ w10 fun x154_1 =>
          LdI .i64 ⟨m0, 2, none⟩ w10 fun x154_2 =>
          LdI .i64 ⟨m0, 3, none⟩ w10 fun x154_3 =>
          LdI .i64 ⟨m0, 4, none⟩ w10 fun x154_4 =>
          LdI .i64 ⟨m0, 5, none⟩ w10 fun x154_5 =>
          LdI .i64 ⟨m0, 6, none⟩ w10 fun x154_6 =>
          LdB ⟨m0, 7, none⟩ w10 fun x154_7 =>
          LdL ⟨m0, 8, none⟩ w10 fun x154_8_b x154_8_l x154_8_c =>
          LdS ⟨m0, 9, none⟩ w10 fun x154_9 =>
          Sts [.int .i64 x154_0, .int .i64 x154_1, .int .i64 x154_2, .int .i64 x154_3, .int .i64 x154_4, .int .i64 x154_5, .int .i64 x154_6, .bool x154_7, .slice x154_8_b x154_8_l x154_8_c, .string x154_9] ⟨t2, 0, none⟩ 0 w10 fun w12 =>
          LdI .i64 ⟨t2, 0, none⟩ w12 fun r_0_5 =>
          LdI .i64 ⟨t2, 1, none⟩ w12 fun r_1_5 =>
          LdI .i64 ⟨t2, 2, none⟩ w12 fun r_2_5 =>
          LdI .i64 ⟨t2, 3, none⟩ w12 fun r_3_5 =>
          LdI .i64 ⟨t2, 4, none⟩ w12 fun r_4_5 =>
          LdI .i64 ⟨t2, 5, none⟩ w12 fun r_5_5 =>
          LdI .i64 ⟨t2, 6, none⟩ w12 fun r_6_5 =>
          LdB ⟨t2, 7, none⟩ w12 fun r_7_5 =>
          LdL ⟨t2, 8, none⟩ w12 fun r_8_b_5 r_8_l_5 r_8_c_5 =>
          LdS ⟨t2, 9, none⟩ w12 fun r_9_5 =>
          R r_0_5 r_1_5 r_2_5 r_3_5 r_4_5 r_5_5 r_6_5 r_7_5 r_8_b_5 r_8_l_5 r_8_c_5 r_9_5 (0 : Int) w12))))
theorem api_DecodeMsg.L1b_eq (s : ByteArray) (t2 m0 : Nat) (end0 n p i : Int) (w : World)  (N1 : ByteArray → Nat → Nat → Int → Int → Int → Int → World → Prop) (R : Int → Int → Int → Int → Int → Int → Int → Bool → Option Addr → Nat → Nat → ByteArray → Int → World → Prop)  :
    (
  Bm (decide (i < n)) (
    Bm (decide ((IntKind.i64.wrap (p + (9 : Int))) > end0)) (
      Sts [.int .i64 (0 : Int), .int .i64 (0 : Int), .int .i64 (0 : Int), .int .i64 (0 : Int), .int .i64 (0 : Int), .int .i64 (0 : Int), .int .i64 (0 : Int), .bool false, .slice none 0 0, .string (ByteArray.mk #[])] ⟨t2, 0, none⟩ 0 w fun w1 =>
      LdI .i64 ⟨t2, 0, none⟩ w1 fun r_0 =>
      LdI .i64 ⟨t2, 1, none⟩ w1 fun r_1 =>
      LdI .i64 ⟨t2, 2, none⟩ w1 fun r_2 =>
      LdI .i64 ⟨t2, 3, none⟩ w1 fun r_3 =>
      LdI .i64 ⟨t2, 4, none⟩ w1 fun r_4 =>
      LdI .i64 ⟨t2, 5, none⟩ w1 fun r_5 =>
      LdI .i64 ⟨t2, 6, none⟩ w1 fun r_6 =>
      LdB ⟨t2, 7, none⟩ w1 fun r_7 =>
      LdL ⟨t2, 8, none⟩ w1 fun r_8_b r_8_l r_8_c =>
      LdS ⟨t2, 9, none⟩ w1 fun r_9 =>
      R r_0 r_1 r_2 r_3 r_4 r_5 r_6 r_7 r_8_b r_8_l r_8_c r_9 (12 : Int) w1) (
      (0 ≤ (IntKind.i64.wrap (p + (8 : Int))) ∧ (IntKind.i64.wrap (p + (8 : Int))) < ((s.size : Nat) : Int)) ∧
      api_GetU64.Call s p w.drew fun r97 w2 =>
      Bm (decide ((IntKind.i64.wrap ((IntKind.i64.wrap (p + (9 : Int))) + (IntKind.i64.wrap (byteAt s (IntKind.i64.wrap (p + (8 : Int))))))) > end0)) (
        Sts [.int .i64 (0 : Int), .int .i64 (0 : Int), .int .i64 (0 : Int), .int .i64 (0 : Int), .int .i64 (0 : Int), .int .i64 (0 : Int), .int .i64 (0 : Int), .bool false, .slice none 0 0, .string (ByteArray.mk #[])] ⟨t2, 0, none⟩ 0 w2 fun w3 =>
        LdI .i64 ⟨t2, 0, none⟩ w3 fun r_0_1 =>
        LdI .i64 ⟨t2, 1, none⟩ w3 fun r_1_1 =>
        LdI .i64 ⟨t2, 2, none⟩ w3 fun r_2_1 =>
        LdI .i64 ⟨t2, 3, none⟩ w3 fun r_3_1 =>
        LdI .i64 ⟨t2, 4, none⟩ w3 fun r_4_1 =>
        LdI .i64 ⟨t2, 5, none⟩ w3 fun r_5_1 =>
        LdI .i64 ⟨t2, 6, none⟩ w3 fun r_6_1 =>
        LdB ⟨t2, 7, none⟩ w3 fun r_7_1 =>
        LdL ⟨t2, 8, none⟩ w3 fun r_8_b_1 r_8_l_1 r_8_c_1 =>
        LdS ⟨t2, 9, none⟩ w3 fun r_9_1 =>
        R r_0_1 r_1_1 r_2_1 r_3_1 r_4_1 r_5_1 r_6_1 r_7_1 r_8_b_1 r_8_l_1 r_8_c_1 r_9_1 (12 : Int) w3) (
        LdL ⟨m0, 8, none⟩ w2.drew fun x111_b x111_l x111_c =>
        (0 ≤ (IntKind.i64.wrap ((IntKind.i64.wrap (p + (9 : Int))) + (IntKind.i64.wrap (byteAt s (IntKind.i64.wrap (p + (8 : Int))))))) ∧ (IntKind.i64.wrap ((IntKind.i64.wrap (p + (9 : Int))) + (IntKind.i64.wrap (byteAt s (IntKind.i64.wrap (p + (8 : Int))))))) ≤ ((s.size : Nat) : Int)) ∧
        (0 ≤ (IntKind.i64.wrap (p + (9 : Int))) ∧ (IntKind.i64.wrap (p + (9 : Int))) ≤ (IntKind.i64.wrap ((IntKind.i64.wrap (p + (9 : Int))) + (IntKind.i64.wrap (byteAt s (IntKind.i64.wrap (p + (8 : Int)))))))) ∧
        New (.cells #[.int .i64 r97, .string (s.extract (IntKind.i64.wrap (p + (9 : Int))).toNat (IntKind.i64.wrap ((IntKind.i64.wrap (p + (9 : Int))) + (IntKind.i64.wrap (byteAt s (IntKind.i64.wrap (p + (8 : Int))))))).toNat)] 155) w2.drew fun b122 w4 =>
        w4.cell? ⟨m0, 8, none⟩ = some (.slice x111_b x111_l x111_c) ∧
        Append 155 (.agg #[.int .i64 (0 : Int), .string (ByteArray.mk #[])]) 2 24 x111_b x111_l x111_c (some ⟨b122, 0, none⟩) 1 w4 fun b123 c123 w5 =>
        Sts [.slice b123 (x111_l + 1) c123] ⟨m0, 8, none⟩ 0 w5 fun w6 =>
        N1 s t2 m0 end0 n (IntKind.i64.wrap (p + (IntKind.i64.wrap ((9 : Int) + (IntKind.i64.wrap (byteAt s (IntKind.i64.wrap (p + (8 : Int))))))))) (IntKind.i64.wrap (i + (1 : Int))) w6))) (
    Bm (decide (p ≥ end0)) (
      Sts [.int .i64 (0 : Int), .int .i64 (0 : Int), .int .i64 (0 : Int), .int .i64 (0 : Int), .int .i64 (0 : Int), .int .i64 (0 : Int), .int .i64 (0 : Int), .bool false, .slice none 0 0, .string (ByteArray.mk #[])] ⟨t2, 0, none⟩ 0 w fun w7 =>
      LdI .i64 ⟨t2, 0, none⟩ w7 fun r_0_2 =>
      LdI .i64 ⟨t2, 1, none⟩ w7 fun r_1_2 =>
      LdI .i64 ⟨t2, 2, none⟩ w7 fun r_2_2 =>
      LdI .i64 ⟨t2, 3, none⟩ w7 fun r_3_2 =>
      LdI .i64 ⟨t2, 4, none⟩ w7 fun r_4_2 =>
      LdI .i64 ⟨t2, 5, none⟩ w7 fun r_5_2 =>
      LdI .i64 ⟨t2, 6, none⟩ w7 fun r_6_2 =>
      LdB ⟨t2, 7, none⟩ w7 fun r_7_2 =>
      LdL ⟨t2, 8, none⟩ w7 fun r_8_b_2 r_8_l_2 r_8_c_2 =>
      LdS ⟨t2, 9, none⟩ w7 fun r_9_2 =>
      R r_0_2 r_1_2 r_2_2 r_3_2 r_4_2 r_5_2 r_6_2 r_7_2 r_8_b_2 r_8_l_2 r_8_c_2 r_9_2 (12 : Int) w7) (
      (0 ≤ p ∧ p < ((s.size : Nat) : Int)) ∧
      Bm ((IntKind.i64.wrap ((IntKind.i64.wrap (p + (1 : Int))) + (IntKind.i64.wrap (byteAt s p)))) != end0) (
        Sts [.int .i64 (0 : Int), .int .i64 (0 : Int), .int .i64 (0 : Int), .int .i64 (0 : Int), .int .i64 (0 : Int), .int .i64 (0 : Int), .int .i64 (0 : Int), .bool false, .slice none 0 0, .string (ByteArray.mk #[])] ⟨t2, 0, none⟩ 0 w fun w8 =>
        LdI .i64 ⟨t2, 0, none⟩ w8 fun r_0_3 =>
        LdI .i64 ⟨t2, 1, none⟩ w8 fun r_1_3 =>
        LdI .i64 ⟨t2, 2, none⟩ w8 fun r_2_3 =>
        LdI .i64 ⟨t2, 3, none⟩ w8 fun r_3_3 =>
        LdI .i64 ⟨t2, 4, none⟩ w8 fun r_4_3 =>
        LdI .i64 ⟨t2, 5, none⟩ w8 fun r_5_3 =>
        LdI .i64 ⟨t2, 6, none⟩ w8 fun r_6_3 =>
        LdB ⟨t2, 7, none⟩ w8 fun r_7_3 =>
        LdL ⟨t2, 8, none⟩ w8 fun r_8_b_3 r_8_l_3 r_8_c_3 =>
        LdS ⟨t2, 9, none⟩ w8 fun r_9_3 =>
        R r_0_3 r_1_3 r_2_3 r_3_3 r_4_3 r_5_3 r_6_3 r_7_3 r_8_b_3 r_8_l_3 r_8_c_3 r_9_3 (12 : Int) w8) (
        (0 ≤ end0 ∧ end0 ≤ ((s.size : Nat) : Int)) ∧
        (0 ≤ (IntKind.i64.wrap (p + (1 : Int))) ∧ (IntKind.i64.wrap (p + (1 : Int))) ≤ end0) ∧
        Sts [.string (s.extract (IntKind.i64.wrap (p + (1 : Int))).toNat end0.toNat)] ⟨m0, 9, none⟩ 0 w fun w9 =>
        LdI .i64 ⟨m0, 0, none⟩ w9 fun x150_0 =>
        LdI .i64 ⟨m0, 1, none⟩ w9 fun x150_1 =>
        LdI .i64 ⟨m0, 2, none⟩ w9 fun x150_2 =>
        LdI .i64 ⟨m0, 3, none⟩ w9 fun x150_3 =>
        LdI .i64 ⟨m0, 4, none⟩ w9 fun x150_4 =>
        LdI .i64 ⟨m0, 5, none⟩ w9 fun x150_5 =>
        LdI .i64 ⟨m0, 6, none⟩ w9 fun x150_6 =>
        LdB ⟨m0, 7, none⟩ w9 fun x150_7 =>
        LdL ⟨m0, 8, none⟩ w9 fun x150_8_b x150_8_l x150_8_c =>
        LdS ⟨m0, 9, none⟩ w9 fun x150_9 =>
        api_MsgOK.Call x150_0 x150_1 x150_2 x150_3 x150_4 x150_5 x150_6 x150_7 x150_8_b x150_8_l x150_8_c x150_9 w9 fun r151 w10 =>
        Bm (!r151) (
          Sts [.int .i64 (0 : Int), .int .i64 (0 : Int), .int .i64 (0 : Int), .int .i64 (0 : Int), .int .i64 (0 : Int), .int .i64 (0 : Int), .int .i64 (0 : Int), .bool false, .slice none 0 0, .string (ByteArray.mk #[])] ⟨t2, 0, none⟩ 0 w10 fun w11 =>
          LdI .i64 ⟨t2, 0, none⟩ w11 fun r_0_4 =>
          LdI .i64 ⟨t2, 1, none⟩ w11 fun r_1_4 =>
          LdI .i64 ⟨t2, 2, none⟩ w11 fun r_2_4 =>
          LdI .i64 ⟨t2, 3, none⟩ w11 fun r_3_4 =>
          LdI .i64 ⟨t2, 4, none⟩ w11 fun r_4_4 =>
          LdI .i64 ⟨t2, 5, none⟩ w11 fun r_5_4 =>
          LdI .i64 ⟨t2, 6, none⟩ w11 fun r_6_4 =>
          LdB ⟨t2, 7, none⟩ w11 fun r_7_4 =>
          LdL ⟨t2, 8, none⟩ w11 fun r_8_b_4 r_8_l_4 r_8_c_4 =>
          LdS ⟨t2, 9, none⟩ w11 fun r_9_4 =>
          R r_0_4 r_1_4 r_2_4 r_3_4 r_4_4 r_5_4 r_6_4 r_7_4 r_8_b_4 r_8_l_4 r_8_c_4 r_9_4 (12 : Int) w11) (
          LdI .i64 ⟨m0, 0, none⟩ w10 fun x154_0 =>
          LdI .i64 ⟨m0, 1, none⟩ w10 fun x154_1 =>
          LdI .i64 ⟨m0, 2, none⟩ w10 fun x154_2 =>
          LdI .i64 ⟨m0, 3, none⟩ w10 fun x154_3 =>
          LdI .i64 ⟨m0, 4, none⟩ w10 fun x154_4 =>
          LdI .i64 ⟨m0, 5, none⟩ w10 fun x154_5 =>
          LdI .i64 ⟨m0, 6, none⟩ w10 fun x154_6 =>
          LdB ⟨m0, 7, none⟩ w10 fun x154_7 =>
          LdL ⟨m0, 8, none⟩ w10 fun x154_8_b x154_8_l x154_8_c =>
          LdS ⟨m0, 9, none⟩ w10 fun x154_9 =>
          Sts [.int .i64 x154_0, .int .i64 x154_1, .int .i64 x154_2, .int .i64 x154_3, .int .i64 x154_4, .int .i64 x154_5, .int .i64 x154_6, .bool x154_7, .slice x154_8_b x154_8_l x154_8_c, .string x154_9] ⟨t2, 0, none⟩ 0 w10 fun w12 =>
          LdI .i64 ⟨t2, 0, none⟩ w12 fun r_0_5 =>
          LdI .i64 ⟨t2, 1, none⟩ w12 fun r_1_5 =>
          LdI .i64 ⟨t2, 2, none⟩ w12 fun r_2_5 =>
          LdI .i64 ⟨t2, 3, none⟩ w12 fun r_3_5 =>
          LdI .i64 ⟨t2, 4, none⟩ w12 fun r_4_5 =>
          LdI .i64 ⟨t2, 5, none⟩ w12 fun r_5_5 =>
          LdI .i64 ⟨t2, 6, none⟩ w12 fun r_6_5 =>
          LdB ⟨t2, 7, none⟩ w12 fun r_7_5 =>
          LdL ⟨t2, 8, none⟩ w12 fun r_8_b_5 r_8_l_5 r_8_c_5 =>
          LdS ⟨t2, 9, none⟩ w12 fun r_9_5 =>
          R r_0_5 r_1_5 r_2_5 r_3_5 r_4_5 r_5_5 r_6_5 r_7_5 r_8_b_5 r_8_l_5 r_8_c_5 r_9_5 (0 : Int) w12))))) = kstep Tryz.prog 155 Tryz.f83.results.toList (Tryz.f83.body.getD .skip) (api_DecodeMsg.RV R) (kvc Tryz.prog 155 Tryz.f83.results.toList (Tryz.f83.body.getD .skip) (api_DecodeMsg.RV R) [([(0, [1, 1, 1, 1, 1, 1, 1, 1, 1, 1, 1, 1, 1, 0, 1, 0, 0]), (2, [1, 1, 1, 1, 1, 1, 1, 1, 1, 1, 1, 1, 1, 0, 1, 0, 0]), (1, [0]), (0, [1, 1, 1, 1, 1, 1, 1, 1, 1, 1, 1, 1, 1, 1])], fun σ w => dS (slotOf σ 0) fun s_ => dK (slotOf σ 2) fun t2_ => dK (slotOf σ 4) fun m0_ => dI .i64 (slotOf σ 5) fun end0_ => dI .i64 (slotOf σ 6) fun n_ => dI .i64 (slotOf σ 7) fun p_ => dI .i64 (slotOf σ 8) fun i_ => N1 s_ t2_ m0_ end0_ n_ p_ i_ w)] 2000) [(0, [1, 1, 1, 1, 1, 1, 1, 1, 1, 1, 1, 1, 1, 0, 1, 0, 0]), (2, [1, 1, 1, 1, 1, 1, 1, 1, 1, 1, 1, 1, 1, 0, 1, 0, 0]), (1, [0]), (0, [1, 1, 1, 1, 1, 1, 1, 1, 1, 1, 1, 1, 1, 1])] [(0, .string s), (2, .pointer (some ⟨t2, 0, none⟩)), (4, .pointer (some ⟨m0, 0, none⟩)), (5, .int .i64 end0), (6, .int .i64 n), (7, .int .i64 p), (8, .int .i64 i)] w := by kernel_rfl
theorem api_DecodeMsg.L1b_sound {R : Int → Int → Int → Int → Int → Int → Int → Bool → Option Addr → Nat → Nat → ByteArray → Int → World → Prop} {N1 : ByteArray → Nat → Nat → Int → Int → Int → Int → World → Prop} (hN1 : ∀ s t2 m0 end0 n p i w, N1 s t2 m0 end0 n p i w → KW Tryz.prog 83 155 (api_DecodeMsg.RV R) ([(0, [1, 1, 1, 1, 1, 1, 1, 1, 1, 1, 1, 1, 1, 0, 1, 0, 0]), (2, [1, 1, 1, 1, 1, 1, 1, 1, 1, 1, 1, 1, 1, 0, 1, 0, 0]), (1, [0]), (0, [1, 1, 1, 1, 1, 1, 1, 1, 1, 1, 1, 1, 1, 1])].map (toItem (Tryz.f83.body.getD .skip))) [(0, .string s), (2, .pointer (some ⟨t2, 0, none⟩)), (4, .pointer (some ⟨m0, 0, none⟩)), (5, .int .i64 end0), (6, .int .i64 n), (7, .int .i64 p), (8, .int .i64 i)] w) (s : ByteArray) (t2 m0 : Nat) (end0 n p i : Int) (w : World) (h : api_DecodeMsg.L1b s t2 m0 end0 n p i w  N1 R) :
    KW Tryz.prog 83 155 (api_DecodeMsg.RV R) ([(0, [1, 1, 1, 1, 1, 1, 1, 1, 1, 1, 1, 1, 1, 0, 1, 0, 0]), (2, [1, 1, 1, 1, 1, 1, 1, 1, 1, 1, 1, 1, 1, 0, 1, 0, 0]), (1, [0]), (0, [1, 1, 1, 1, 1, 1, 1, 1, 1, 1, 1, 1, 1, 1])].map (toItem (Tryz.f83.body.getD .skip))) [(0, .string s), (2, .pointer (some ⟨t2, 0, none⟩)), (4, .pointer (some ⟨m0, 0, none⟩)), (5, .int .i64 end0), (6, .int .i64 n), (7, .int .i64 p), (8, .int .i64 i)] w := by
  exact block_spec Tryz.func83 Tryz.mixed (stops_cons (fun σ w h => by
      obtain ⟨s_, e0, h⟩ := dS_elim h
      obtain ⟨t2_, e1, h⟩ := dK_elim h
      obtain ⟨m0_, e2, h⟩ := dK_elim h
      obtain ⟨end0_, e3, h⟩ := dI_elim h
      obtain ⟨n_, e4, h⟩ := dI_elim h
      obtain ⟨p_, e5, h⟩ := dI_elim h
      obtain ⟨i_, e6, h⟩ := dI_elim h
      exact (hN1 s_ t2_ m0_ end0_ n_ p_ i_ w h).weaken (Sub.cons (Sub.cons (Sub.cons (Sub.cons (Sub.cons (Sub.cons (Sub.cons (Sub.nil _) e6) e5) e4) e3) e2) e1) e0)) stops_nil) (Eq.mp (api_DecodeMsg.L1b_eq s t2 m0 end0 n p i w  N1 R ) h)
def api_DecodeMsg.L1 (s : ByteArray) (t2 m0 : Nat) (end0 n p i : Int) (w : World)  (R : Int → Int → Int → Int → Int → Int → Int → Bool → Option Addr → Nat → Nat → ByteArray → Int → World → Prop) : Prop :=
  ∃ (I : Nat → ByteArray → Nat → Nat → Int → Int → Int → Int → World → Prop) (m : Nat), I m s t2 m0 end0 n p i w ∧ ∀ m s t2 m0 end0 n p i w, I m s t2 m0 end0 n p i w → api_DecodeMsg.L1b s t2 m0 end0 n p i w  (fun s' t2' m0' end0' n' p' i' w' => ∃ m', m' < m ∧ I m' s' t2' m0' end0' n' p' i' w') R
theorem api_DecodeMsg.L1_sound {R : Int → Int → Int → Int → Int → Int → Int → Bool → Option Addr → Nat → Nat → ByteArray → Int → World → Prop}  (s : ByteArray) (t2 m0 : Nat) (end0 n p i : Int) (w : World) (h : api_DecodeMsg.L1 s t2 m0 end0 n p i w  R) :
    KW Tryz.prog 83 155 (api_DecodeMsg.RV R) ([(0, [1, 1, 1, 1, 1, 1, 1, 1, 1, 1, 1, 1, 1, 0, 1, 0, 0]), (2, [1, 1, 1, 1, 1, 1, 1, 1, 1, 1, 1, 1, 1, 0, 1, 0, 0]), (1, [0]), (0, [1, 1, 1, 1, 1, 1, 1, 1, 1, 1, 1, 1, 1, 1])].map (toItem (Tryz.f83.body.getD .skip))) [(0, .string s), (2, .pointer (some ⟨t2, 0, none⟩)), (4, .pointer (some ⟨m0, 0, none⟩)), (5, .int .i64 end0), (6, .int .i64 n), (7, .int .i64 p), (8, .int .i64 i)] w := by
  obtain ⟨I, m, hBase, hr⟩ := h
  refine KW.loop (fun m σ w => ∃ (s : ByteArray) (t2 m0 : Nat) (end0 n p i : Int), σ = [(0, .string s), (2, .pointer (some ⟨t2, 0, none⟩)), (4, .pointer (some ⟨m0, 0, none⟩)), (5, .int .i64 end0), (6, .int .i64 n), (7, .int .i64 p), (8, .int .i64 i)] ∧ I m s t2 m0 end0 n p i w) ?_ m _ w ⟨s, t2, m0, end0, n, p, i, rfl, hBase⟩
  rintro m ih σ w ⟨s, t2, m0, end0, n, p, i, rfl, hI⟩
  exact api_DecodeMsg.L1b_sound  (N1 := fun s' t2' m0' end0' n' p' i' w' => ∃ m', m' < m ∧ I m' s' t2' m0' end0' n' p' i' w') (fun s' t2' m0' end0' n' p' i' w' hx => by obtain ⟨m', hlt, hI'⟩ := hx; exact ih m' hlt _ w' ⟨s', t2', m0', end0', n', p', i', rfl, hI'⟩) s t2 m0 end0 n p i w (hr m s t2 m0 end0 n p i w hI)
def api_DecodeMsg.B1 (s : ByteArray) (t2 m0 : Nat) (t19 : Bool) (w : World)   (R : Int → Int → Int → Int → Int → Int → Int → Bool → Option Addr → Nat → Nat → ByteArray → Int → World → Prop) : Prop :=
  Bm t19 (
    Sts [.int .i64 (0 : Int), .int .i64 (0 : Int), .int .i64 (0 : Int), .int .i64 (0 : Int), .int .i64 (0 : Int), .int .i64 (0 : Int), .int .i64 (0 : Int), .bool false, .slice none 0 0, .string (ByteArray.mk #[])] ⟨t2, 0, none⟩ 0 w fun w1 =>
    LdI .i64 ⟨t2, 0, none⟩ w1 fun r_0 =>
    LdI .i64 ⟨t2, 1, none⟩ w1 fun r_1 =>
    LdI .i64 ⟨t2, 2, none⟩ w1 fun r_2 =>
    LdI .i64 ⟨t2, 3, none⟩ w1 fun r_3 =>
    LdI .i64 ⟨t2, 4, none⟩ w1 fun r_4 =>
    LdI .i64 ⟨t2, 5, none⟩ w1 fun r_5 =>
    LdI .i64 ⟨t2, 6, none⟩ w1 fun r_6 =>
    LdB ⟨t2, 7, none⟩ w1 fun r_7 =>
    LdL ⟨t2, 8, none⟩ w1 fun r_8_b r_8_l r_8_c =>
    LdS ⟨t2, 9, none⟩ w1 fun r_9 =>
    R r_0 r_1 r_2 r_3 r_4 r_5 r_6 r_7 r_8_b r_8_l r_8_c r_9 (12 : Int) w1) (
    (0 ≤ (IntKind.i64.wrap (((s.size : Nat) : Int) - (2 : Int))) ∧ (IntKind.i64.wrap (((s.size : Nat) : Int) - (2 : Int))) ≤ ((s.size : Nat) : Int)) ∧
    (0 ≤ (IntKind.i64.wrap (((s.size : Nat) : Int) - (2 : Int))) ∧ (IntKind.i64.wrap (((s.size : Nat) : Int) - (2 : Int))) < ((s.size : Nat) : Int)) ∧
    0 ≤ (8 : Int) ∧
    (0 ≤ (IntKind.i64.wrap (((s.size : Nat) : Int) - (1 : Int))) ∧ (IntKind.i64.wrap (((s.size : Nat) : Int) - (1 : Int))) < ((s.size : Nat) : Int)) ∧
    ToBytes 5 (s.extract ((0 : Nat) : Int).toNat (IntKind.i64.wrap (((s.size : Nat) : Int) - (2 : Int))).toNat) w.drew fun b26 c26 w2 =>
    api_Sum16.Call (some ⟨b26, 0, none⟩) ((s.extract ((0 : Nat) : Int).toNat (IntKind.i64.wrap (((s.size : Nat) : Int) - (2 : Int))).toNat).size) c26 w2 fun r27 w3 =>
    Bm (r27 != (IntKind.i64.wrap (BitVec.ofInt IntKind.i64.bits (IntKind.i64.wrap ((IntKind.i64.wrap (byteAt s (IntKind.i64.wrap (((s.size : Nat) : Int) - (2 : Int))))) * 2 ^ (min (8 : Int).toNat IntKind.i64.bits))) ||| BitVec.ofInt IntKind.i64.bits (IntKind.i64.wrap (byteAt s (IntKind.i64.wrap (((s.size : Nat) : Int) - (1 : Int)))))).toNat)) (
      Sts [.int .i64 (0 : Int), .int .i64 (0 : Int), .int .i64 (0 : Int), .int .i64 (0 : Int), .int .i64 (0 : Int), .int .i64 (0 : Int), .int .i64 (0 : Int), .bool false, .slice none 0 0, .string (ByteArray.mk #[])] ⟨t2, 0, none⟩ 0 w3 fun w4 =>
      LdI .i64 ⟨t2, 0, none⟩ w4 fun r_0_1 =>
      LdI .i64 ⟨t2, 1, none⟩ w4 fun r_1_1 =>
      LdI .i64 ⟨t2, 2, none⟩ w4 fun r_2_1 =>
      LdI .i64 ⟨t2, 3, none⟩ w4 fun r_3_1 =>
      LdI .i64 ⟨t2, 4, none⟩ w4 fun r_4_1 =>
      LdI .i64 ⟨t2, 5, none⟩ w4 fun r_5_1 =>
      LdI .i64 ⟨t2, 6, none⟩ w4 fun r_6_1 =>
      LdB ⟨t2, 7, none⟩ w4 fun r_7_1 =>
      LdL ⟨t2, 8, none⟩ w4 fun r_8_b_1 r_8_l_1 r_8_c_1 =>
      LdS ⟨t2, 9, none⟩ w4 fun r_9_1 =>
      R r_0_1 r_1_1 r_2_1 r_3_1 r_4_1 r_5_1 r_6_1 r_7_1 r_8_b_1 r_8_l_1 r_8_c_1 r_9_1 (12 : Int) w4) (
      (0 ≤ (3 : Int) ∧ (3 : Int) < ((s.size : Nat) : Int)) ∧
      Bm (decide ((byteAt s (3 : Int)) > (1 : Int))) (
        Sts [.int .i64 (0 : Int), .int .i64 (0 : Int), .int .i64 (0 : Int), .int .i64 (0 : Int), .int .i64 (0 : Int), .int .i64 (0 : Int), .int .i64 (0 : Int), .bool false, .slice none 0 0, .string (ByteArray.mk #[])] ⟨t2, 0, none⟩ 0 w3 fun w5 =>
        LdI .i64 ⟨t2, 0, none⟩ w5 fun r_0_2 =>
        LdI .i64 ⟨t2, 1, none⟩ w5 fun r_1_2 =>
        LdI .i64 ⟨t2, 2, none⟩ w5 fun r_2_2 =>
        LdI .i64 ⟨t2, 3, none⟩ w5 fun r_3_2 =>
        LdI .i64 ⟨t2, 4, none⟩ w5 fun r_4_2 =>
        LdI .i64 ⟨t2, 5, none⟩ w5 fun r_5_2 =>
        LdI .i64 ⟨t2, 6, none⟩ w5 fun r_6_2 =>
        LdB ⟨t2, 7, none⟩ w5 fun r_7_2 =>
        LdL ⟨t2, 8, none⟩ w5 fun r_8_b_2 r_8_l_2 r_8_c_2 =>
        LdS ⟨t2, 9, none⟩ w5 fun r_9_2 =>
        R r_0_2 r_1_2 r_2_2 r_3_2 r_4_2 r_5_2 r_6_2 r_7_2 r_8_b_2 r_8_l_2 r_8_c_2 r_9_2 (12 : Int) w5) (
        (0 ≤ (0 : Int) ∧ (0 : Int) < ((s.size : Nat) : Int)) ∧
        (0 ≤ (1 : Int) ∧ (1 : Int) < ((s.size : Nat) : Int)) ∧
        (0 ≤ (2 : Int) ∧ (2 : Int) < ((s.size : Nat) : Int)) ∧
        (0 ≤ (3 : Int) ∧ (3 : Int) < ((s.size : Nat) : Int)) ∧
        Sts [.int .i64 (IntKind.i64.wrap (byteAt s (0 : Int)))] ⟨m0, 0, none⟩ 0 w3.drew fun w6 =>
        Sts [.int .i64 (IntKind.i64.wrap (byteAt s (1 : Int)))] ⟨m0, 1, none⟩ 0 w6 fun w7 =>
        Sts [.int .i64 (IntKind.i64.wrap (byteAt s (2 : Int)))] ⟨m0, 2, none⟩ 0 w7 fun w8 =>
        Sts [.bool ((byteAt s (3 : Int)) == (1 : Int))] ⟨m0, 7, none⟩ 0 w8 fun w9 =>
        api_GetU64.Call s (4 : Int) w9 fun r68 w10 =>
        Sts [.int .i64 r68] ⟨m0, 3, none⟩ 0 w10 fun w11 =>
        api_GetU64.Call s (12 : Int) w11 fun r71 w12 =>
        Sts [.int .i64 r71] ⟨m0, 4, none⟩ 0 w12 fun w13 =>
        api_GetU64.Call s (20 : Int) w13 fun r74 w14 =>
        Sts [.int .i64 r74] ⟨m0, 5, none⟩ 0 w14 fun w15 =>
        api_GetU64.Call s (28 : Int) w15 fun r77 w16 =>
        Sts [.int .i64 r77] ⟨m0, 6, none⟩ 0 w16 fun w17 =>
        (0 ≤ (36 : Int) ∧ (36 : Int) < ((s.size : Nat) : Int)) ∧
        Bm (decide ((IntKind.i64.wrap (byteAt s (36 : Int))) > (2 : Int))) (
          Sts [.int .i64 (0 : Int), .int .i64 (0 : Int), .int .i64 (0 : Int), .int .i64 (0 : Int), .int .i64 (0 : Int), .int .i64 (0 : Int), .int .i64 (0 : Int), .bool false, .slice none 0 0, .string (ByteArray.mk #[])] ⟨t2, 0, none⟩ 0 w17 fun w18 =>
          LdI .i64 ⟨t2, 0, none⟩ w18 fun r_0_3 =>
          LdI .i64 ⟨t2, 1, none⟩ w18 fun r_1_3 =>
          LdI .i64 ⟨t2, 2, none⟩ w18 fun r_2_3 =>
          LdI .i64 ⟨t2, 3, none⟩ w18 fun r_3_3 =>
          LdI .i64 ⟨t2, 4, none⟩ w18 fun r_4_3 =>
          LdI .i64 ⟨t2, 5, none⟩ w18 fun r_5_3 =>
          LdI .i64 ⟨t2, 6, none⟩ w18 fun r_6_3 =>
          LdB ⟨t2, 7, none⟩ w18 fun r_7_3 =>
          LdL ⟨t2, 8, none⟩ w18 fun r_8_b_3 r_8_l_3 r_8_c_3 =>
          LdS ⟨t2, 9, none⟩ w18 fun r_9_3 =>
          R r_0_3 r_1_3 r_2_3 r_3_3 r_4_3 r_5_3 r_6_3 r_7_3 r_8_b_3 r_8_l_3 r_8_c_3 r_9_3 (12 : Int) w18) (
          api_DecodeMsg.L1 s t2 m0 (IntKind.i64.wrap (((s.size : Nat) : Int) - (2 : Int))) (IntKind.i64.wrap (byteAt s (36 : Int))) (37 : Int) (0 : Int) w17  R))))
theorem api_DecodeMsg.B1_eq (s : ByteArray) (t2 m0 : Nat) (t19 : Bool) (w : World)   (R : Int → Int → Int → Int → Int → Int → Int → Bool → Option Addr → Nat → Nat → ByteArray → Int → World → Prop) (sL1 : ByteArray → Nat → Nat → Int → Int → Int → Int → World → Prop) :
    (
  Bm t19 (
    Sts [.int .i64 (0 : Int), .int .i64 (0 : Int), .int .i64 (0 : Int), .int .i64 (0 : Int), .int .i64 (0 : Int), .int .i64 (0 : Int), .int .i64 (0 : Int), .bool false, .slice none 0 0, .string (ByteArray.mk #[])] ⟨t2, 0, none⟩ 0 w fun w1 =>
    LdI .i64 ⟨t2, 0, none⟩ w1 fun r_0 =>
    LdI .i64 ⟨t2, 1, none⟩ w1 fun r_1 =>
    LdI .i64 ⟨t2, 2, none⟩ w1 fun r_2 =>
    LdI .i64 ⟨t2, 3, none⟩ w1 fun r_3 =>
    LdI .i64 ⟨t2, 4, none⟩ w1 fun r_4 =>
    LdI .i64 ⟨t2, 5, none⟩ w1 fun r_5 =>
    LdI .i64 ⟨t2, 6, none⟩ w1 fun r_6 =>
    LdB ⟨t2, 7, none⟩ w1 fun r_7 =>
    LdL ⟨t2, 8, none⟩ w1 fun r_8_b r_8_l r_8_c =>
    LdS ⟨t2, 9, none⟩ w1 fun r_9 =>
    R r_0 r_1 r_2 r_3 r_4 r_5 r_6 r_7 r_8_b r_8_l r_8_c r_9 (12 : Int) w1) (
    (0 ≤ (IntKind.i64.wrap (((s.size : Nat) : Int) - (2 : Int))) ∧ (IntKind.i64.wrap (((s.size : Nat) : Int) - (2 : Int))) ≤ ((s.size : Nat) : Int)) ∧
    (0 ≤ (IntKind.i64.wrap (((s.size : Nat) : Int) - (2 : Int))) ∧ (IntKind.i64.wrap (((s.size : Nat) : Int) - (2 : Int))) < ((s.size : Nat) : Int)) ∧
    0 ≤ (8 : Int) ∧
    (0 ≤ (IntKind.i64.wrap (((s.size : Nat) : Int) - (1 : Int))) ∧ (IntKind.i64.wrap (((s.size : Nat) : Int) - (1 : Int))) < ((s.size : Nat) : Int)) ∧
    ToBytes 5 (s.extract ((0 : Nat) : Int).toNat (IntKind.i64.wrap (((s.size : Nat) : Int) - (2 : Int))).toNat) w.drew fun b26 c26 w2 =>
    api_Sum16.Call (some ⟨b26, 0, none⟩) ((s.extract ((0 : Nat) : Int).toNat (IntKind.i64.wrap (((s.size : Nat) : Int) - (2 : Int))).toNat).size) c26 w2 fun r27 w3 =>
    Bm (r27 != (IntKind.i64.wrap (BitVec.ofInt IntKind.i64.bits (IntKind.i64.wrap ((IntKind.i64.wrap (byteAt s (IntKind.i64.wrap (((s.size : Nat) : Int) - (2 : Int))))) * 2 ^ (min (8 : Int).toNat IntKind.i64.bits))) ||| BitVec.ofInt IntKind.i64.bits (IntKind.i64.wrap (byteAt s (IntKind.i64.wrap (((s.size : Nat) : Int) - (1 : Int)))))).toNat)) (
      Sts [.int .i64 (0 : Int), .int .i64 (0 : Int), .int .i64 (0 : Int), .int .i64 (0 : Int), .int .i64 (0 : Int), .int .i64 (0 : Int), .int .i64 (0 : Int), .bool false, .slice none 0 0, .string (ByteArray.mk #[])] ⟨t2, 0, none⟩ 0 w3 fun w4 =>
      LdI .i64 ⟨t2, 0, none⟩ w4 fun r_0_1 =>
      LdI .i64 ⟨t2, 1, none⟩ w4 fun r_1_1 =>
      LdI .i64 ⟨t2, 2, none⟩ w4 fun r_2_1 =>
      LdI .i64 ⟨t2, 3, none⟩ w4 fun r_3_1 =>
      LdI .i64 ⟨t2, 4, none⟩ w4 fun r_4_1 =>
      LdI .i64 ⟨t2, 5, none⟩ w4 fun r_5_1 =>
      LdI .i64 ⟨t2, 6, none⟩ w4 fun r_6_1 =>
      LdB ⟨t2, 7, none⟩ w4 fun r_7_1 =>
      LdL ⟨t2, 8, none⟩ w4 fun r_8_b_1 r_8_l_1 r_8_c_1 =>
      LdS ⟨t2, 9, none⟩ w4 fun r_9_1 =>
      R r_0_1 r_1_1 r_2_1 r_3_1 r_4_1 r_5_1 r_6_1 r_7_1 r_8_b_1 r_8_l_1 r_8_c_1 r_9_1 (12 : Int) w4) (
      (0 ≤ (3 : Int) ∧ (3 : Int) < ((s.size : Nat) : Int)) ∧
      Bm (decide ((byteAt s (3 : Int)) > (1 : Int))) (
        Sts [.int .i64 (0 : Int), .int .i64 (0 : Int), .int .i64 (0 : Int), .int .i64 (0 : Int), .int .i64 (0 : Int), .int .i64 (0 : Int), .int .i64 (0 : Int), .bool false, .slice none 0 0, .string (ByteArray.mk #[])] ⟨t2, 0, none⟩ 0 w3 fun w5 =>
        LdI .i64 ⟨t2, 0, none⟩ w5 fun r_0_2 =>
        LdI .i64 ⟨t2, 1, none⟩ w5 fun r_1_2 =>
        LdI .i64 ⟨t2, 2, none⟩ w5 fun r_2_2 =>
        LdI .i64 ⟨t2, 3, none⟩ w5 fun r_3_2 =>
        LdI .i64 ⟨t2, 4, none⟩ w5 fun r_4_2 =>
        LdI .i64 ⟨t2, 5, none⟩ w5 fun r_5_2 =>
        LdI .i64 ⟨t2, 6, none⟩ w5 fun r_6_2 =>
        LdB ⟨t2, 7, none⟩ w5 fun r_7_2 =>
        LdL ⟨t2, 8, none⟩ w5 fun r_8_b_2 r_8_l_2 r_8_c_2 =>
        LdS ⟨t2, 9, none⟩ w5 fun r_9_2 =>
        R r_0_2 r_1_2 r_2_2 r_3_2 r_4_2 r_5_2 r_6_2 r_7_2 r_8_b_2 r_8_l_2 r_8_c_2 r_9_2 (12 : Int) w5) (
        (0 ≤ (0 : Int) ∧ (0 : Int) < ((s.size : Nat) : Int)) ∧
        (0 ≤ (1 : Int) ∧ (1 : Int) < ((s.size : Nat) : Int)) ∧
        (0 ≤ (2 : Int) ∧ (2 : Int) < ((s.size : Nat) : Int)) ∧
        (0 ≤ (3 : Int) ∧ (3 : Int) < ((s.size : Nat) : Int)) ∧
        Sts [.int .i64 (IntKind.i64.wrap (byteAt s (0 : Int)))] ⟨m0, 0, none⟩ 0 w3.drew fun w6 =>
        Sts [.int .i64 (IntKind.i64.wrap (byteAt s (1 : Int)))] ⟨m0, 1, none⟩ 0 w6 fun w7 =>
        Sts [.int .i64 (IntKind.i64.wrap (byteAt s (2 : Int)))] ⟨m0, 2, none⟩ 0 w7 fun w8 =>
        Sts [.bool ((byteAt s (3 : Int)) == (1 : Int))] ⟨m0, 7, none⟩ 0 w8 fun w9 =>
        api_GetU64.Call s (4 : Int) w9 fun r68 w10 =>
        Sts [.int .i64 r68] ⟨m0, 3, none⟩ 0 w10 fun w11 =>
        api_GetU64.Call s (12 : Int) w11 fun r71 w12 =>
        Sts [.int .i64 r71] ⟨m0, 4, none⟩ 0 w12 fun w13 =>
        api_GetU64.Call s (20 : Int) w13 fun r74 w14 =>
        Sts [.int .i64 r74] ⟨m0, 5, none⟩ 0 w14 fun w15 =>
        api_GetU64.Call s (28 : Int) w15 fun r77 w16 =>
        Sts [.int .i64 r77] ⟨m0, 6, none⟩ 0 w16 fun w17 =>
        (0 ≤ (36 : Int) ∧ (36 : Int) < ((s.size : Nat) : Int)) ∧
        Bm (decide ((IntKind.i64.wrap (byteAt s (36 : Int))) > (2 : Int))) (
          Sts [.int .i64 (0 : Int), .int .i64 (0 : Int), .int .i64 (0 : Int), .int .i64 (0 : Int), .int .i64 (0 : Int), .int .i64 (0 : Int), .int .i64 (0 : Int), .bool false, .slice none 0 0, .string (ByteArray.mk #[])] ⟨t2, 0, none⟩ 0 w17 fun w18 =>
          LdI .i64 ⟨t2, 0, none⟩ w18 fun r_0_3 =>
          LdI .i64 ⟨t2, 1, none⟩ w18 fun r_1_3 =>
          LdI .i64 ⟨t2, 2, none⟩ w18 fun r_2_3 =>
          LdI .i64 ⟨t2, 3, none⟩ w18 fun r_3_3 =>
          LdI .i64 ⟨t2, 4, none⟩ w18 fun r_4_3 =>
          LdI .i64 ⟨t2, 5, none⟩ w18 fun r_5_3 =>
          LdI .i64 ⟨t2, 6, none⟩ w18 fun r_6_3 =>
          LdB ⟨t2, 7, none⟩ w18 fun r_7_3 =>
          LdL ⟨t2, 8, none⟩ w18 fun r_8_b_3 r_8_l_3 r_8_c_3 =>
          LdS ⟨t2, 9, none⟩ w18 fun r_9_3 =>
          R r_0_3 r_1_3 r_2_3 r_3_3 r_4_3 r_5_3 r_6_3 r_7_3 r_8_b_3 r_8_l_3 r_8_c_3 r_9_3 (12 : Int) w18) (
          sL1 s t2 m0 (IntKind.i64.wrap (((s.size : Nat) : Int) - (2 : Int))) (IntKind.i64.wrap (byteAt s (36 : Int))) (37 : Int) (0 : Int) w17))))) = kstep Tryz.prog 155 Tryz.f83.results.toList (Tryz.f83.body.getD .skip) (api_DecodeMsg.RV R) (kvc Tryz.prog 155 Tryz.f83.results.toList (Tryz.f83.body.getD .skip) (api_DecodeMsg.RV R) [([(0, [1, 1, 1, 1, 1, 1, 1, 1, 1, 1, 1, 1, 1, 0, 1, 0, 0]), (2, [1, 1, 1, 1, 1, 1, 1, 1, 1, 1, 1, 1, 1, 0, 1, 0, 0]), (1, [0]), (0, [1, 1, 1, 1, 1, 1, 1, 1, 1, 1, 1, 1, 1, 1])], fun σ w => dS (slotOf σ 0) fun s_ => dK (slotOf σ 2) fun t2_ => dK (slotOf σ 4) fun m0_ => dI .i64 (slotOf σ 5) fun end0_ => dI .i64 (slotOf σ 6) fun n_ => dI .i64 (slotOf σ 7) fun p_ => dI .i64 (slotOf σ 8) fun i_ => sL1 s_ t2_ m0_ end0_ n_ p_ i_ w)] 2000) [(0, [1, 1, 0, 1]), (0, [1, 1, 1])] [(0, .string s), (2, .pointer (some ⟨t2, 0, none⟩)), (4, .pointer (some ⟨m0, 0, none⟩)), (19, .bool t19)] w := by kernel_rfl
theorem api_DecodeMsg.B1_sound {R : Int → Int → Int → Int → Int → Int → Int → Bool → Option Addr → Nat → Nat → ByteArray → Int → World → Prop}  (s : ByteArray) (t2 m0 : Nat) (t19 : Bool) (w : World) (h : api_DecodeMsg.B1 s t2 m0 t19 w   R) :
    KW Tryz.prog 83 155 (api_DecodeMsg.RV R) ([(0, [1, 1, 0, 1]), (0, [1, 1, 1])].map (toItem (Tryz.f83.body.getD .skip))) [(0, .string s), (2, .pointer (some ⟨t2, 0, none⟩)), (4, .pointer (some ⟨m0, 0, none⟩)), (19, .bool t19)] w := by
  exact block_spec Tryz.func83 Tryz.mixed (stops_cons (fun σ w h => by
      obtain ⟨s_, e0, h⟩ := dS_elim h
      obtain ⟨t2_, e1, h⟩ := dK_elim h
      obtain ⟨m0_, e2, h⟩ := dK_elim h
      obtain ⟨end0_, e3, h⟩ := dI_elim h
      obtain ⟨n_, e4, h⟩ := dI_elim h
      obtain ⟨p_, e5, h⟩ := dI_elim h
      obtain ⟨i_, e6, h⟩ := dI_elim h
      exact (api_DecodeMsg.L1_sound  s_ t2_ m0_ end0_ n_ p_ i_ w h).weaken (Sub.cons (Sub.cons (Sub.cons (Sub.cons (Sub.cons (Sub.cons (Sub.cons (Sub.nil _) e6) e5) e4) e3) e2) e1) e0)) stops_nil) (Eq.mp (api_DecodeMsg.B1_eq s t2 m0 t19 w   R (fun s_ t2_ m0_ end0_ n_ p_ i_ w => api_DecodeMsg.L1 s_ t2_ m0_ end0_ n_ p_ i_ w  R)) h)
def api_DecodeMsg.B0 (s : ByteArray) (w : World)   (R : Int → Int → Int → Int → Int → Int → Int → Bool → Option Addr → Nat → Nat → ByteArray → Int → World → Prop) : Prop :=
  New (.cells #[.int .i64 (0 : Int), .int .i64 (0 : Int), .int .i64 (0 : Int), .int .i64 (0 : Int), .int .i64 (0 : Int), .int .i64 (0 : Int), .int .i64 (0 : Int), .bool false, .slice none 0 0, .string (ByteArray.mk #[])] 101) w fun b2 w1 =>
  New (.cells #[.int .i64 (0 : Int), .int .i64 (0 : Int), .int .i64 (0 : Int), .int .i64 (0 : Int), .int .i64 (0 : Int), .int .i64 (0 : Int), .int .i64 (0 : Int), .bool false, .slice none 0 0, .string (ByteArray.mk #[])] 101) w1 fun m0_ w2 =>
  Bm (decide (((s.size : Nat) : Int) < (40 : Int))) (
    api_DecodeMsg.B1 s b2 m0_ true w2  R) (
    api_DecodeMsg.B1 s b2 m0_ (decide (((s.size : Nat) : Int) > (234 : Int))) w2  R)
theorem api_DecodeMsg.B0_eq (s : ByteArray) (w : World)   (R : Int → Int → Int → Int → Int → Int → Int → Bool → Option Addr → Nat → Nat → ByteArray → Int → World → Prop) (sB1 : ByteArray → Nat → Nat → Bool → World → Prop) :
    (
  New (.cells #[.int .i64 (0 : Int), .int .i64 (0 : Int), .int .i64 (0 : Int), .int .i64 (0 : Int), .int .i64 (0 : Int), .int .i64 (0 : Int), .int .i64 (0 : Int), .bool false, .slice none 0 0, .string (ByteArray.mk #[])] 101) w fun b2 w1 =>
  New (.cells #[.int .i64 (0 : Int), .int .i64 (0 : Int), .int .i64 (0 : Int), .int .i64 (0 : Int), .int .i64 (0 : Int), .int .i64 (0 : Int), .int .i64 (0 : Int), .bool false, .slice none 0 0, .string (ByteArray.mk #[])] 101) w1 fun m0_ w2 =>
  Bm (decide (((s.size : Nat) : Int) < (40 : Int))) (
    sB1 s b2 m0_ true w2) (
    sB1 s b2 m0_ (decide (((s.size : Nat) : Int) > (234 : Int))) w2)) = kstep Tryz.prog 155 Tryz.f83.results.toList (Tryz.f83.body.getD .skip) (api_DecodeMsg.RV R) (kvc Tryz.prog 155 Tryz.f83.results.toList (Tryz.f83.body.getD .skip) (api_DecodeMsg.RV R) [([(0, [1, 1, 0, 1]), (0, [1, 1, 1])], fun σ w => dS (slotOf σ 0) fun s_ => dK (slotOf σ 2) fun t2_ => dK (slotOf σ 4) fun m0_ => dB (slotOf σ 19) fun t19_ => sB1 s_ t2_ m0_ t19_ w)] 2000) [(0, [])] [(0, .string s)] w := by kernel_rfl
theorem api_DecodeMsg.B0_sound {R : Int → Int → Int → Int → Int → Int → Int → Bool → Option Addr → Nat → Nat → ByteArray → Int → World → Prop}  (s : ByteArray) (w : World) (h : api_DecodeMsg.B0 s w   R) :
    KW Tryz.prog 83 155 (api_DecodeMsg.RV R) ([(0, [])].map (toItem (Tryz.f83.body.getD .skip))) [(0, .string s)] w := by
  exact block_spec Tryz.func83 Tryz.mixed (stops_cons (fun σ w h => by
      obtain ⟨s_, e0, h⟩ := dS_elim h
      obtain ⟨t2_, e1, h⟩ := dK_elim h
      obtain ⟨m0_, e2, h⟩ := dK_elim h
      obtain ⟨t19_, e3, h⟩ := dB_elim h
      exact (api_DecodeMsg.B1_sound  s_ t2_ m0_ t19_ w h).weaken (Sub.cons (Sub.cons (Sub.cons (Sub.cons (Sub.nil _) e3) e2) e1) e0)) stops_nil) (Eq.mp (api_DecodeMsg.B0_eq s w   R (fun s_ t2_ m0_ t19_ w => api_DecodeMsg.B1 s_ t2_ m0_ t19_ w  R)) h)
theorem api_DecodeMsg.sound (s : ByteArray) (w : World) (R : Int → Int → Int → Int → Int → Int → Int → Bool → Option Addr → Nat → Nat → ByteArray → Int → World → Prop) (h : api_DecodeMsg.B0 s w R) : api_DecodeMsg.Call s w R := by
  have hc := calls_of_block (args := #[.string s]) Tryz.func83 (body := (Tryz.f83.body.getD .skip)) (by kernel_rfl) (by kernel_rfl) (args_slot _) (api_DecodeMsg.B0_sound s w h)
  exact hc.mono fun e w' he => by
    obtain ⟨v, rfl, hv⟩ := he
    exact api_DecodeMsg.RV_elim hv
def syncm_Sync_View.L1b (s : Option Addr) (v : Nat) (p : Int) (w : World)  (N1 : Option Addr → Nat → Int → World → Prop) (R : Option Addr → World → Prop) : Prop :=
  Bm (decide (p < (3 : Int))) (
    Pn s fun a =>
    LdP (a.add 1) w.drew fun x64 =>
    electm_Elect_Got.Call x64 p w.drew fun r66 w1 =>
    (0 ≤ p ∧ p < ((3 : Nat) : Int)) ∧
    Sts [.bool r66] (Addr.add ⟨v, 6, none⟩ (p.toNat * 1)) 0 w1 fun w2 =>
    N1 s v (IntKind.i64.wrap (p + (1 : Int))) w2) (
    Pn s fun a_1 =>
    LdI .i64 (a_1.add 2) w fun x74 =>
    Sts [.int .i64 x74] ⟨v, 9, none⟩ 0 w fun w3 =>
    Pn s fun a_2 =>
    LdP a_2 w3 fun x81 =>
    rlogm_Log_Base.Call x81 w3 fun r82 w4 =>
    Sts [.int .i64 r82] ⟨v, 10, none⟩ 0 w4 fun w5 =>
    Pn s fun a_3 =>
    LdP a_3 w5 fun x89 =>
    rlogm_Log_BaseTerm.Call x89 w5 fun r90 w6 =>
    Sts [.int .i64 r90] ⟨v, 11, none⟩ 0 w6 fun w7 =>
    Pn s fun a_4 =>
    LdP a_4 w7 fun x97 =>
    rlogm_Log_Last.Call x97 w7 fun r98 w8 =>
    Sts [.int .i64 r98] ⟨v, 12, none⟩ 0 w8 fun w9 =>
    Pn s fun a_5 =>
    LdP a_5 w9 fun x105 =>
    rlogm_Log_Snap.Call x105 w9 fun r106 w10 =>
    Sts [.string r106] ⟨v, 13, none⟩ 0 w10 fun w11 =>
    Pn s fun a_6 =>
    LdI .i64 (a_6.add 3) w11.drew fun x114_0 =>
    LdI .i64 ((a_6.add 3).add 1) w11.drew fun x114_1 =>
    LdI .i64 ((a_6.add 3).add 2) w11.drew fun x114_2 =>
    Pn s fun a_7 =>
    LdI .i64 (a_7.add 6) w11.drew fun x118_0 =>
    LdI .i64 ((a_7.add 6).add 1) w11.drew fun x118_1 =>
    LdI .i64 ((a_7.add 6).add 2) w11.drew fun x118_2 =>
    Sts [.int .i64 x114_0, .int .i64 x114_1, .int .i64 x114_2] ⟨v, 14, none⟩ 0 w11.drew fun w12 =>
    Sts [.int .i64 x118_0, .int .i64 x118_1, .int .i64 x118_2] ⟨v, 17, none⟩ 0 w12 fun w13 =>
    R (some ⟨v, 0, none⟩) w13)
theorem syncm_Sync_View.L1b_eq (s : Option Addr) (v : Nat) (p : Int) (w : World)  (N1 : Option Addr → Nat → Int → World → Prop) (R : Option Addr → World → Prop)  :
    (
  Bm (decide (p < (3 : Int))) (
    Pn s fun a =>
    LdP (a.add 1) w.drew fun x64 =>
    electm_Elect_Got.Call x64 p w.drew fun r66 w1 =>
    (0 ≤ p ∧ p < ((3 : Nat) : Int)) ∧
    Sts [.bool r66] (Addr.add ⟨v, 6, none⟩ (p.toNat * 1)) 0 w1 fun w2 =>
    N1 s v (IntKind.i64.wrap (p + (1 : Int))) w2) (
    Pn s fun a_1 =>
    LdI .i64 (a_1.add 2) w fun x74 =>
    Sts [.int .i64 x74] ⟨v, 9, none⟩ 0 w fun w3 =>
    Pn s fun a_2 =>
    LdP a_2 w3 fun x81 =>
    rlogm_Log_Base.Call x81 w3 fun r82 w4 =>
    Sts [.int .i64 r82] ⟨v, 10, none⟩ 0 w4 fun w5 =>
    Pn s fun a_3 =>
    LdP a_3 w5 fun x89 =>
    rlogm_Log_BaseTerm.Call x89 w5 fun r90 w6 =>
    Sts [.int .i64 r90] ⟨v, 11, none⟩ 0 w6 fun w7 =>
    Pn s fun a_4 =>
    LdP a_4 w7 fun x97 =>
    rlogm_Log_Last.Call x97 w7 fun r98 w8 =>
    Sts [.int .i64 r98] ⟨v, 12, none⟩ 0 w8 fun w9 =>
    Pn s fun a_5 =>
    LdP a_5 w9 fun x105 =>
    rlogm_Log_Snap.Call x105 w9 fun r106 w10 =>
    Sts [.string r106] ⟨v, 13, none⟩ 0 w10 fun w11 =>
    Pn s fun a_6 =>
    LdI .i64 (a_6.add 3) w11.drew fun x114_0 =>
    LdI .i64 ((a_6.add 3).add 1) w11.drew fun x114_1 =>
    LdI .i64 ((a_6.add 3).add 2) w11.drew fun x114_2 =>
    Pn s fun a_7 =>
    LdI .i64 (a_7.add 6) w11.drew fun x118_0 =>
    LdI .i64 ((a_7.add 6).add 1) w11.drew fun x118_1 =>
    LdI .i64 ((a_7.add 6).add 2) w11.drew fun x118_2 =>
    Sts [.int .i64 x114_0, .int .i64 x114_1, .int .i64 x114_2] ⟨v, 14, none⟩ 0 w11.drew fun w12 =>
    Sts [.int .i64 x118_0, .int .i64 x118_1, .int .i64 x118_2] ⟨v, 17, none⟩ 0 w12 fun w13 =>
    R (some ⟨v, 0, none⟩) w13)) = kstep Tryz.prog 124 Tryz.f84.results.toList (Tryz.f84.body.getD .skip) (syncm_Sync_View.RV R) (kvc Tryz.prog 124 Tryz.f84.results.toList (Tryz.f84.body.getD .skip) (syncm_Sync_View.RV R) [([(0, [1, 1, 1, 1, 1, 1, 1, 1, 0, 1, 0, 0]), (2, [1, 1, 1, 1, 1, 1, 1, 1, 0, 1, 0, 0]), (1, [0]), (0, [1, 1, 1, 1, 1, 1, 1, 1, 1])], fun σ w => dP (slotOf σ 0) fun s_ => dK (slotOf σ 3) fun v_ => dI .i64 (slotOf σ 4) fun p_ => N1 s_ v_ p_ w)] 2000) [(0, [1, 1, 1, 1, 1, 1, 1, 1, 0, 1, 0, 0]), (2, [1, 1, 1, 1, 1, 1, 1, 1, 0, 1, 0, 0]), (1, [0]), (0, [1, 1, 1, 1, 1, 1, 1, 1, 1])] [(0, .pointer s), (3, .pointer (some ⟨v, 0, none⟩)), (4, .int .i64 p)] w := by kernel_rfl
theorem syncm_Sync_View.L1b_sound {R : Option Addr → World → Prop} {N1 : Option Addr → Nat → Int → World → Prop} (hN1 : ∀ s v p w, N1 s v p w → KW Tryz.prog 84 124 (syncm_Sync_View.RV R) ([(0, [1, 1, 1, 1, 1, 1, 1, 1, 0, 1, 0, 0]), (2, [1, 1, 1, 1, 1, 1, 1, 1, 0, 1, 0, 0]), (1, [0]), (0, [1, 1, 1, 1, 1, 1, 1, 1, 1])].map (toItem (Tryz.f84.body.getD .skip))) [(0, .pointer s), (3, .pointer (some ⟨v, 0, none⟩)), (4, .int .i64 p)] w) (s : Option Addr) (v : Nat) (p : Int) (w : World) (h : syncm_Sync_View.L1b s v p w  N1 R) :
    KW Tryz.prog 84 124 (syncm_Sync_View.RV R) ([(0, [1, 1, 1, 1, 1, 1, 1, 1, 0, 1, 0, 0]), (2, [1, 1, 1, 1, 1, 1, 1, 1, 0, 1, 0, 0]), (1, [0]), (0, [1, 1, 1, 1, 1, 1, 1, 1, 1])].map (toItem (Tryz.f84.body.getD .skip))) [(0, .pointer s), (3, .pointer (some ⟨v, 0, none⟩)), (4, .int .i64 p)] w := by
  exact block_spec Tryz.func84 Tryz.mixed (stops_cons (fun σ w h => by
      obtain ⟨s_, e0, h⟩ := dP_elim h
      obtain ⟨v_, e1, h⟩ := dK_elim h
      obtain ⟨p_, e2, h⟩ := dI_elim h
      exact (hN1 s_ v_ p_ w h).weaken (Sub.cons (Sub.cons (Sub.cons (Sub.nil _) e2) e1) e0)) stops_nil) (Eq.mp (syncm_Sync_View.L1b_eq s v p w  N1 R ) h)
def syncm_Sync_View.L1 (s : Option Addr) (v : Nat) (p : Int) (w : World)  (R : Option Addr → World → Prop) : Prop :=
  ∃ (I : Nat → Option Addr → Nat → Int → World → Prop) (m : Nat), I m s v p w ∧ ∀ m s v p w, I m s v p w → syncm_Sync_View.L1b s v p w  (fun s' v' p' w' => ∃ m', m' < m ∧ I m' s' v' p' w') R
theorem syncm_Sync_View.L1_sound {R : Option Addr → World → Prop}  (s : Option Addr) (v : Nat) (p : Int) (w : World) (h : syncm_Sync_View.L1 s v p w  R) :
    KW Tryz.prog 84 124 (syncm_Sync_View.RV R) ([(0, [1, 1, 1, 1, 1, 1, 1, 1, 0, 1, 0, 0]), (2, [1, 1, 1, 1, 1, 1, 1, 1, 0, 1, 0, 0]), (1, [0]), (0, [1, 1, 1, 1, 1, 1, 1, 1, 1])].map (toItem (Tryz.f84.body.getD .skip))) [(0, .pointer s), (3, .pointer (some ⟨v, 0, none⟩)), (4, .int .i64 p)] w := by
  obtain ⟨I, m, hBase, hr⟩ := h
  refine KW.loop (fun m σ w => ∃ (s : Option Addr) (v : Nat) (p : Int), σ = [(0, .pointer s), (3, .pointer (some ⟨v, 0, none⟩)), (4, .int .i64 p)] ∧ I m s v p w) ?_ m _ w ⟨s, v, p, rfl, hBase⟩
  rintro m ih σ w ⟨s, v, p, rfl, hI⟩
  exact syncm_Sync_View.L1b_sound  (N1 := fun s' v' p' w' => ∃ m', m' < m ∧ I m' s' v' p' w') (fun s' v' p' w' hx => by obtain ⟨m', hlt, hI'⟩ := hx; exact ih m' hlt _ w' ⟨s', v', p', rfl, hI'⟩) s v p w (hr m s v p w hI)
def syncm_Sync_View.B0 (s : Option Addr) (w : World)   (R : Option Addr → World → Prop) : Prop :=
  New (.cells #[.int .i64 (0 : Int), .int .i64 (0 : Int), .int .i64 (0 : Int), .int .i64 (0 : Int), .int .i64 (0 : Int), .int .i64 (0 : Int), .bool false, .bool false, .bool false, .int .i64 (0 : Int), .int .i64 (0 : Int), .int .i64 (0 : Int), .int .i64 (0 : Int), .string (ByteArray.mk #[]), .int .i64 (0 : Int), .int .i64 (0 : Int), .int .i64 (0 : Int), .int .i64 (0 : Int), .int .i64 (0 : Int), .int .i64 (0 : Int)] 108) w fun b6 w1 =>
  Pn s fun a =>
  LdP (a.add 1) w1 fun x11 =>
  electm_Elect_Id.Call x11 w1 fun r12 w2 =>
  Sts [.int .i64 r12] ⟨b6, 0, none⟩ 0 w2 fun w3 =>
  Pn s fun a_1 =>
  LdP (a_1.add 1) w3 fun x19 =>
  electm_Elect_Term.Call x19 w3 fun r20 w4 =>
  Sts [.int .i64 r20] ⟨b6, 1, none⟩ 0 w4 fun w5 =>
  Pn s fun a_2 =>
  LdP (a_2.add 1) w5 fun x27 =>
  electm_Elect_Vote.Call x27 w5 fun r28 w6 =>
  Sts [.int .i64 r28] ⟨b6, 2, none⟩ 0 w6 fun w7 =>
  Pn s fun a_3 =>
  LdP (a_3.add 1) w7 fun x35 =>
  electm_Elect_Role.Call x35 w7 fun r36 w8 =>
  Sts [.int .i64 r36] ⟨b6, 3, none⟩ 0 w8 fun w9 =>
  Pn s fun a_4 =>
  LdP (a_4.add 1) w9 fun x43 =>
  electm_Elect_Leader.Call x43 w9 fun r44 w10 =>
  Sts [.int .i64 r44] ⟨b6, 4, none⟩ 0 w10 fun w11 =>
  Pn s fun a_5 =>
  LdP (a_5.add 1) w11 fun x51 =>
  electm_Elect_Clock.Call x51 w11 fun r52 w12 =>
  Sts [.int .i64 r52] ⟨b6, 5, none⟩ 0 w12 fun w13 =>
  syncm_Sync_View.L1 s b6 (0 : Int) w13  R
theorem syncm_Sync_View.B0_eq (s : Option Addr) (w : World)   (R : Option Addr → World → Prop) (sL1 : Option Addr → Nat → Int → World → Prop) :
    (
  New (.cells #[.int .i64 (0 : Int), .int .i64 (0 : Int), .int .i64 (0 : Int), .int .i64 (0 : Int), .int .i64 (0 : Int), .int .i64 (0 : Int), .bool false, .bool false, .bool false, .int .i64 (0 : Int), .int .i64 (0 : Int), .int .i64 (0 : Int), .int .i64 (0 : Int), .string (ByteArray.mk #[]), .int .i64 (0 : Int), .int .i64 (0 : Int), .int .i64 (0 : Int), .int .i64 (0 : Int), .int .i64 (0 : Int), .int .i64 (0 : Int)] 108) w fun b6 w1 =>
  Pn s fun a =>
  LdP (a.add 1) w1 fun x11 =>
  electm_Elect_Id.Call x11 w1 fun r12 w2 =>
  Sts [.int .i64 r12] ⟨b6, 0, none⟩ 0 w2 fun w3 =>
  Pn s fun a_1 =>
  LdP (a_1.add 1) w3 fun x19 =>
  electm_Elect_Term.Call x19 w3 fun r20 w4 =>
  Sts [.int .i64 r20] ⟨b6, 1, none⟩ 0 w4 fun w5 =>
  Pn s fun a_2 =>
  LdP (a_2.add 1) w5 fun x27 =>
  electm_Elect_Vote.Call x27 w5 fun r28 w6 =>
  Sts [.int .i64 r28] ⟨b6, 2, none⟩ 0 w6 fun w7 =>
  Pn s fun a_3 =>
  LdP (a_3.add 1) w7 fun x35 =>
  electm_Elect_Role.Call x35 w7 fun r36 w8 =>
  Sts [.int .i64 r36] ⟨b6, 3, none⟩ 0 w8 fun w9 =>
  Pn s fun a_4 =>
  LdP (a_4.add 1) w9 fun x43 =>
  electm_Elect_Leader.Call x43 w9 fun r44 w10 =>
  Sts [.int .i64 r44] ⟨b6, 4, none⟩ 0 w10 fun w11 =>
  Pn s fun a_5 =>
  LdP (a_5.add 1) w11 fun x51 =>
  electm_Elect_Clock.Call x51 w11 fun r52 w12 =>
  Sts [.int .i64 r52] ⟨b6, 5, none⟩ 0 w12 fun w13 =>
  sL1 s b6 (0 : Int) w13) = kstep Tryz.prog 124 Tryz.f84.results.toList (Tryz.f84.body.getD .skip) (syncm_Sync_View.RV R) (kvc Tryz.prog 124 Tryz.f84.results.toList (Tryz.f84.body.getD .skip) (syncm_Sync_View.RV R) [([(0, [1, 1, 1, 1, 1, 1, 1, 1, 0, 1, 0, 0]), (2, [1, 1, 1, 1, 1, 1, 1, 1, 0, 1, 0, 0]), (1, [0]), (0, [1, 1, 1, 1, 1, 1, 1, 1, 1])], fun σ w => dP (slotOf σ 0) fun s_ => dK (slotOf σ 3) fun v_ => dI .i64 (slotOf σ 4) fun p_ => sL1 s_ v_ p_ w)] 2000) [(0, [])] [(0, .pointer s)] w := by kernel_rfl
theorem syncm_Sync_View.B0_sound {R : Option Addr → World → Prop}  (s : Option Addr) (w : World) (h : syncm_Sync_View.B0 s w   R) :
    KW Tryz.prog 84 124 (syncm_Sync_View.RV R) ([(0, [])].map (toItem (Tryz.f84.body.getD .skip))) [(0, .pointer s)] w := by
  exact block_spec Tryz.func84 Tryz.mixed (stops_cons (fun σ w h => by
      obtain ⟨s_, e0, h⟩ := dP_elim h
      obtain ⟨v_, e1, h⟩ := dK_elim h
      obtain ⟨p_, e2, h⟩ := dI_elim h
      exact (syncm_Sync_View.L1_sound  s_ v_ p_ w h).weaken (Sub.cons (Sub.cons (Sub.cons (Sub.nil _) e2) e1) e0)) stops_nil) (Eq.mp (syncm_Sync_View.B0_eq s w   R (fun s_ v_ p_ w => syncm_Sync_View.L1 s_ v_ p_ w  R)) h)
theorem syncm_Sync_View.sound (s : Option Addr) (w : World) (R : Option Addr → World → Prop) (h : syncm_Sync_View.B0 s w R) : syncm_Sync_View.Call s w R := by
  have hc := calls_of_block (args := #[.pointer s]) Tryz.func84 (body := (Tryz.f84.body.getD .skip)) (by kernel_rfl) (by kernel_rfl) (args_slot _) (syncm_Sync_View.B0_sound s w h)
  exact hc.mono fun e w' he => by
    obtain ⟨v, rfl, hv⟩ := he
    exact syncm_Sync_View.RV_elim hv
def syncm_Sync_Step.B2 (s : Option Addr) (m0 : Nat) (p : Int) (out_b : Option Addr) (out_l out_c re : Nat) (up : Bool) (w : World)   (R : Option Addr → Nat → Nat → World → Prop) : Prop :=
  Pn s fun a =>
  LdP (a.add 1) w.drew fun x86 =>
  LdI .i64 ⟨m0, 3, none⟩ w.drew fun x89 =>
  electm_Elect_AskedVote.Call x86 p x89 up w.drew fun r91 w1 =>
  Sts [.bool r91] ⟨re, 7, none⟩ 0 w1 fun w2 =>
  syncm_Sync_persist.Call s w2 fun w3 =>
  Sts [.int .i64 (2 : Int)] ⟨re, 0, none⟩ 0 w3 fun w4 =>
  Pn s fun a_1 =>
  LdP (a_1.add 1) w4 fun x99 =>
  electm_Elect_Term.Call x99 w4 fun r100 w5 =>
  Sts [.int .i64 r100] ⟨re, 3, none⟩ 0 w5 fun w6 =>
  LdI .i64 ⟨re, 0, none⟩ w6 fun x103_0 =>
  LdI .i64 ⟨re, 1, none⟩ w6 fun x103_1 =>
  LdI .i64 ⟨re, 2, none⟩ w6 fun x103_2 =>
  LdI .i64 ⟨re, 3, none⟩ w6 fun x103_3 =>
  LdI .i64 ⟨re, 4, none⟩ w6 fun x103_4 =>
  LdI .i64 ⟨re, 5, none⟩ w6 fun x103_5 =>
  LdI .i64 ⟨re, 6, none⟩ w6 fun x103_6 =>
  LdB ⟨re, 7, none⟩ w6 fun x103_7 =>
  LdL ⟨re, 8, none⟩ w6 fun x103_8_b x103_8_l x103_8_c =>
  LdS ⟨re, 9, none⟩ w6 fun x103_9 =>
  New (.cells #[.int .i64 x103_0, .int .i64 x103_1, .int .i64 x103_2, .int .i64 x103_3, .int .i64 x103_4, .int .i64 x103_5, .int .i64 x103_6, .bool x103_7, .slice x103_8_b x103_8_l x103_8_c, .string x103_9] 101) w6 fun b104 w7 =>
  Append 101 (.agg #[.int .i64 (0 : Int), .int .i64 (0 : Int), .int .i64 (0 : Int), .int .i64 (0 : Int), .int .i64 (0 : Int), .int .i64 (0 : Int), .int .i64 (0 : Int), .bool false, .slice none 0 0, .string (ByteArray.mk #[])]) 10 104 out_b out_l out_c (some ⟨b104, 0, none⟩) 1 w7 fun b105 c105 w8 =>
  R b105 (out_l + 1) c105 w8
theorem syncm_Sync_Step.B2_eq (s : Option Addr) (m0 : Nat) (p : Int) (out_b : Option Addr) (out_l out_c re : Nat) (up : Bool) (w : World)   (R : Option Addr → Nat → Nat → World → Prop)  :
    (
  Pn s fun a =>
  LdP (a.add 1) w.drew fun x86 =>
  LdI .i64 ⟨m0, 3, none⟩ w.drew fun x89 =>
  electm_Elect_AskedVote.Call x86 p x89 up w.drew fun r91 w1 =>
  Sts [.bool r91] ⟨re, 7, none⟩ 0 w1 fun w2 =>
  syncm_Sync_persist.Call s w2 fun w3 =>
  Sts [.int .i64 (2 : Int)] ⟨re, 0, none⟩ 0 w3 fun w4 =>
  Pn s fun a_1 =>
  LdP (a_1.add 1) w4 fun x99 =>
  electm_Elect_Term.Call x99 w4 fun r100 w5 =>
  Sts [.int .i64 r100] ⟨re, 3, none⟩ 0 w5 fun w6 =>
  LdI .i64 ⟨re, 0, none⟩ w6 fun x103_0 =>
  LdI .i64 ⟨re, 1, none⟩ w6 fun x103_1 =>
  LdI .i64 ⟨re, 2, none⟩ w6 fun x103_2 =>
  LdI .i64 ⟨re, 3, none⟩ w6 fun x103_3 =>
  LdI .i64 ⟨re, 4, none⟩ w6 fun x103_4 =>
  LdI .i64 ⟨re, 5, none⟩ w6 fun x103_5 =>
  LdI .i64 ⟨re, 6, none⟩ w6 fun x103_6 =>
  LdB ⟨re, 7, none⟩ w6 fun x103_7 =>
  LdL ⟨re, 8, none⟩ w6 fun x103_8_b x103_8_l x103_8_c =>
  LdS ⟨re, 9, none⟩ w6 fun x103_9 =>
  New (.cells #[.int .i64 x103_0, .int .i64 x103_1, .int .i64 x103_2, .int .i64 x103_3, .int .i64 x103_4, .int .i64 x103_5, .int .i64 x103_6, .bool x103_7, .slice x103_8_b x103_8_l x103_8_c, .string x103_9] 101) w6 fun b104 w7 =>
  Append 101 (.agg #[.int .i64 (0 : Int), .int .i64 (0 : Int), .int .i64 (0 : Int), .int .i64 (0 : Int), .int .i64 (0 : Int), .int .i64 (0 : Int), .int .i64 (0 : Int), .bool false, .slice none 0 0, .string (ByteArray.mk #[])]) 10 104 out_b out_l out_c (some ⟨b104, 0, none⟩) 1 w7 fun b105 c105 w8 =>
  R b105 (out_l + 1) c105 w8) = kstep Tryz.prog 372 Tryz.f85.results.toList (Tryz.f85.body.getD .skip) (syncm_Sync_Step.RV R) (kvc Tryz.prog 372 Tryz.f85.results.toList (Tryz.f85.body.getD .skip) (syncm_Sync_Step.RV R) [] 2000) [(0, [1, 1, 1, 1, 1, 1, 0, 1, 0, 1, 0, 1, 1]), (1, [0]), (0, [1, 1, 1, 1, 1, 1, 1])] [(0, .pointer s), (3, .pointer (some ⟨m0, 0, none⟩)), (6, .int .i64 p), (7, .slice out_b out_l out_c), (8, .pointer (some ⟨re, 0, none⟩)), (12, .bool up)] w := by kernel_rfl
theorem syncm_Sync_Step.B2_sound {R : Option Addr → Nat → Nat → World → Prop}  (s : Option Addr) (m0 : Nat) (p : Int) (out_b : Option Addr) (out_l out_c re : Nat) (up : Bool) (w : World) (h : syncm_Sync_Step.B2 s m0 p out_b out_l out_c re up w   R) :
    KW Tryz.prog 85 372 (syncm_Sync_Step.RV R) ([(0, [1, 1, 1, 1, 1, 1, 0, 1, 0, 1, 0, 1, 1]), (1, [0]), (0, [1, 1, 1, 1, 1, 1, 1])].map (toItem (Tryz.f85.body.getD .skip))) [(0, .pointer s), (3, .pointer (some ⟨m0, 0, none⟩)), (6, .int .i64 p), (7, .slice out_b out_l out_c), (8, .pointer (some ⟨re, 0, none⟩)), (12, .bool up)] w := by
  exact block_spec Tryz.func85 Tryz.mixed stops_nil (Eq.mp (syncm_Sync_Step.B2_eq s m0 p out_b out_l out_c re up w   R ) h)
def syncm_Sync_Step.L1b (s : Option Addr) (last q : Int) (w : World)  (N1 : Option Addr → Int → Int → World → Prop) (R : Option Addr → Nat → Nat → World → Prop) : Prop :=
  Bm (decide (q < (3 : Int))) (
    Pn s fun a =>
    (0 ≤ q ∧ q < ((3 : Nat) : Int)) ∧
    Pn s fun a_1 =>
    Sts [.int .i64 (IntKind.i64.wrap (last + (1 : Int)))] (Addr.add (a.add 3) (q.toNat * 1)) 0 w.drew fun w1 =>
    (0 ≤ q ∧ q < ((3 : Nat) : Int)) ∧
    Sts [.int .i64 (0 : Int)] (Addr.add (a_1.add 6) (q.toNat * 1)) 0 w1 fun w2 =>
    N1 s last (IntKind.i64.wrap (q + (1 : Int))) w2) (
    Pn s fun a_2 =>
    LdP (a_2.add 1) w fun x140 =>
    electm_Elect_Term.Call x140 w fun r141 w3 =>
    Pn s fun a_3 =>
    LdP a_3 w3 fun x145 =>
    rlogm_Log_Append.Call x145 r141 (ByteArray.mk #[]) w3 fun r148 w4 =>
    syncm_Sync_sendAll.Call s w4 fun r150_b r150_l r150_c w5 =>
    R r150_b r150_l r150_c w5)
theorem syncm_Sync_Step.L1b_eq (s : Option Addr) (last q : Int) (w : World)  (N1 : Option Addr → Int → Int → World → Prop) (R : Option Addr → Nat → Nat → World → Prop)  :
    (
  Bm (decide (q < (3 : Int))) (
    Pn s fun a =>
    (0 ≤ q ∧ q < ((3 : Nat) : Int)) ∧
    Pn s fun a_1 =>
    Sts [.int .i64 (IntKind.i64.wrap (last + (1 : Int)))] (Addr.add (a.add 3) (q.toNat * 1)) 0 w.drew fun w1 =>
    (0 ≤ q ∧ q < ((3 : Nat) : Int)) ∧
    Sts [.int .i64 (0 : Int)] (Addr.add (a_1.add 6) (q.toNat * 1)) 0 w1 fun w2 =>
    N1 s last (IntKind.i64.wrap (q + (1 : Int))) w2) (
    Pn s fun a_2 =>
    LdP (a_2.add 1) w fun x140 =>
    electm_Elect_Term.Call x140 w fun r141 w3 =>
    Pn s fun a_3 =>
    LdP a_3 w3 fun x145 =>
    rlogm_Log_Append.Call x145 r141 (ByteArray.mk #[]) w3 fun r148 w4 =>
    syncm_Sync_sendAll.Call s w4 fun r150_b r150_l r150_c w5 =>
    R r150_b r150_l r150_c w5)) = kstep Tryz.prog 372 Tryz.f85.results.toList (Tryz.f85.body.getD .skip) (syncm_Sync_Step.RV R) (kvc Tryz.prog 372 Tryz.f85.results.toList (Tryz.f85.body.getD .skip) (syncm_Sync_Step.RV R) [([(0, [1, 1, 1, 1, 1, 1, 0, 1, 0, 1, 1, 1, 0, 1, 1, 1, 0, 0, 1, 0, 0]), (2, [1, 1, 1, 1, 1, 1, 0, 1, 0, 1, 1, 1, 0, 1, 1, 1, 0, 0, 1, 0, 0]), (1, [1]), (0, [1, 1, 1, 1, 1, 1, 0, 1, 0, 1, 1, 1, 0, 1, 1, 1, 0, 1]), (1, [0]), (0, [1, 1, 1, 1, 1, 1, 1])], fun σ w => dP (slotOf σ 0) fun s_ => dI .i64 (slotOf σ 9) fun last_ => dI .i64 (slotOf σ 14) fun q_ => N1 s_ last_ q_ w)] 2000) [(0, [1, 1, 1, 1, 1, 1, 0, 1, 0, 1, 1, 1, 0, 1, 1, 1, 0, 0, 1, 0, 0]), (2, [1, 1, 1, 1, 1, 1, 0, 1, 0, 1, 1, 1, 0, 1, 1, 1, 0, 0, 1, 0, 0]), (1, [1]), (0, [1, 1, 1, 1, 1, 1, 0, 1, 0, 1, 1, 1, 0, 1, 1, 1, 0, 1]), (1, [0]), (0, [1, 1, 1, 1, 1, 1, 1])] [(0, .pointer s), (9, .int .i64 last), (14, .int .i64 q)] w := by kernel_rfl
theorem syncm_Sync_Step.L1b_sound {R : Option Addr → Nat → Nat → World → Prop} {N1 : Option Addr → Int → Int → World → Prop} (hN1 : ∀ s last q w, N1 s last q w → KW Tryz.prog 85 372 (syncm_Sync_Step.RV R) ([(0, [1, 1, 1, 1, 1, 1, 0, 1, 0, 1, 1, 1, 0, 1, 1, 1, 0, 0, 1, 0, 0]), (2, [1, 1, 1, 1, 1, 1, 0, 1, 0, 1, 1, 1, 0, 1, 1, 1, 0, 0, 1, 0, 0]), (1, [1]), (0, [1, 1, 1, 1, 1, 1, 0, 1, 0, 1, 1, 1, 0, 1, 1, 1, 0, 1]), (1, [0]), (0, [1, 1, 1, 1, 1, 1, 1])].map (toItem (Tryz.f85.body.getD .skip))) [(0, .pointer s), (9, .int .i64 last), (14, .int .i64 q)] w) (s : Option Addr) (last q : Int) (w : World) (h : syncm_Sync_Step.L1b s last q w  N1 R) :
    KW Tryz.prog 85 372 (syncm_Sync_Step.RV R) ([(0, [1, 1, 1, 1, 1, 1, 0, 1, 0, 1, 1, 1, 0, 1, 1, 1, 0, 0, 1, 0, 0]), (2, [1, 1, 1, 1, 1, 1, 0, 1, 0, 1, 1, 1, 0, 1, 1, 1, 0, 0, 1, 0, 0]), (1, [1]), (0, [1, 1, 1, 1, 1, 1, 0, 1, 0, 1, 1, 1, 0, 1, 1, 1, 0, 1]), (1, [0]), (0, [1, 1, 1, 1, 1, 1, 1])].map (toItem (Tryz.f85.body.getD .skip))) [(0, .pointer s), (9, .int .i64 last), (14, .int .i64 q)] w := by
  exact block_spec Tryz.func85 Tryz.mixed (stops_cons (fun σ w h => by
      obtain ⟨s_, e0, h⟩ := dP_elim h
      obtain ⟨last_, e1, h⟩ := dI_elim h
      obtain ⟨q_, e2, h⟩ := dI_elim h
      exact (hN1 s_ last_ q_ w h).weaken (Sub.cons (Sub.cons (Sub.cons (Sub.nil _) e2) e1) e0)) stops_nil) (Eq.mp (syncm_Sync_Step.L1b_eq s last q w  N1 R ) h)
def syncm_Sync_Step.L1 (s : Option Addr) (last q : Int) (w : World)  (R : Option Addr → Nat → Nat → World → Prop) : Prop :=
  ∃ (I : Nat → Option Addr → Int → Int → World → Prop) (m : Nat), I m s last q w ∧ ∀ m s last q w, I m s last q w → syncm_Sync_Step.L1b s last q w  (fun s' last' q' w' => ∃ m', m' < m ∧ I m' s' last' q' w') R
theorem syncm_Sync_Step.L1_sound {R : Option Addr → Nat → Nat → World → Prop}  (s : Option Addr) (last q : Int) (w : World) (h : syncm_Sync_Step.L1 s last q w  R) :
    KW Tryz.prog 85 372 (syncm_Sync_Step.RV R) ([(0, [1, 1, 1, 1, 1, 1, 0, 1, 0, 1, 1, 1, 0, 1, 1, 1, 0, 0, 1, 0, 0]), (2, [1, 1, 1, 1, 1, 1, 0, 1, 0, 1, 1, 1, 0, 1, 1, 1, 0, 0, 1, 0, 0]), (1, [1]), (0, [1, 1, 1, 1, 1, 1, 0, 1, 0, 1, 1, 1, 0, 1, 1, 1, 0, 1]), (1, [0]), (0, [1, 1, 1, 1, 1, 1, 1])].map (toItem (Tryz.f85.body.getD .skip))) [(0, .pointer s), (9, .int .i64 last), (14, .int .i64 q)] w := by
  obtain ⟨I, m, hBase, hr⟩ := h
  refine KW.loop (fun m σ w => ∃ (s : Option Addr) (last q : Int), σ = [(0, .pointer s), (9, .int .i64 last), (14, .int .i64 q)] ∧ I m s last q w) ?_ m _ w ⟨s, last, q, rfl, hBase⟩
  rintro m ih σ w ⟨s, last, q, rfl, hI⟩
  exact syncm_Sync_Step.L1b_sound  (N1 := fun s' last' q' w' => ∃ m', m' < m ∧ I m' s' last' q' w') (fun s' last' q' w' hx => by obtain ⟨m', hlt, hI'⟩ := hx; exact ih m' hlt _ w' ⟨s', last', q', rfl, hI'⟩) s last q w (hr m s last q w hI)
def syncm_Sync_Step.B3 (s out_b : Option Addr) (out_l out_c re : Nat) (w : World)   (R : Option Addr → Nat → Nat → World → Prop) : Prop :=
  Pn s fun a =>
  LdP (a.add 1) w fun x175 =>
  electm_Elect_Term.Call x175 w fun r176 w1 =>
  Sts [.int .i64 r176] ⟨re, 3, none⟩ 0 w1 fun w2 =>
  LdI .i64 ⟨re, 0, none⟩ w2 fun x179_0 =>
  LdI .i64 ⟨re, 1, none⟩ w2 fun x179_1 =>
  LdI .i64 ⟨re, 2, none⟩ w2 fun x179_2 =>
  LdI .i64 ⟨re, 3, none⟩ w2 fun x179_3 =>
  LdI .i64 ⟨re, 4, none⟩ w2 fun x179_4 =>
  LdI .i64 ⟨re, 5, none⟩ w2 fun x179_5 =>
  LdI .i64 ⟨re, 6, none⟩ w2 fun x179_6 =>
  LdB ⟨re, 7, none⟩ w2 fun x179_7 =>
  LdL ⟨re, 8, none⟩ w2 fun x179_8_b x179_8_l x179_8_c =>
  LdS ⟨re, 9, none⟩ w2 fun x179_9 =>
  New (.cells #[.int .i64 x179_0, .int .i64 x179_1, .int .i64 x179_2, .int .i64 x179_3, .int .i64 x179_4, .int .i64 x179_5, .int .i64 x179_6, .bool x179_7, .slice x179_8_b x179_8_l x179_8_c, .string x179_9] 101) w2 fun b180 w3 =>
  Append 101 (.agg #[.int .i64 (0 : Int), .int .i64 (0 : Int), .int .i64 (0 : Int), .int .i64 (0 : Int), .int .i64 (0 : Int), .int .i64 (0 : Int), .int .i64 (0 : Int), .bool false, .slice none 0 0, .string (ByteArray.mk #[])]) 10 104 out_b out_l out_c (some ⟨b180, 0, none⟩) 1 w3 fun b181 c181 w4 =>
  R b181 (out_l + 1) c181 w4
theorem syncm_Sync_Step.B3_eq (s out_b : Option Addr) (out_l out_c re : Nat) (w : World)   (R : Option Addr → Nat → Nat → World → Prop)  :
    (
  Pn s fun a =>
  LdP (a.add 1) w fun x175 =>
  electm_Elect_Term.Call x175 w fun r176 w1 =>
  Sts [.int .i64 r176] ⟨re, 3, none⟩ 0 w1 fun w2 =>
  LdI .i64 ⟨re, 0, none⟩ w2 fun x179_0 =>
  LdI .i64 ⟨re, 1, none⟩ w2 fun x179_1 =>
  LdI .i64 ⟨re, 2, none⟩ w2 fun x179_2 =>
  LdI .i64 ⟨re, 3, none⟩ w2 fun x179_3 =>
  LdI .i64 ⟨re, 4, none⟩ w2 fun x179_4 =>
  LdI .i64 ⟨re, 5, none⟩ w2 fun x179_5 =>
  LdI .i64 ⟨re, 6, none⟩ w2 fun x179_6 =>
  LdB ⟨re, 7, none⟩ w2 fun x179_7 =>
  LdL ⟨re, 8, none⟩ w2 fun x179_8_b x179_8_l x179_8_c =>
  LdS ⟨re, 9, none⟩ w2 fun x179_9 =>
  New (.cells #[.int .i64 x179_0, .int .i64 x179_1, .int .i64 x179_2, .int .i64 x179_3, .int .i64 x179_4, .int .i64 x179_5, .int .i64 x179_6, .bool x179_7, .slice x179_8_b x179_8_l x179_8_c, .string x179_9] 101) w2 fun b180 w3 =>
  Append 101 (.agg #[.int .i64 (0 : Int), .int .i64 (0 : Int), .int .i64 (0 : Int), .int .i64 (0 : Int), .int .i64 (0 : Int), .int .i64 (0 : Int), .int .i64 (0 : Int), .bool false, .slice none 0 0, .string (ByteArray.mk #[])]) 10 104 out_b out_l out_c (some ⟨b180, 0, none⟩) 1 w3 fun b181 c181 w4 =>
  R b181 (out_l + 1) c181 w4) = kstep Tryz.prog 372 Tryz.f85.results.toList (Tryz.f85.body.getD .skip) (syncm_Sync_Step.RV R) (kvc Tryz.prog 372 Tryz.f85.results.toList (Tryz.f85.body.getD .skip) (syncm_Sync_Step.RV R) [] 2000) [(0, [1, 1, 1, 1, 1, 1, 0, 1, 0, 1, 1, 1, 1, 1, 0, 1, 1, 1]), (1, [0]), (0, [1, 1, 1, 1, 1, 1, 1])] [(0, .pointer s), (7, .slice out_b out_l out_c), (8, .pointer (some ⟨re, 0, none⟩))] w := by kernel_rfl
theorem syncm_Sync_Step.B3_sound {R : Option Addr → Nat → Nat → World → Prop}  (s out_b : Option Addr) (out_l out_c re : Nat) (w : World) (h : syncm_Sync_Step.B3 s out_b out_l out_c re w   R) :
    KW Tryz.prog 85 372 (syncm_Sync_Step.RV R) ([(0, [1, 1, 1, 1, 1, 1, 0, 1, 0, 1, 1, 1, 1, 1, 0, 1, 1, 1]), (1, [0]), (0, [1, 1, 1, 1, 1, 1, 1])].map (toItem (Tryz.f85.body.getD .skip))) [(0, .pointer s), (7, .slice out_b out_l out_c), (8, .pointer (some ⟨re, 0, none⟩))] w := by
  exact block_spec Tryz.func85 Tryz.mixed stops_nil (Eq.mp (syncm_Sync_Step.B3_eq s out_b out_l out_c re w   R ) h)
def syncm_Sync_Step.B6 (s out_b : Option Addr) (out_l out_c re : Nat) (w : World)   (R : Option Addr → Nat → Nat → World → Prop) : Prop :=
  Pn s fun a =>
  LdP (a.add 1) w fun x236 =>
  electm_Elect_Term.Call x236 w fun r237 w1 =>
  Sts [.int .i64 r237] ⟨re, 3, none⟩ 0 w1 fun w2 =>
  LdI .i64 ⟨re, 0, none⟩ w2 fun x240_0 =>
  LdI .i64 ⟨re, 1, none⟩ w2 fun x240_1 =>
  LdI .i64 ⟨re, 2, none⟩ w2 fun x240_2 =>
  LdI .i64 ⟨re, 3, none⟩ w2 fun x240_3 =>
  LdI .i64 ⟨re, 4, none⟩ w2 fun x240_4 =>
  LdI .i64 ⟨re, 5, none⟩ w2 fun x240_5 =>
  LdI .i64 ⟨re, 6, none⟩ w2 fun x240_6 =>
  LdB ⟨re, 7, none⟩ w2 fun x240_7 =>
  LdL ⟨re, 8, none⟩ w2 fun x240_8_b x240_8_l x240_8_c =>
  LdS ⟨re, 9, none⟩ w2 fun x240_9 =>
  New (.cells #[.int .i64 x240_0, .int .i64 x240_1, .int .i64 x240_2, .int .i64 x240_3, .int .i64 x240_4, .int .i64 x240_5, .int .i64 x240_6, .bool x240_7, .slice x240_8_b x240_8_l x240_8_c, .string x240_9] 101) w2 fun b241 w3 =>
  Append 101 (.agg #[.int .i64 (0 : Int), .int .i64 (0 : Int), .int .i64 (0 : Int), .int .i64 (0 : Int), .int .i64 (0 : Int), .int .i64 (0 : Int), .int .i64 (0 : Int), .bool false, .slice none 0 0, .string (ByteArray.mk #[])]) 10 104 out_b out_l out_c (some ⟨b241, 0, none⟩) 1 w3 fun b242 c242 w4 =>
  R b242 (out_l + 1) c242 w4
theorem syncm_Sync_Step.B6_eq (s out_b : Option Addr) (out_l out_c re : Nat) (w : World)   (R : Option Addr → Nat → Nat → World → Prop)  :
    (
  Pn s fun a =>
  LdP (a.add 1) w fun x236 =>
  electm_Elect_Term.Call x236 w fun r237 w1 =>
  Sts [.int .i64 r237] ⟨re, 3, none⟩ 0 w1 fun w2 =>
  LdI .i64 ⟨re, 0, none⟩ w2 fun x240_0 =>
  LdI .i64 ⟨re, 1, none⟩ w2 fun x240_1 =>
  LdI .i64 ⟨re, 2, none⟩ w2 fun x240_2 =>
  LdI .i64 ⟨re, 3, none⟩ w2 fun x240_3 =>
  LdI .i64 ⟨re, 4, none⟩ w2 fun x240_4 =>
  LdI .i64 ⟨re, 5, none⟩ w2 fun x240_5 =>
  LdI .i64 ⟨re, 6, none⟩ w2 fun x240_6 =>
  LdB ⟨re, 7, none⟩ w2 fun x240_7 =>
  LdL ⟨re, 8, none⟩ w2 fun x240_8_b x240_8_l x240_8_c =>
  LdS ⟨re, 9, none⟩ w2 fun x240_9 =>
  New (.cells #[.int .i64 x240_0, .int .i64 x240_1, .int .i64 x240_2, .int .i64 x240_3, .int .i64 x240_4, .int .i64 x240_5, .int .i64 x240_6, .bool x240_7, .slice x240_8_b x240_8_l x240_8_c, .string x240_9] 101) w2 fun b241 w3 =>
  Append 101 (.agg #[.int .i64 (0 : Int), .int .i64 (0 : Int), .int .i64 (0 : Int), .int .i64 (0 : Int), .int .i64 (0 : Int), .int .i64 (0 : Int), .int .i64 (0 : Int), .bool false, .slice none 0 0, .string (ByteArray.mk #[])]) 10 104 out_b out_l out_c (some ⟨b241, 0, none⟩) 1 w3 fun b242 c242 w4 =>
  R b242 (out_l + 1) c242 w4) = kstep Tryz.prog 372 Tryz.f85.results.toList (Tryz.f85.body.getD .skip) (syncm_Sync_Step.RV R) (kvc Tryz.prog 372 Tryz.f85.results.toList (Tryz.f85.body.getD .skip) (syncm_Sync_Step.RV R) [] 2000) [(0, [1, 1, 1, 1, 1, 1, 0, 1, 0, 1, 1, 1, 1, 1, 1, 1, 0, 1, 1, 1]), (1, [0]), (0, [1, 1, 1, 1, 1, 1, 1])] [(0, .pointer s), (7, .slice out_b out_l out_c), (8, .pointer (some ⟨re, 0, none⟩))] w := by kernel_rfl
theorem syncm_Sync_Step.B6_sound {R : Option Addr → Nat → Nat → World → Prop}  (s out_b : Option Addr) (out_l out_c re : Nat) (w : World) (h : syncm_Sync_Step.B6 s out_b out_l out_c re w   R) :
    KW Tryz.prog 85 372 (syncm_Sync_Step.RV R) ([(0, [1, 1, 1, 1, 1, 1, 0, 1, 0, 1, 1, 1, 1, 1, 1, 1, 0, 1, 1, 1]), (1, [0]), (0, [1, 1, 1, 1, 1, 1, 1])].map (toItem (Tryz.f85.body.getD .skip))) [(0, .pointer s), (7, .slice out_b out_l out_c), (8, .pointer (some ⟨re, 0, none⟩))] w := by
  exact block_spec Tryz.func85 Tryz.mixed stops_nil (Eq.mp (syncm_Sync_Step.B6_eq s out_b out_l out_c re w   R ) h)
def syncm_Sync_Step.B4 (s : Option Addr) (m0 : Nat) (out_b : Option Addr) (out_l out_c re : Nat) (ok t203 : Bool) (w : World)   (R : Option Addr → Nat → Nat → World → Prop) : Prop :=
  Bm t203 (
    Pn s fun a =>
    LdI .i64 (a.add 2) w.drew fun x207 =>
    Sts [.bool true] ⟨re, 7, none⟩ 0 w.drew fun w1 =>
    w1.cell? (a.add 2) = some (.int .i64 x207) ∧
    Sts [.int .i64 x207] ⟨re, 4, none⟩ 0 w1 fun w2 =>
    syncm_Sync_Step.B6 s out_b out_l out_c re w2  R) (
    Bm ok (
      Pn s fun a_1 =>
      LdP a_1 w.drew fun x214 =>
      LdI .i64 ⟨m0, 4, none⟩ w.drew fun x216 =>
      LdI .i64 ⟨m0, 5, none⟩ w.drew fun x218 =>
      LdS ⟨m0, 9, none⟩ w.drew fun x220 =>
      rlogm_Log_Install.Call x214 x216 x218 x220 w.drew fun r221 w3 =>
      Bm (r221 == (0 : Int)) (
        LdI .i64 ⟨m0, 4, none⟩ w3 fun x226 =>
        Pn s fun a_2 =>
        Sts [.int .i64 x226] (a_2.add 2) 0 w3 fun w4 =>
        LdI .i64 ⟨m0, 4, none⟩ w4.drew fun x230 =>
        Sts [.bool true] ⟨re, 7, none⟩ 0 w4.drew fun w5 =>
        w5.cell? ⟨m0, 4, none⟩ = some (.int .i64 x230) ∧
        Sts [.int .i64 x230] ⟨re, 4, none⟩ 0 w5 fun w6 =>
        syncm_Sync_Step.B6 s out_b out_l out_c re w6  R) (
        syncm_Sync_Step.B6 s out_b out_l out_c re w3  R)) (
      syncm_Sync_Step.B6 s out_b out_l out_c re w  R))
theorem syncm_Sync_Step.B4_eq (s : Option Addr) (m0 : Nat) (out_b : Option Addr) (out_l out_c re : Nat) (ok t203 : Bool) (w : World)   (R : Option Addr → Nat → Nat → World → Prop) (sB6 : Option Addr → Option Addr → Nat → Nat → Nat → World → Prop) :
    (
  Bm t203 (
    Pn s fun a =>
    LdI .i64 (a.add 2) w.drew fun x207 =>
    Sts [.bool true] ⟨re, 7, none⟩ 0 w.drew fun w1 =>
    w1.cell? (a.add 2) = some (.int .i64 x207) ∧
    Sts [.int .i64 x207] ⟨re, 4, none⟩ 0 w1 fun w2 =>
    sB6 s out_b out_l out_c re w2) (
    Bm ok (
      Pn s fun a_1 =>
      LdP a_1 w.drew fun x214 =>
      LdI .i64 ⟨m0, 4, none⟩ w.drew fun x216 =>
      LdI .i64 ⟨m0, 5, none⟩ w.drew fun x218 =>
      LdS ⟨m0, 9, none⟩ w.drew fun x220 =>
      rlogm_Log_Install.Call x214 x216 x218 x220 w.drew fun r221 w3 =>
      Bm (r221 == (0 : Int)) (
        LdI .i64 ⟨m0, 4, none⟩ w3 fun x226 =>
        Pn s fun a_2 =>
        Sts [.int .i64 x226] (a_2.add 2) 0 w3 fun w4 =>
        LdI .i64 ⟨m0, 4, none⟩ w4.drew fun x230 =>
        Sts [.bool true] ⟨re, 7, none⟩ 0 w4.drew fun w5 =>
        w5.cell? ⟨m0, 4, none⟩ = some (.int .i64 x230) ∧
        Sts [.int .i64 x230] ⟨re, 4, none⟩ 0 w5 fun w6 =>
        sB6 s out_b out_l out_c re w6) (
        sB6 s out_b out_l out_c re w3)) (
      sB6 s out_b out_l out_c re w))) = kstep Tryz.prog 372 Tryz.f85.results.toList (Tryz.f85.body.getD .skip) (syncm_Sync_Step.RV R) (kvc Tryz.prog 372 Tryz.f85.results.toList (Tryz.f85.body.getD .skip) (syncm_Sync_Step.RV R) [([(0, [1, 1, 1, 1, 1, 1, 0, 1, 0, 1, 1, 1, 1, 1, 1, 1, 0, 1, 1, 1]), (1, [0]), (0, [1, 1, 1, 1, 1, 1, 1])], fun σ w => dP (slotOf σ 0) fun s_ => dL (slotOf σ 7) fun out_b_ out_l_ out_c_ => dK (slotOf σ 8) fun re_ => sB6 s_ out_b_ out_l_ out_c_ re_ w)] 2000) [(0, [1, 1, 1, 1, 1, 1, 0, 1, 0, 1, 1, 1, 1, 1, 1, 1, 0, 1, 1, 0, 1]), (0, [1, 1, 1, 1, 1, 1, 0, 1, 0, 1, 1, 1, 1, 1, 1, 1, 0, 1, 1, 1]), (1, [0]), (0, [1, 1, 1, 1, 1, 1, 1])] [(0, .pointer s), (3, .pointer (some ⟨m0, 0, none⟩)), (7, .slice out_b out_l out_c), (8, .pointer (some ⟨re, 0, none⟩)), (17, .bool ok), (203, .bool t203)] w := by kernel_rfl
theorem syncm_Sync_Step.B4_sound {R : Option Addr → Nat → Nat → World → Prop}  (s : Option Addr) (m0 : Nat) (out_b : Option Addr) (out_l out_c re : Nat) (ok t203 : Bool) (w : World) (h : syncm_Sync_Step.B4 s m0 out_b out_l out_c re ok t203 w   R) :
    KW Tryz.prog 85 372 (syncm_Sync_Step.RV R) ([(0, [1, 1, 1, 1, 1, 1, 0, 1, 0, 1, 1, 1, 1, 1, 1, 1, 0, 1, 1, 0, 1]), (0, [1, 1, 1, 1, 1, 1, 0, 1, 0, 1, 1, 1, 1, 1, 1, 1, 0, 1, 1, 1]), (1, [0]), (0, [1, 1, 1, 1, 1, 1, 1])].map (toItem (Tryz.f85.body.getD .skip))) [(0, .pointer s), (3, .pointer (some ⟨m0, 0, none⟩)), (7, .slice out_b out_l out_c), (8, .pointer (some ⟨re, 0, none⟩)), (17, .bool ok), (203, .bool t203)] w := by
  exact block_spec Tryz.func85 Tryz.mixed (stops_cons (fun σ w h => by
      obtain ⟨s_, e0, h⟩ := dP_elim h
      obtain ⟨out_b_, out_l_, out_c_, e1, h⟩ := dL_elim h
      obtain ⟨re_, e2, h⟩ := dK_elim h
      exact (syncm_Sync_Step.B6_sound  s_ out_b_ out_l_ out_c_ re_ w h).weaken (Sub.cons (Sub.cons (Sub.cons (Sub.nil _) e2) e1) e0)) stops_nil) (Eq.mp (syncm_Sync_Step.B4_eq s m0 out_b out_l out_c re ok t203 w   R (fun s_ out_b_ out_l_ out_c_ re_ w => syncm_Sync_Step.B6 s_ out_b_ out_l_ out_c_ re_ w  R)) h)
def syncm_Sync_Step.B9 (s : Option Addr) (p : Int) (out_b : Option Addr) (out_l out_c : Nat) (last : Int) (w : World)   (R : Option Addr → Nat → Nat → World → Prop) : Prop :=
  syncm_Sync_advance.Call s w fun w1 =>
  Pn s fun a =>
  (0 ≤ p ∧ p < ((3 : Nat) : Int)) ∧
  LdI .i64 (Addr.add (a.add 3) (p.toNat * 1)) w1 fun x321 =>
  Bm (decide (x321 ≤ last)) (
    syncm_Sync_send.Call s p w1 fun r326_0 r326_1 r326_2 r326_3 r326_4 r326_5 r326_6 r326_7 r326_8_b r326_8_l r326_8_c r326_9 w2 =>
    New (.cells #[.int .i64 (0 : Int), .int .i64 (0 : Int), .int .i64 (0 : Int), .int .i64 (0 : Int), .int .i64 (0 : Int), .int .i64 (0 : Int), .int .i64 (0 : Int), .bool false, .slice none 0 0, .string (ByteArray.mk #[])] 101) w2 fun a_ w3 =>
    Sts [.int .i64 r326_0, .int .i64 r326_1, .int .i64 r326_2, .int .i64 r326_3, .int .i64 r326_4, .int .i64 r326_5, .int .i64 r326_6, .bool r326_7, .slice r326_8_b r326_8_l r326_8_c, .string r326_9] ⟨a_, 0, none⟩ 0 w3 fun w4 =>
    LdI .i64 ⟨a_, 0, none⟩ w4 fun x328_0 =>
    LdI .i64 ⟨a_, 1, none⟩ w4 fun x328_1 =>
    LdI .i64 ⟨a_, 2, none⟩ w4 fun x328_2 =>
    LdI .i64 ⟨a_, 3, none⟩ w4 fun x328_3 =>
    LdI .i64 ⟨a_, 4, none⟩ w4 fun x328_4 =>
    LdI .i64 ⟨a_, 5, none⟩ w4 fun x328_5 =>
    LdI .i64 ⟨a_, 6, none⟩ w4 fun x328_6 =>
    LdB ⟨a_, 7, none⟩ w4 fun x328_7 =>
    LdL ⟨a_, 8, none⟩ w4 fun x328_8_b x328_8_l x328_8_c =>
    LdS ⟨a_, 9, none⟩ w4 fun x328_9 =>
    New (.cells #[.int .i64 x328_0, .int .i64 x328_1, .int .i64 x328_2, .int .i64 x328_3, .int .i64 x328_4, .int .i64 x328_5, .int .i64 x328_6, .bool x328_7, .slice x328_8_b x328_8_l x328_8_c, .string x328_9] 101) w4 fun b329 w5 =>
    Append 101 (.agg #[.int .i64 (0 : Int), .int .i64 (0 : Int), .int .i64 (0 : Int), .int .i64 (0 : Int), .int .i64 (0 : Int), .int .i64 (0 : Int), .int .i64 (0 : Int), .bool false, .slice none 0 0, .string (ByteArray.mk #[])]) 10 104 out_b out_l out_c (some ⟨b329, 0, none⟩) 1 w5 fun b330 c330 w6 =>
    R b330 (out_l + 1) c330 w6) (
    R out_b out_l out_c w1)
theorem syncm_Sync_Step.B9_eq (s : Option Addr) (p : Int) (out_b : Option Addr) (out_l out_c : Nat) (last : Int) (w : World)   (R : Option Addr → Nat → Nat → World → Prop)  :
    (
  syncm_Sync_advance.Call s w fun w1 =>
  Pn s fun a =>
  (0 ≤ p ∧ p < ((3 : Nat) : Int)) ∧
  LdI .i64 (Addr.add (a.add 3) (p.toNat * 1)) w1 fun x321 =>
  Bm (decide (x321 ≤ last)) (
    syncm_Sync_send.Call s p w1 fun r326_0 r326_1 r326_2 r326_3 r326_4 r326_5 r326_6 r326_7 r326_8_b r326_8_l r326_8_c r326_9 w2 =>
    New (.cells #[.int .i64 (0 : Int), .int .i64 (0 : Int), .int .i64 (0 : Int), .int .i64 (0 : Int), .int .i64 (0 : Int), .int .i64 (0 : Int), .int .i64 (0 : Int), .bool false, .slice none 0 0, .string (ByteArray.mk #[])] 101) w2 fun a_ w3 =>
    Sts [.int .i64 r326_0, .int .i64 r326_1, .int .i64 r326_2, .int .i64 r326_3, .int .i64 r326_4, .int .i64 r326_5, .int .i64 r326_6, .bool r326_7, .slice r326_8_b r326_8_l r326_8_c, .string r326_9] ⟨a_, 0, none⟩ 0 w3 fun w4 =>
    LdI .i64 ⟨a_, 0, none⟩ w4 fun x328_0 =>
    LdI .i64 ⟨a_, 1, none⟩ w4 fun x328_1 =>
    LdI .i64 ⟨a_, 2, none⟩ w4 fun x328_2 =>
    LdI .i64 ⟨a_, 3, none⟩ w4 fun x328_3 =>
    LdI .i64 ⟨a_, 4, none⟩ w4 fun x328_4 =>
    LdI .i64 ⟨a_, 5, none⟩ w4 fun x328_5 =>
    LdI .i64 ⟨a_, 6, none⟩ w4 fun x328_6 =>
    LdB ⟨a_, 7, none⟩ w4 fun x328_7 =>
    LdL ⟨a_, 8, none⟩ w4 fun x328_8_b x328_8_l x328_8_c =>
    LdS ⟨a_, 9, none⟩ w4 fun x328_9 =>
    New (.cells #[.int .i64 x328_0, .int .i64 x328_1, .int .i64 x328_2, .int .i64 x328_3, .int .i64 x328_4, .int .i64 x328_5, .int .i64 x328_6, .bool x328_7, .slice x328_8_b x328_8_l x328_8_c, .string x328_9] 101) w4 fun b329 w5 =>
    Append 101 (.agg #[.int .i64 (0 : Int), .int .i64 (0 : Int), .int .i64 (0 : Int), .int .i64 (0 : Int), .int .i64 (0 : Int), .int .i64 (0 : Int), .int .i64 (0 : Int), .bool false, .slice none 0 0, .string (ByteArray.mk #[])]) 10 104 out_b out_l out_c (some ⟨b329, 0, none⟩) 1 w5 fun b330 c330 w6 =>
    R b330 (out_l + 1) c330 w6) (
    R out_b out_l out_c w1)) = kstep Tryz.prog 372 Tryz.f85.results.toList (Tryz.f85.body.getD .skip) (syncm_Sync_Step.RV R) (kvc Tryz.prog 372 Tryz.f85.results.toList (Tryz.f85.body.getD .skip) (syncm_Sync_Step.RV R) [] 2000) [(0, [1, 1, 1, 1, 1, 1, 0, 1, 0, 1, 1, 1, 1, 1, 1, 1, 1, 1, 0, 1, 1, 1, 1, 1, 0, 1, 0, 0, 1, 0, 1, 1]), (0, [1, 1, 1, 1, 1, 1, 0, 1, 0, 1, 1, 1, 1, 1, 1, 1, 1, 1, 0, 1, 1, 1, 1, 1, 0, 1, 0, 1]), (0, [1, 1, 1, 1, 1, 1, 0, 1, 0, 1, 1, 1, 1, 1, 1, 1, 1, 1, 0, 1, 1, 1, 1, 1, 1]), (1, [0]), (0, [1, 1, 1, 1, 1, 1, 1])] [(0, .pointer s), (6, .int .i64 p), (7, .slice out_b out_l out_c), (9, .int .i64 last)] w := by kernel_rfl
theorem syncm_Sync_Step.B9_sound {R : Option Addr → Nat → Nat → World → Prop}  (s : Option Addr) (p : Int) (out_b : Option Addr) (out_l out_c : Nat) (last : Int) (w : World) (h : syncm_Sync_Step.B9 s p out_b out_l out_c last w   R) :
    KW Tryz.prog 85 372 (syncm_Sync_Step.RV R) ([(0, [1, 1, 1, 1, 1, 1, 0, 1, 0, 1, 1, 1, 1, 1, 1, 1, 1, 1, 0, 1, 1, 1, 1, 1, 0, 1, 0, 0, 1, 0, 1, 1]), (0, [1, 1, 1, 1, 1, 1, 0, 1, 0, 1, 1, 1, 1, 1, 1, 1, 1, 1, 0, 1, 1, 1, 1, 1, 0, 1, 0, 1]), (0, [1, 1, 1, 1, 1, 1, 0, 1, 0, 1, 1, 1, 1, 1, 1, 1, 1, 1, 0, 1, 1, 1, 1, 1, 1]), (1, [0]), (0, [1, 1, 1, 1, 1, 1, 1])].map (toItem (Tryz.f85.body.getD .skip))) [(0, .pointer s), (6, .int .i64 p), (7, .slice out_b out_l out_c), (9, .int .i64 last)] w := by
  exact block_spec Tryz.func85 Tryz.mixed stops_nil (Eq.mp (syncm_Sync_Step.B9_eq s p out_b out_l out_c last w   R ) h)
def syncm_Sync_Step.B7 (s : Option Addr) (m0 : Nat) (p : Int) (out_b : Option Addr) (out_l out_c : Nat) (last : Int) (t289 : Bool) (w : World)   (R : Option Addr → Nat → Nat → World → Prop) : Prop :=
  Bm t289 (
    LdI .i64 ⟨m0, 4, none⟩ w.drew fun x293 =>
    Pn s fun a =>
    (0 ≤ p ∧ p < ((3 : Nat) : Int)) ∧
    Sts [.int .i64 x293] (Addr.add (a.add 6) (p.toNat * 1)) 0 w.drew fun w1 =>
    Pn s fun a_1 =>
    (0 ≤ p ∧ p < ((3 : Nat) : Int)) ∧
    LdI .i64 (Addr.add (a_1.add 3) (p.toNat * 1)) w1.drew fun x302 =>
    LdI .i64 ⟨m0, 4, none⟩ w1.drew fun x304 =>
    Bm (decide (x302 ≤ x304)) (
      LdI .i64 ⟨m0, 4, none⟩ w1.drew.drew fun x309 =>
      Pn s fun a_2 =>
      (0 ≤ p ∧ p < ((3 : Nat) : Int)) ∧
      Sts [.int .i64 (IntKind.i64.wrap (x309 + (1 : Int)))] (Addr.add (a_2.add 3) (p.toNat * 1)) 0 w1.drew.drew fun w2 =>
      syncm_Sync_Step.B9 s p out_b out_l out_c last w2  R) (
      syncm_Sync_Step.B9 s p out_b out_l out_c last w1.drew  R)) (
    R out_b out_l out_c w)
theorem syncm_Sync_Step.B7_eq (s : Option Addr) (m0 : Nat) (p : Int) (out_b : Option Addr) (out_l out_c : Nat) (last : Int) (t289 : Bool) (w : World)   (R : Option Addr → Nat → Nat → World → Prop) (sB9 : Option Addr → Int → Option Addr → Nat → Nat → Int → World → Prop) :
    (
  Bm t289 (
    LdI .i64 ⟨m0, 4, none⟩ w.drew fun x293 =>
    Pn s fun a =>
    (0 ≤ p ∧ p < ((3 : Nat) : Int)) ∧
    Sts [.int .i64 x293] (Addr.add (a.add 6) (p.toNat * 1)) 0 w.drew fun w1 =>
    Pn s fun a_1 =>
    (0 ≤ p ∧ p < ((3 : Nat) : Int)) ∧
    LdI .i64 (Addr.add (a_1.add 3) (p.toNat * 1)) w1.drew fun x302 =>
    LdI .i64 ⟨m0, 4, none⟩ w1.drew fun x304 =>
    Bm (decide (x302 ≤ x304)) (
      LdI .i64 ⟨m0, 4, none⟩ w1.drew.drew fun x309 =>
      Pn s fun a_2 =>
      (0 ≤ p ∧ p < ((3 : Nat) : Int)) ∧
      Sts [.int .i64 (IntKind.i64.wrap (x309 + (1 : Int)))] (Addr.add (a_2.add 3) (p.toNat * 1)) 0 w1.drew.drew fun w2 =>
      sB9 s p out_b out_l out_c last w2) (
      sB9 s p out_b out_l out_c last w1.drew)) (
    R out_b out_l out_c w)) = kstep Tryz.prog 372 Tryz.f85.results.toList (Tryz.f85.body.getD .skip) (syncm_Sync_Step.RV R) (kvc Tryz.prog 372 Tryz.f85.results.toList (Tryz.f85.body.getD .skip) (syncm_Sync_Step.RV R) [([(0, [1, 1, 1, 1, 1, 1, 0, 1, 0, 1, 1, 1, 1, 1, 1, 1, 1, 1, 0, 1, 1, 1, 1, 1, 0, 1, 0, 0, 1, 0, 1, 1]), (0, [1, 1, 1, 1, 1, 1, 0, 1, 0, 1, 1, 1, 1, 1, 1, 1, 1, 1, 0, 1, 1, 1, 1, 1, 0, 1, 0, 1]), (0, [1, 1, 1, 1, 1, 1, 0, 1, 0, 1, 1, 1, 1, 1, 1, 1, 1, 1, 0, 1, 1, 1, 1, 1, 1]), (1, [0]), (0, [1, 1, 1, 1, 1, 1, 1])], fun σ w => dP (slotOf σ 0) fun s_ => dI .i64 (slotOf σ 6) fun p_ => dL (slotOf σ 7) fun out_b_ out_l_ out_c_ => dI .i64 (slotOf σ 9) fun last_ => sB9 s_ p_ out_b_ out_l_ out_c_ last_ w)] 2000) [(0, [1, 1, 1, 1, 1, 1, 0, 1, 0, 1, 1, 1, 1, 1, 1, 1, 1, 1, 0, 1, 1, 1, 1, 1, 0, 1, 0, 0, 1]), (0, [1, 1, 1, 1, 1, 1, 0, 1, 0, 1, 1, 1, 1, 1, 1, 1, 1, 1, 0, 1, 1, 1, 1, 1, 0, 1, 0, 1]), (0, [1, 1, 1, 1, 1, 1, 0, 1, 0, 1, 1, 1, 1, 1, 1, 1, 1, 1, 0, 1, 1, 1, 1, 1, 1]), (1, [0]), (0, [1, 1, 1, 1, 1, 1, 1])] [(0, .pointer s), (3, .pointer (some ⟨m0, 0, none⟩)), (6, .int .i64 p), (7, .slice out_b out_l out_c), (9, .int .i64 last), (289, .bool t289)] w := by kernel_rfl
theorem syncm_Sync_Step.B7_sound {R : Option Addr → Nat → Nat → World → Prop}  (s : Option Addr) (m0 : Nat) (p : Int) (out_b : Option Addr) (out_l out_c : Nat) (last : Int) (t289 : Bool) (w : World) (h : syncm_Sync_Step.B7 s m0 p out_b out_l out_c last t289 w   R) :
    KW Tryz.prog 85 372 (syncm_Sync_Step.RV R) ([(0, [1, 1, 1, 1, 1, 1, 0, 1, 0, 1, 1, 1, 1, 1, 1, 1, 1, 1, 0, 1, 1, 1, 1, 1, 0, 1, 0, 0, 1]), (0, [1, 1, 1, 1, 1, 1, 0, 1, 0, 1, 1, 1, 1, 1, 1, 1, 1, 1, 0, 1, 1, 1, 1, 1, 0, 1, 0, 1]), (0, [1, 1, 1, 1, 1, 1, 0, 1, 0, 1, 1, 1, 1, 1, 1, 1, 1, 1, 0, 1, 1, 1, 1, 1, 1]), (1, [0]), (0, [1, 1, 1, 1, 1, 1, 1])].map (toItem (Tryz.f85.body.getD .skip))) [(0, .pointer s), (3, .pointer (some ⟨m0, 0, none⟩)), (6, .int .i64 p), (7, .slice out_b out_l out_c), (9, .int .i64 last), (289, .bool t289)] w := by
  exact block_spec Tryz.func85 Tryz.mixed (stops_cons (fun σ w h => by
      obtain ⟨s_, e0, h⟩ := dP_elim h
      obtain ⟨p_, e1, h⟩ := dI_elim h
      obtain ⟨out_b_, out_l_, out_c_, e2, h⟩ := dL_elim h
      obtain ⟨last_, e3, h⟩ := dI_elim h
      exact (syncm_Sync_Step.B9_sound  s_ p_ out_b_ out_l_ out_c_ last_ w h).weaken (Sub.cons (Sub.cons (Sub.cons (Sub.cons (Sub.nil _) e3) e2) e1) e0)) stops_nil) (Eq.mp (syncm_Sync_Step.B7_eq s m0 p out_b out_l out_c last t289 w   R (fun s_ p_ out_b_ out_l_ out_c_ last_ w => syncm_Sync_Step.B9 s_ p_ out_b_ out_l_ out_c_ last_ w  R)) h)
def syncm_Sync_Step.B8 (s : Option Addr) (p : Int) (out_b : Option Addr) (out_l out_c : Nat) (n : Int) (w : World)   (R : Option Addr → Nat → Nat → World → Prop) : Prop :=
  Pn s fun a =>
  (0 ≤ p ∧ p < ((3 : Nat) : Int)) ∧
  LdI .i64 (Addr.add (a.add 3) (p.toNat * 1)) w fun x356 =>
  Bm (decide (n < x356)) (
    Pn s fun a_1 =>
    (0 ≤ p ∧ p < ((3 : Nat) : Int)) ∧
    Sts [.int .i64 n] (Addr.add (a_1.add 3) (p.toNat * 1)) 0 w fun w1 =>
    syncm_Sync_send.Call s p w1 fun r366_0 r366_1 r366_2 r366_3 r366_4 r366_5 r366_6 r366_7 r366_8_b r366_8_l r366_8_c r366_9 w2 =>
    New (.cells #[.int .i64 (0 : Int), .int .i64 (0 : Int), .int .i64 (0 : Int), .int .i64 (0 : Int), .int .i64 (0 : Int), .int .i64 (0 : Int), .int .i64 (0 : Int), .bool false, .slice none 0 0, .string (ByteArray.mk #[])] 101) w2 fun a_ w3 =>
    Sts [.int .i64 r366_0, .int .i64 r366_1, .int .i64 r366_2, .int .i64 r366_3, .int .i64 r366_4, .int .i64 r366_5, .int .i64 r366_6, .bool r366_7, .slice r366_8_b r366_8_l r366_8_c, .string r366_9] ⟨a_, 0, none⟩ 0 w3 fun w4 =>
    LdI .i64 ⟨a_, 0, none⟩ w4 fun x368_0 =>
    LdI .i64 ⟨a_, 1, none⟩ w4 fun x368_1 =>
    LdI .i64 ⟨a_, 2, none⟩ w4 fun x368_2 =>
    LdI .i64 ⟨a_, 3, none⟩ w4 fun x368_3 =>
    LdI .i64 ⟨a_, 4, none⟩ w4 fun x368_4 =>
    LdI .i64 ⟨a_, 5, none⟩ w4 fun x368_5 =>
    LdI .i64 ⟨a_, 6, none⟩ w4 fun x368_6 =>
    LdB ⟨a_, 7, none⟩ w4 fun x368_7 =>
    LdL ⟨a_, 8, none⟩ w4 fun x368_8_b x368_8_l x368_8_c =>
    LdS ⟨a_, 9, none⟩ w4 fun x368_9 =>
    New (.cells #[.int .i64 x368_0, .int .i64 x368_1, .int .i64 x368_2, .int .i64 x368_3, .int .i64 x368_4, .int .i64 x368_5, .int .i64 x368_6, .bool x368_7, .slice x368_8_b x368_8_l x368_8_c, .string x368_9] 101) w4 fun b369 w5 =>
    Append 101 (.agg #[.int .i64 (0 : Int), .int .i64 (0 : Int), .int .i64 (0 : Int), .int .i64 (0 : Int), .int .i64 (0 : Int), .int .i64 (0 : Int), .int .i64 (0 : Int), .bool false, .slice none 0 0, .string (ByteArray.mk #[])]) 10 104 out_b out_l out_c (some ⟨b369, 0, none⟩) 1 w5 fun b370 c370 w6 =>
    R b370 (out_l + 1) c370 w6) (
    R out_b out_l out_c w)
theorem syncm_Sync_Step.B8_eq (s : Option Addr) (p : Int) (out_b : Option Addr) (out_l out_c : Nat) (n : Int) (w : World)   (R : Option Addr → Nat → Nat → World → Prop)  :
    (
  Pn s fun a =>
  (0 ≤ p ∧ p < ((3 : Nat) : Int)) ∧
  LdI .i64 (Addr.add (a.add 3) (p.toNat * 1)) w fun x356 =>
  Bm (decide (n < x356)) (
    Pn s fun a_1 =>
    (0 ≤ p ∧ p < ((3 : Nat) : Int)) ∧
    Sts [.int .i64 n] (Addr.add (a_1.add 3) (p.toNat * 1)) 0 w fun w1 =>
    syncm_Sync_send.Call s p w1 fun r366_0 r366_1 r366_2 r366_3 r366_4 r366_5 r366_6 r366_7 r366_8_b r366_8_l r366_8_c r366_9 w2 =>
    New (.cells #[.int .i64 (0 : Int), .int .i64 (0 : Int), .int .i64 (0 : Int), .int .i64 (0 : Int), .int .i64 (0 : Int), .int .i64 (0 : Int), .int .i64 (0 : Int), .bool false, .slice none 0 0, .string (ByteArray.mk #[])] 101) w2 fun a_ w3 =>
    Sts [.int .i64 r366_0, .int .i64 r366_1, .int .i64 r366_2, .int .i64 r366_3, .int .i64 r366_4, .int .i64 r366_5, .int .i64 r366_6, .bool r366_7, .slice r366_8_b r366_8_l r366_8_c, .string r366_9] ⟨a_, 0, none⟩ 0 w3 fun w4 =>
    LdI .i64 ⟨a_, 0, none⟩ w4 fun x368_0 =>
    LdI .i64 ⟨a_, 1, none⟩ w4 fun x368_1 =>
    LdI .i64 ⟨a_, 2, none⟩ w4 fun x368_2 =>
    LdI .i64 ⟨a_, 3, none⟩ w4 fun x368_3 =>
    LdI .i64 ⟨a_, 4, none⟩ w4 fun x368_4 =>
    LdI .i64 ⟨a_, 5, none⟩ w4 fun x368_5 =>
    LdI .i64 ⟨a_, 6, none⟩ w4 fun x368_6 =>
    LdB ⟨a_, 7, none⟩ w4 fun x368_7 =>
    LdL ⟨a_, 8, none⟩ w4 fun x368_8_b x368_8_l x368_8_c =>
    LdS ⟨a_, 9, none⟩ w4 fun x368_9 =>
    New (.cells #[.int .i64 x368_0, .int .i64 x368_1, .int .i64 x368_2, .int .i64 x368_3, .int .i64 x368_4, .int .i64 x368_5, .int .i64 x368_6, .bool x368_7, .slice x368_8_b x368_8_l x368_8_c, .string x368_9] 101) w4 fun b369 w5 =>
    Append 101 (.agg #[.int .i64 (0 : Int), .int .i64 (0 : Int), .int .i64 (0 : Int), .int .i64 (0 : Int), .int .i64 (0 : Int), .int .i64 (0 : Int), .int .i64 (0 : Int), .bool false, .slice none 0 0, .string (ByteArray.mk #[])]) 10 104 out_b out_l out_c (some ⟨b369, 0, none⟩) 1 w5 fun b370 c370 w6 =>
    R b370 (out_l + 1) c370 w6) (
    R out_b out_l out_c w)) = kstep Tryz.prog 372 Tryz.f85.results.toList (Tryz.f85.body.getD .skip) (syncm_Sync_Step.RV R) (kvc Tryz.prog 372 Tryz.f85.results.toList (Tryz.f85.body.getD .skip) (syncm_Sync_Step.RV R) [] 2000) [(0, [1, 1, 1, 1, 1, 1, 0, 1, 0, 1, 1, 1, 1, 1, 1, 1, 1, 1, 0, 1, 1, 1, 1, 1, 1, 1, 1]), (1, [0]), (0, [1, 1, 1, 1, 1, 1, 1])] [(0, .pointer s), (6, .int .i64 p), (7, .slice out_b out_l out_c), (23, .int .i64 n)] w := by kernel_rfl
theorem syncm_Sync_Step.B8_sound {R : Option Addr → Nat → Nat → World → Prop}  (s : Option Addr) (p : Int) (out_b : Option Addr) (out_l out_c : Nat) (n : Int) (w : World) (h : syncm_Sync_Step.B8 s p out_b out_l out_c n w   R) :
    KW Tryz.prog 85 372 (syncm_Sync_Step.RV R) ([(0, [1, 1, 1, 1, 1, 1, 0, 1, 0, 1, 1, 1, 1, 1, 1, 1, 1, 1, 0, 1, 1, 1, 1, 1, 1, 1, 1]), (1, [0]), (0, [1, 1, 1, 1, 1, 1, 1])].map (toItem (Tryz.f85.body.getD .skip))) [(0, .pointer s), (6, .int .i64 p), (7, .slice out_b out_l out_c), (23, .int .i64 n)] w := by
  exact block_spec Tryz.func85 Tryz.mixed stops_nil (Eq.mp (syncm_Sync_Step.B8_eq s p out_b out_l out_c n w   R ) h)
def syncm_Sync_Step.B5 (s : Option Addr) (m0 : Nat) (p : Int) (out_b : Option Addr) (out_l out_c : Nat) (last : Int) (t272 : Bool) (w : World)   (R : Option Addr → Nat → Nat → World → Prop) : Prop :=
  Bm t272 (
    R none 0 0 w) (
    LdB ⟨m0, 7, none⟩ w fun x274 =>
    Bm x274 (
      LdI .i64 ⟨m0, 4, none⟩ w.drew fun x276 =>
      Pn s fun a =>
      (0 ≤ p ∧ p < ((3 : Nat) : Int)) ∧
      LdI .i64 (Addr.add (a.add 6) (p.toNat * 1)) w.drew fun x282 =>
      Bm (decide (x276 > x282)) (
        LdI .i64 ⟨m0, 4, none⟩ w.drew fun x286 =>
        syncm_Sync_Step.B7 s m0 p out_b out_l out_c last (decide (x286 ≤ last)) w.drew  R) (
        syncm_Sync_Step.B7 s m0 p out_b out_l out_c last false w.drew  R)) (
      LdI .i64 ⟨m0, 4, none⟩ w fun x333 =>
      Pn s fun a_1 =>
      (0 ≤ p ∧ p < ((3 : Nat) : Int)) ∧
      LdI .i64 (Addr.add (a_1.add 6) (p.toNat * 1)) w fun x341 =>
      Bm (decide ((IntKind.i64.wrap (x333 + (1 : Int))) ≤ x341)) (
        Pn s fun a_2 =>
        (0 ≤ p ∧ p < ((3 : Nat) : Int)) ∧
        LdI .i64 (Addr.add (a_2.add 6) (p.toNat * 1)) w fun x348 =>
        syncm_Sync_Step.B8 s p out_b out_l out_c (IntKind.i64.wrap (x348 + (1 : Int))) w  R) (
        syncm_Sync_Step.B8 s p out_b out_l out_c (IntKind.i64.wrap (x333 + (1 : Int))) w  R)))
theorem syncm_Sync_Step.B5_eq (s : Option Addr) (m0 : Nat) (p : Int) (out_b : Option Addr) (out_l out_c : Nat) (last : Int) (t272 : Bool) (w : World)   (R : Option Addr → Nat → Nat → World → Prop) (sB7 : Option Addr → Nat → Int → Option Addr → Nat → Nat → Int → Bool → World → Prop) (sB8 : Option Addr → Int → Option Addr → Nat → Nat → Int → World → Prop) :
    (
  Bm t272 (
    R none 0 0 w) (
    LdB ⟨m0, 7, none⟩ w fun x274 =>
    Bm x274 (
      LdI .i64 ⟨m0, 4, none⟩ w.drew fun x276 =>
      Pn s fun a =>
      (0 ≤ p ∧ p < ((3 : Nat) : Int)) ∧
      LdI .i64 (Addr.add (a.add 6) (p.toNat * 1)) w.drew fun x282 =>
      Bm (decide (x276 > x282)) (
        LdI .i64 ⟨m0, 4, none⟩ w.drew fun x286 =>
        sB7 s m0 p out_b out_l out_c last (decide (x286 ≤ last)) w.drew) (
        sB7 s m0 p out_b out_l out_c last false w.drew)) (
      LdI .i64 ⟨m0, 4, none⟩ w fun x333 =>
      Pn s fun a_1 =>
      (0 ≤ p ∧ p < ((3 : Nat) : Int)) ∧
      LdI .i64 (Addr.add (a_1.add 6) (p.toNat * 1)) w fun x341 =>
      Bm (decide ((IntKind.i64.wrap (x333 + (1 : Int))) ≤ x341)) (
        Pn s fun a_2 =>
        (0 ≤ p ∧ p < ((3 : Nat) : Int)) ∧
        LdI .i64 (Addr.add (a_2.add 6) (p.toNat * 1)) w fun x348 =>
        sB8 s p out_b out_l out_c (IntKind.i64.wrap (x348 + (1 : Int))) w) (
        sB8 s p out_b out_l out_c (IntKind.i64.wrap (x333 + (1 : Int))) w)))) = kstep Tryz.prog 372 Tryz.f85.results.toList (Tryz.f85.body.getD .skip) (syncm_Sync_Step.RV R) (kvc Tryz.prog 372 Tryz.f85.results.toList (Tryz.f85.body.getD .skip) (syncm_Sync_Step.RV R) [([(0, [1, 1, 1, 1, 1, 1, 0, 1, 0, 1, 1, 1, 1, 1, 1, 1, 1, 1, 0, 1, 1, 1, 1, 1, 0, 1, 0, 0, 1]), (0, [1, 1, 1, 1, 1, 1, 0, 1, 0, 1, 1, 1, 1, 1, 1, 1, 1, 1, 0, 1, 1, 1, 1, 1, 0, 1, 0, 1]), (0, [1, 1, 1, 1, 1, 1, 0, 1, 0, 1, 1, 1, 1, 1, 1, 1, 1, 1, 0, 1, 1, 1, 1, 1, 1]), (1, [0]), (0, [1, 1, 1, 1, 1, 1, 1])], fun σ w => dP (slotOf σ 0) fun s_ => dK (slotOf σ 3) fun m0_ => dI .i64 (slotOf σ 6) fun p_ => dL (slotOf σ 7) fun out_b_ out_l_ out_c_ => dI .i64 (slotOf σ 9) fun last_ => dB (slotOf σ 289) fun t289_ => sB7 s_ m0_ p_ out_b_ out_l_ out_c_ last_ t289_ w),
    ([(0, [1, 1, 1, 1, 1, 1, 0, 1, 0, 1, 1, 1, 1, 1, 1, 1, 1, 1, 0, 1, 1, 1, 1, 1, 1, 1, 1]), (1, [0]), (0, [1, 1, 1, 1, 1, 1, 1])], fun σ w => dP (slotOf σ 0) fun s_ => dI .i64 (slotOf σ 6) fun p_ => dL (slotOf σ 7) fun out_b_ out_l_ out_c_ => dI .i64 (slotOf σ 23) fun n_ => sB8 s_ p_ out_b_ out_l_ out_c_ n_ w)] 2000) [(0, [1, 1, 1, 1, 1, 1, 0, 1, 0, 1, 1, 1, 1, 1, 1, 1, 1, 1, 0, 1, 1, 1, 1, 0, 1]), (0, [1, 1, 1, 1, 1, 1, 0, 1, 0, 1, 1, 1, 1, 1, 1, 1, 1, 1, 0, 1, 1, 1, 1, 1]), (1, [0]), (0, [1, 1, 1, 1, 1, 1, 1])] [(0, .pointer s), (3, .pointer (some ⟨m0, 0, none⟩)), (6, .int .i64 p), (7, .slice out_b out_l out_c), (9, .int .i64 last), (272, .bool t272)] w := by kernel_rfl
theorem syncm_Sync_Step.B5_sound {R : Option Addr → Nat → Nat → World → Prop}  (s : Option Addr) (m0 : Nat) (p : Int) (out_b : Option Addr) (out_l out_c : Nat) (last : Int) (t272 : Bool) (w : World) (h : syncm_Sync_Step.B5 s m0 p out_b out_l out_c last t272 w   R) :
    KW Tryz.prog 85 372 (syncm_Sync_Step.RV R) ([(0, [1, 1, 1, 1, 1, 1, 0, 1, 0, 1, 1, 1, 1, 1, 1, 1, 1, 1, 0, 1, 1, 1, 1, 0, 1]), (0, [1, 1, 1, 1, 1, 1, 0, 1, 0, 1, 1, 1, 1, 1, 1, 1, 1, 1, 0, 1, 1, 1, 1, 1]), (1, [0]), (0, [1, 1, 1, 1, 1, 1, 1])].map (toItem (Tryz.f85.body.getD .skip))) [(0, .pointer s), (3, .pointer (some ⟨m0, 0, none⟩)), (6, .int .i64 p), (7, .slice out_b out_l out_c), (9, .int .i64 last), (272, .bool t272)] w := by
  exact block_spec Tryz.func85 Tryz.mixed (stops_cons (fun σ w h => by
      obtain ⟨s_, e0, h⟩ := dP_elim h
      obtain ⟨m0_, e1, h⟩ := dK_elim h
      obtain ⟨p_, e2, h⟩ := dI_elim h
      obtain ⟨out_b_, out_l_, out_c_, e3, h⟩ := dL_elim h
      obtain ⟨last_, e4, h⟩ := dI_elim h
      obtain ⟨t289_, e5, h⟩ := dB_elim h
      exact (syncm_Sync_Step.B7_sound  s_ m0_ p_ out_b_ out_l_ out_c_ last_ t289_ w h).weaken (Sub.cons (Sub.cons (Sub.cons (Sub.cons (Sub.cons (Sub.cons (Sub.nil _) e5) e4) e3) e2) e1) e0)) (stops_cons (fun σ w h => by
      obtain ⟨s_, e0, h⟩ := dP_elim h
      obtain ⟨p_, e1, h⟩ := dI_elim h
      obtain ⟨out_b_, out_l_, out_c_, e2, h⟩ := dL_elim h
      obtain ⟨n_, e3, h⟩ := dI_elim h
      exact (syncm_Sync_Step.B8_sound  s_ p_ out_b_ out_l_ out_c_ n_ w h).weaken (Sub.cons (Sub.cons (Sub.cons (Sub.cons (Sub.nil _) e3) e2) e1) e0)) stops_nil)) (Eq.mp (syncm_Sync_Step.B5_eq s m0 p out_b out_l out_c last t272 w   R (fun s_ m0_ p_ out_b_ out_l_ out_c_ last_ t289_ w => syncm_Sync_Step.B7 s_ m0_ p_ out_b_ out_l_ out_c_ last_ t289_ w  R) (fun s_ p_ out_b_ out_l_ out_c_ n_ w => syncm_Sync_Step.B8 s_ p_ out_b_ out_l_ out_c_ n_ w  R)) h)
def syncm_Sync_Step.B1 (s : Option Addr) (m0 : Nat) (id0 p : Int) (t45 : Bool) (w : World)   (R : Option Addr → Nat → Nat → World → Prop) : Prop :=
  Bm t45 (
    R none 0 0 w) (
    New (.cells #[.int .i64 (0 : Int), .int .i64 (0 : Int), .int .i64 (0 : Int), .int .i64 (0 : Int), .int .i64 (0 : Int), .int .i64 (0 : Int), .int .i64 (0 : Int), .bool false, .slice none 0 0, .string (ByteArray.mk #[])] 101) w fun re_ w1 =>
    Sts [.int .i64 (4 : Int), .int .i64 id0, .int .i64 p, .int .i64 (0 : Int), .int .i64 (0 : Int), .int .i64 (0 : Int), .int .i64 (0 : Int), .bool false, .slice none 0 0, .string (ByteArray.mk #[])] ⟨re_, 0, none⟩ 0 w1 fun w2 =>
    Pn s fun a =>
    LdP a w2 fun x52 =>
    rlogm_Log_Last.Call x52 w2 fun r53 w3 =>
    LdI .i64 ⟨m0, 0, none⟩ w3 fun x55 =>
    Bm (x55 == (1 : Int)) (
      Pn s fun a_1 =>
      LdP a_1 w3 fun x62 =>
      rlogm_Log_TermAt.Call x62 r53 w3 fun r64_0 r64_1 w4 =>
      LdI .i64 ⟨m0, 5, none⟩ w4 fun x68 =>
      Bm (decide (x68 > r64_0)) (
        syncm_Sync_Step.B2 s m0 p none 0 0 re_ true w4  R) (
        LdI .i64 ⟨m0, 5, none⟩ w4 fun x73 =>
        Bm (x73 == r64_0) (
          LdI .i64 ⟨m0, 4, none⟩ w4 fun x78 =>
          syncm_Sync_Step.B2 s m0 p none 0 0 re_ (decide (x78 ≥ r53)) w4  R) (
          syncm_Sync_Step.B2 s m0 p none 0 0 re_ false w4  R))) (
      Bm (x55 == (2 : Int)) (
        Pn s fun a_2 =>
        LdP (a_2.add 1) w3.drew fun x111 =>
        LdI .i64 ⟨m0, 3, none⟩ w3.drew fun x114 =>
        LdB ⟨m0, 7, none⟩ w3.drew fun x116 =>
        electm_Elect_GotVote.Call x111 p x114 x116 w3.drew fun r117 w5 =>
        syncm_Sync_persist.Call s w5 fun w6 =>
        Bm r117 (
          syncm_Sync_Step.L1 s r53 (0 : Int) w6  R) (
          R none 0 0 w6)) (
        Bm (x55 == (3 : Int)) (
          Pn s fun a_3 =>
          LdP (a_3.add 1) w3.drew fun x156 =>
          LdI .i64 ⟨m0, 3, none⟩ w3.drew fun x159 =>
          electm_Elect_Heard.Call x156 p x159 w3.drew fun r160 w7 =>
          syncm_Sync_persist.Call s w7 fun w8 =>
          Bm r160 (
            LdI .i64 ⟨m0, 0, none⟩ w8 fun x166_0 =>
            LdI .i64 ⟨m0, 1, none⟩ w8 fun x166_1 =>
            LdI .i64 ⟨m0, 2, none⟩ w8 fun x166_2 =>
            LdI .i64 ⟨m0, 3, none⟩ w8 fun x166_3 =>
            LdI .i64 ⟨m0, 4, none⟩ w8 fun x166_4 =>
            LdI .i64 ⟨m0, 5, none⟩ w8 fun x166_5 =>
            LdI .i64 ⟨m0, 6, none⟩ w8 fun x166_6 =>
            LdB ⟨m0, 7, none⟩ w8 fun x166_7 =>
            LdL ⟨m0, 8, none⟩ w8 fun x166_8_b x166_8_l x166_8_c =>
            LdS ⟨m0, 9, none⟩ w8 fun x166_9 =>
            syncm_Sync_accept.Call s x166_0 x166_1 x166_2 x166_3 x166_4 x166_5 x166_6 x166_7 x166_8_b x166_8_l x166_8_c x166_9 w8 fun r167_0 r167_1 w9 =>
            Sts [.bool r167_0] ⟨re_, 7, none⟩ 0 w9 fun w10 =>
            Sts [.int .i64 r167_1] ⟨re_, 4, none⟩ 0 w10 fun w11 =>
            syncm_Sync_Step.B3 s none 0 0 re_ w11  R) (
            syncm_Sync_Step.B3 s none 0 0 re_ w8  R)) (
          Bm (x55 == (5 : Int)) (
            Pn s fun a_4 =>
            LdP (a_4.add 1) w3.drew fun x187 =>
            LdI .i64 ⟨m0, 3, none⟩ w3.drew fun x190 =>
            electm_Elect_Heard.Call x187 p x190 w3.drew fun r191 w12 =>
            syncm_Sync_persist.Call s w12 fun w13 =>
            Bm r191 (
              LdI .i64 ⟨m0, 4, none⟩ w13.drew fun x197 =>
              Pn s fun a_5 =>
              LdI .i64 (a_5.add 2) w13.drew fun x201 =>
              syncm_Sync_Step.B4 s m0 none 0 0 re_ r191 (decide (x197 ≤ x201)) w13.drew  R) (
              syncm_Sync_Step.B4 s m0 none 0 0 re_ r191 false w13.drew  R)) (
            Bm (x55 == (4 : Int)) (
              Pn s fun a_6 =>
              LdP (a_6.add 1) w3.drew fun x248 =>
              LdI .i64 ⟨m0, 3, none⟩ w3.drew fun x250 =>
              electm_Elect_See.Call x248 x250 w3.drew fun r251 w14 =>
              Bm r251 (
                syncm_Sync_persist.Call s w14 fun w15 =>
                R none 0 0 w15) (
                Pn s fun a_7 =>
                LdP (a_7.add 1) w14 fun x258 =>
                electm_Elect_Role.Call x258 w14 fun r259 w16 =>
                Pn s fun a_8 =>
                LdP (a_8.add 1) w16 fun x263 =>
                electm_Elect_Term.Call x263 w16 fun r264 w17 =>
                Bm (r259 != (2 : Int)) (
                  syncm_Sync_Step.B5 s m0 p none 0 0 r53 true w17  R) (
                  LdI .i64 ⟨m0, 3, none⟩ w17 fun x269 =>
                  syncm_Sync_Step.B5 s m0 p none 0 0 r53 (x269 != r264) w17  R))) (
              R none 0 0 w3))))))
theorem syncm_Sync_Step.B1_eq (s : Option Addr) (m0 : Nat) (id0 p : Int) (t45 : Bool) (w : World)   (R : Option Addr → Nat → Nat → World → Prop) (sB2 : Option Addr → Nat → Int → Option Addr → Nat → Nat → Nat → Bool → World → Prop) (sL1 : Option Addr → Int → Int → World → Prop) (sB3 : Option Addr → Option Addr → Nat → Nat → Nat → World → Prop) (sB4 : Option Addr → Nat → Option Addr → Nat → Nat → Nat → Bool → Bool → World → Prop) (sB5 : Option Addr → Nat → Int → Option Addr → Nat → Nat → Int → Bool → World → Prop) :
    (
  Bm t45 (
    R none 0 0 w) (
    New (.cells #[.int .i64 (0 : Int), .int .i64 (0 : Int), .int .i64 (0 : Int), .int .i64 (0 : Int), .int .i64 (0 : Int), .int .i64 (0 : Int), .int .i64 (0 : Int), .bool false, .slice none 0 0, .string (ByteArray.mk #[])] 101) w fun re_ w1 =>
    Sts [.int .i64 (4 : Int), .int .i64 id0, .int .i64 p, .int .i64 (0 : Int), .int .i64 (0 : Int), .int .i64 (0 : Int), .int .i64 (0 : Int), .bool false, .slice none 0 0, .string (ByteArray.mk #[])] ⟨re_, 0, none⟩ 0 w1 fun w2 =>
    Pn s fun a =>
    LdP a w2 fun x52 =>
    rlogm_Log_Last.Call x52 w2 fun r53 w3 =>
    LdI .i64 ⟨m0, 0, none⟩ w3 fun x55 =>
    Bm (x55 == (1 : Int)) (
      Pn s fun a_1 =>
      LdP a_1 w3 fun x62 =>
      rlogm_Log_TermAt.Call x62 r53 w3 fun r64_0 r64_1 w4 =>
      LdI .i64 ⟨m0, 5, none⟩ w4 fun x68 =>
      Bm (decide (x68 > r64_0)) (
        sB2 s m0 p none 0 0 re_ true w4) (
        LdI .i64 ⟨m0, 5, none⟩ w4 fun x73 =>
        Bm (x73 == r64_0) (
          LdI .i64 ⟨m0, 4, none⟩ w4 fun x78 =>
          sB2 s m0 p none 0 0 re_ (decide (x78 ≥ r53)) w4) (
          sB2 s m0 p none 0 0 re_ false w4))) (
      Bm (x55 == (2 : Int)) (
        Pn s fun a_2 =>
        LdP (a_2.add 1) w3.drew fun x111 =>
        LdI .i64 ⟨m0, 3, none⟩ w3.drew fun x114 =>
        LdB ⟨m0, 7, none⟩ w3.drew fun x116 =>
        electm_Elect_GotVote.Call x111 p x114 x116 w3.drew fun r117 w5 =>
        syncm_Sync_persist.Call s w5 fun w6 =>
        Bm r117 (
          sL1 s r53 (0 : Int) w6) (
          R none 0 0 w6)) (
        Bm (x55 == (3 : Int)) (
          Pn s fun a_3 =>
          LdP (a_3.add 1) w3.drew fun x156 =>
          LdI .i64 ⟨m0, 3, none⟩ w3.drew fun x159 =>
          electm_Elect_Heard.Call x156 p x159 w3.drew fun r160 w7 =>
          syncm_Sync_persist.Call s w7 fun w8 =>
          Bm r160 (
            LdI .i64 ⟨m0, 0, none⟩ w8 fun x166_0 =>
            LdI .i64 ⟨m0, 1, none⟩ w8 fun x166_1 =>
            LdI .i64 ⟨m0, 2, none⟩ w8 fun x166_2 =>
            LdI .i64 ⟨m0, 3, none⟩ w8 fun x166_3 =>
            LdI .i64 ⟨m0, 4, none⟩ w8 fun x166_4 =>
            LdI .i64 ⟨m0, 5, none⟩ w8 fun x166_5 =>
            LdI .i64 ⟨m0, 6, none⟩ w8 fun x166_6 =>
            LdB ⟨m0, 7, none⟩ w8 fun x166_7 =>
            LdL ⟨m0, 8, none⟩ w8 fun x166_8_b x166_8_l x166_8_c =>
            LdS ⟨m0, 9, none⟩ w8 fun x166_9 =>
            syncm_Sync_accept.Call s x166_0 x166_1 x166_2 x166_3 x166_4 x166_5 x166_6 x166_7 x166_8_b x166_8_l x166_8_c x166_9 w8 fun r167_0 r167_1 w9 =>
            Sts [.bool r167_0] ⟨re_, 7, none⟩ 0 w9 fun w10 =>
            Sts [.int .i64 r167_1] ⟨re_, 4, none⟩ 0 w10 fun w11 =>
            sB3 s none 0 0 re_ w11) (
            sB3 s none 0 0 re_ w8)) (
          Bm (x55 == (5 : Int)) (
            Pn s fun a_4 =>
            LdP (a_4.add 1) w3.drew fun x187 =>
            LdI .i64 ⟨m0, 3, none⟩ w3.drew fun x190 =>
            electm_Elect_Heard.Call x187 p x190 w3.drew fun r191 w12 =>
            syncm_Sync_persist.Call s w12 fun w13 =>
            Bm r191 (
              LdI .i64 ⟨m0, 4, none⟩ w13.drew fun x197 =>
              Pn s fun a_5 =>
              LdI .i64 (a_5.add 2) w13.drew fun x201 =>
              sB4 s m0 none 0 0 re_ r191 (decide (x197 ≤ x201)) w13.drew) (
              sB4 s m0 none 0 0 re_ r191 false w13.drew)) (
            Bm (x55 == (4 : Int)) (
              Pn s fun a_6 =>
              LdP (a_6.add 1) w3.drew fun x248 =>
              LdI .i64 ⟨m0, 3, none⟩ w3.drew fun x250 =>
              electm_Elect_See.Call x248 x250 w3.drew fun r251 w14 =>
              Bm r251 (
                syncm_Sync_persist.Call s w14 fun w15 =>
                R none 0 0 w15) (
                Pn s fun a_7 =>
                LdP (a_7.add 1) w14 fun x258 =>
                electm_Elect_Role.Call x258 w14 fun r259 w16 =>
                Pn s fun a_8 =>
                LdP (a_8.add 1) w16 fun x263 =>
                electm_Elect_Term.Call x263 w16 fun r264 w17 =>
                Bm (r259 != (2 : Int)) (
                  sB5 s m0 p none 0 0 r53 true w17) (
                  LdI .i64 ⟨m0, 3, none⟩ w17 fun x269 =>
                  sB5 s m0 p none 0 0 r53 (x269 != r264) w17))) (
              R none 0 0 w3))))))) = kstep Tryz.prog 372 Tryz.f85.results.toList (Tryz.f85.body.getD .skip) (syncm_Sync_Step.RV R) (kvc Tryz.prog 372 Tryz.f85.results.toList (Tryz.f85.body.getD .skip) (syncm_Sync_Step.RV R) [([(0, [1, 1, 1, 1, 1, 1, 0, 1, 0, 1, 0, 1, 1]), (1, [0]), (0, [1, 1, 1, 1, 1, 1, 1])], fun σ w => dP (slotOf σ 0) fun s_ => dK (slotOf σ 3) fun m0_ => dI .i64 (slotOf σ 6) fun p_ => dL (slotOf σ 7) fun out_b_ out_l_ out_c_ => dK (slotOf σ 8) fun re_ => dB (slotOf σ 12) fun up_ => sB2 s_ m0_ p_ out_b_ out_l_ out_c_ re_ up_ w),
    ([(0, [1, 1, 1, 1, 1, 1, 0, 1, 0, 1, 1, 1, 0, 1, 1, 1, 0, 0, 1, 0, 0]), (2, [1, 1, 1, 1, 1, 1, 0, 1, 0, 1, 1, 1, 0, 1, 1, 1, 0, 0, 1, 0, 0]), (1, [1]), (0, [1, 1, 1, 1, 1, 1, 0, 1, 0, 1, 1, 1, 0, 1, 1, 1, 0, 1]), (1, [0]), (0, [1, 1, 1, 1, 1, 1, 1])], fun σ w => dP (slotOf σ 0) fun s_ => dI .i64 (slotOf σ 9) fun last_ => dI .i64 (slotOf σ 14) fun q_ => sL1 s_ last_ q_ w),
    ([(0, [1, 1, 1, 1, 1, 1, 0, 1, 0, 1, 1, 1, 1, 1, 0, 1, 1, 1]), (1, [0]), (0, [1, 1, 1, 1, 1, 1, 1])], fun σ w => dP (slotOf σ 0) fun s_ => dL (slotOf σ 7) fun out_b_ out_l_ out_c_ => dK (slotOf σ 8) fun re_ => sB3 s_ out_b_ out_l_ out_c_ re_ w),
    ([(0, [1, 1, 1, 1, 1, 1, 0, 1, 0, 1, 1, 1, 1, 1, 1, 1, 0, 1, 1, 0, 1]), (0, [1, 1, 1, 1, 1, 1, 0, 1, 0, 1, 1, 1, 1, 1, 1, 1, 0, 1, 1, 1]), (1, [0]), (0, [1, 1, 1, 1, 1, 1, 1])], fun σ w => dP (slotOf σ 0) fun s_ => dK (slotOf σ 3) fun m0_ => dL (slotOf σ 7) fun out_b_ out_l_ out_c_ => dK (slotOf σ 8) fun re_ => dB (slotOf σ 17) fun ok_ => dB (slotOf σ 203) fun t203_ => sB4 s_ m0_ out_b_ out_l_ out_c_ re_ ok_ t203_ w),
    ([(0, [1, 1, 1, 1, 1, 1, 0, 1, 0, 1, 1, 1, 1, 1, 1, 1, 1, 1, 0, 1, 1, 1, 1, 0, 1]), (0, [1, 1, 1, 1, 1, 1, 0, 1, 0, 1, 1, 1, 1, 1, 1, 1, 1, 1, 0, 1, 1, 1, 1, 1]), (1, [0]), (0, [1, 1, 1, 1, 1, 1, 1])], fun σ w => dP (slotOf σ 0) fun s_ => dK (slotOf σ 3) fun m0_ => dI .i64 (slotOf σ 6) fun p_ => dL (slotOf σ 7) fun out_b_ out_l_ out_c_ => dI .i64 (slotOf σ 9) fun last_ => dB (slotOf σ 272) fun t272_ => sB5 s_ m0_ p_ out_b_ out_l_ out_c_ last_ t272_ w)] 2000) [(0, [1, 1, 0, 1]), (0, [1, 1, 1])] [(0, .pointer s), (3, .pointer (some ⟨m0, 0, none⟩)), (5, .int .i64 id0), (6, .int .i64 p), (45, .bool t45)] w := by kernel_rfl
theorem syncm_Sync_Step.B1_sound {R : Option Addr → Nat → Nat → World → Prop}  (s : Option Addr) (m0 : Nat) (id0 p : Int) (t45 : Bool) (w : World) (h : syncm_Sync_Step.B1 s m0 id0 p t45 w   R) :
    KW Tryz.prog 85 372 (syncm_Sync_Step.RV R) ([(0, [1, 1, 0, 1]), (0, [1, 1, 1])].map (toItem (Tryz.f85.body.getD .skip))) [(0, .pointer s), (3, .pointer (some ⟨m0, 0, none⟩)), (5, .int .i64 id0), (6, .int .i64 p), (45, .bool t45)] w := by
  exact block_spec Tryz.func85 Tryz.mixed (stops_cons (fun σ w h => by
      obtain ⟨s_, e0, h⟩ := dP_elim h
      obtain ⟨m0_, e1, h⟩ := dK_elim h
      obtain ⟨p_, e2, h⟩ := dI_elim h
      obtain ⟨out_b_, out_l_, out_c_, e3, h⟩ := dL_elim h
      obtain ⟨re_, e4, h⟩ := dK_elim h
      obtain ⟨up_, e5, h⟩ := dB_elim h
      exact (syncm_Sync_Step.B2_sound  s_ m0_ p_ out_b_ out_l_ out_c_ re_ up_ w h).weaken (Sub.cons (Sub.cons (Sub.cons (Sub.cons (Sub.cons (Sub.cons (Sub.nil _) e5) e4) e3) e2) e1) e0)) (stops_cons (fun σ w h => by
      obtain ⟨s_, e0, h⟩ := dP_elim h
      obtain ⟨last_, e1, h⟩ := dI_elim h
      obtain ⟨q_, e2, h⟩ := dI_elim h
      exact (syncm_Sync_Step.L1_sound  s_ last_ q_ w h).weaken (Sub.cons (Sub.cons (Sub.cons (Sub.nil _) e2) e1) e0)) (stops_cons (fun σ w h => by
      obtain ⟨s_, e0, h⟩ := dP_elim h
      obtain ⟨out_b_, out_l_, out_c_, e1, h⟩ := dL_elim h
      obtain ⟨re_, e2, h⟩ := dK_elim h
      exact (syncm_Sync_Step.B3_sound  s_ out_b_ out_l_ out_c_ re_ w h).weaken (Sub.cons (Sub.cons (Sub.cons (Sub.nil _) e2) e1) e0)) (stops_cons (fun σ w h => by
      obtain ⟨s_, e0, h⟩ := dP_elim h
      obtain ⟨m0_, e1, h⟩ := dK_elim h
      obtain ⟨out_b_, out_l_, out_c_, e2, h⟩ := dL_elim h
      obtain ⟨re_, e3, h⟩ := dK_elim h
      obtain ⟨ok_, e4, h⟩ := dB_elim h
      obtain ⟨t203_, e5, h⟩ := dB_elim h
      exact (syncm_Sync_Step.B4_sound  s_ m0_ out_b_ out_l_ out_c_ re_ ok_ t203_ w h).weaken (Sub.cons (Sub.cons (Sub.cons (Sub.cons (Sub.cons (Sub.cons (Sub.nil _) e5) e4) e3) e2) e1) e0)) (stops_cons (fun σ w h => by
      obtain ⟨s_, e0, h⟩ := dP_elim h
      obtain ⟨m0_, e1, h⟩ := dK_elim h
      obtain ⟨p_, e2, h⟩ := dI_elim h
      obtain ⟨out_b_, out_l_, out_c_, e3, h⟩ := dL_elim h
      obtain ⟨last_, e4, h⟩ := dI_elim h
      obtain ⟨t272_, e5, h⟩ := dB_elim h
      exact (syncm_Sync_Step.B5_sound  s_ m0_ p_ out_b_ out_l_ out_c_ last_ t272_ w h).weaken (Sub.cons (Sub.cons (Sub.cons (Sub.cons (Sub.cons (Sub.cons (Sub.nil _) e5) e4) e3) e2) e1) e0)) stops_nil))))) (Eq.mp (syncm_Sync_Step.B1_eq s m0 id0 p t45 w   R (fun s_ m0_ p_ out_b_ out_l_ out_c_ re_ up_ w => syncm_Sync_Step.B2 s_ m0_ p_ out_b_ out_l_ out_c_ re_ up_ w  R) (fun s_ last_ q_ w => syncm_Sync_Step.L1 s_ last_ q_ w  R) (fun s_ out_b_ out_l_ out_c_ re_ w => syncm_Sync_Step.B3 s_ out_b_ out_l_ out_c_ re_ w  R) (fun s_ m0_ out_b_ out_l_ out_c_ re_ ok_ t203_ w => syncm_Sync_Step.B4 s_ m0_ out_b_ out_l_ out_c_ re_ ok_ t203_ w  R) (fun s_ m0_ p_ out_b_ out_l_ out_c_ last_ t272_ w => syncm_Sync_Step.B5 s_ m0_ p_ out_b_ out_l_ out_c_ last_ t272_ w  R)) h)
def syncm_Sync_Step.B0 (s : Option Addr) (m0_0 m0_1 m0_2 m0_3 m0_4 m0_5 m0_6 : Int) (m0_7 : Bool) (m0_8_b : Option Addr) (m0_8_l m0_8_c : Nat) (m0_9 : ByteArray) (w : World)   (R : Option Addr → Nat → Nat → World → Prop) : Prop :=
  New (.cells #[.int .i64 m0_0, .int .i64 m0_1, .int .i64 m0_2, .int .i64 m0_3, .int .i64 m0_4, .int .i64 m0_5, .int .i64 m0_6, .bool m0_7, .slice m0_8_b m0_8_l m0_8_c, .string m0_9] 101) w fun m0_ w1 =>
  Pn s fun a =>
  LdP (a.add 1) w1.drew fun x28 =>
  LdI .i64 ⟨m0_, 1, none⟩ w1.drew fun x31 =>
  electm_Elect_Id.Call x28 w1.drew fun r29 w2 =>
  w2.cell? ⟨m0_, 1, none⟩ = some (.int .i64 x31) ∧
  LdI .i64 ⟨m0_, 0, none⟩ w2 fun x32_0 =>
  LdI .i64 ⟨m0_, 1, none⟩ w2 fun x32_1 =>
  LdI .i64 ⟨m0_, 2, none⟩ w2 fun x32_2 =>
  LdI .i64 ⟨m0_, 3, none⟩ w2 fun x32_3 =>
  LdI .i64 ⟨m0_, 4, none⟩ w2 fun x32_4 =>
  LdI .i64 ⟨m0_, 5, none⟩ w2 fun x32_5 =>
  LdI .i64 ⟨m0_, 6, none⟩ w2 fun x32_6 =>
  LdB ⟨m0_, 7, none⟩ w2 fun x32_7 =>
  LdL ⟨m0_, 8, none⟩ w2 fun x32_8_b x32_8_l x32_8_c =>
  LdS ⟨m0_, 9, none⟩ w2 fun x32_9 =>
  api_MsgOK.Call x32_0 x32_1 x32_2 x32_3 x32_4 x32_5 x32_6 x32_7 x32_8_b x32_8_l x32_8_c x32_9 w2 fun r33 w3 =>
  Bm (!r33) (
    syncm_Sync_Step.B1 s m0_ r29 x31 true w3  R) (
    LdI .i64 ⟨m0_, 2, none⟩ w3 fun x37 =>
    Bm (x37 != r29) (
      syncm_Sync_Step.B1 s m0_ r29 x31 true w3  R) (
      syncm_Sync_Step.B1 s m0_ r29 x31 (x31 == r29) w3  R))
theorem syncm_Sync_Step.B0_eq (s : Option Addr) (m0_0 m0_1 m0_2 m0_3 m0_4 m0_5 m0_6 : Int) (m0_7 : Bool) (m0_8_b : Option Addr) (m0_8_l m0_8_c : Nat) (m0_9 : ByteArray) (w : World)   (R : Option Addr → Nat → Nat → World → Prop) (sB1 : Option Addr → Nat → Int → Int → Bool → World → Prop) :
    (
  New (.cells #[.int .i64 m0_0, .int .i64 m0_1, .int .i64 m0_2, .int .i64 m0_3, .int .i64 m0_4, .int .i64 m0_5, .int .i64 m0_6, .bool m0_7, .slice m0_8_b m0_8_l m0_8_c, .string m0_9] 101) w fun m0_ w1 =>
  Pn s fun a =>
  LdP (a.add 1) w1.drew fun x28 =>
  LdI .i64 ⟨m0_, 1, none⟩ w1.drew fun x31 =>
  electm_Elect_Id.Call x28 w1.drew fun r29 w2 =>
  w2.cell? ⟨m0_, 1, none⟩ = some (.int .i64 x31) ∧
  LdI .i64 ⟨m0_, 0, none⟩ w2 fun x32_0 =>
  LdI .i64 ⟨m0_, 1, none⟩ w2 fun x32_1 =>
  LdI .i64 ⟨m0_, 2, none⟩ w2 fun x32_2 =>
  LdI .i64 ⟨m0_, 3, none⟩ w2 fun x32_3 =>
  LdI .i64 ⟨m0_, 4, none⟩ w2 fun x32_4 =>
  LdI .i64 ⟨m0_, 5, none⟩ w2 fun x32_5 =>
  LdI .i64 ⟨m0_, 6, none⟩ w2 fun x32_6 =>
  LdB ⟨m0_, 7, none⟩ w2 fun x32_7 =>
  LdL ⟨m0_, 8, none⟩ w2 fun x32_8_b x32_8_l x32_8_c =>
  LdS ⟨m0_, 9, none⟩ w2 fun x32_9 =>
  api_MsgOK.Call x32_0 x32_1 x32_2 x32_3 x32_4 x32_5 x32_6 x32_7 x32_8_b x32_8_l x32_8_c x32_9 w2 fun r33 w3 =>
  Bm (!r33) (
    sB1 s m0_ r29 x31 true w3) (
    LdI .i64 ⟨m0_, 2, none⟩ w3 fun x37 =>
    Bm (x37 != r29) (
      sB1 s m0_ r29 x31 true w3) (
      sB1 s m0_ r29 x31 (x31 == r29) w3))) = kstep Tryz.prog 372 Tryz.f85.results.toList (Tryz.f85.body.getD .skip) (syncm_Sync_Step.RV R) (kvc Tryz.prog 372 Tryz.f85.results.toList (Tryz.f85.body.getD .skip) (syncm_Sync_Step.RV R) [([(0, [1, 1, 0, 1]), (0, [1, 1, 1])], fun σ w => dP (slotOf σ 0) fun s_ => dK (slotOf σ 3) fun m0_ => dI .i64 (slotOf σ 5) fun id0_ => dI .i64 (slotOf σ 6) fun p_ => dB (slotOf σ 45) fun t45_ => sB1 s_ m0_ id0_ p_ t45_ w)] 2000) [(0, [])] [(0, .pointer s), (1, .agg #[.int .i64 m0_0, .int .i64 m0_1, .int .i64 m0_2, .int .i64 m0_3, .int .i64 m0_4, .int .i64 m0_5, .int .i64 m0_6, .bool m0_7, .slice m0_8_b m0_8_l m0_8_c, .string m0_9])] w := by kernel_rfl
theorem syncm_Sync_Step.B0_sound {R : Option Addr → Nat → Nat → World → Prop}  (s : Option Addr) (m0_0 m0_1 m0_2 m0_3 m0_4 m0_5 m0_6 : Int) (m0_7 : Bool) (m0_8_b : Option Addr) (m0_8_l m0_8_c : Nat) (m0_9 : ByteArray) (w : World) (h : syncm_Sync_Step.B0 s m0_0 m0_1 m0_2 m0_3 m0_4 m0_5 m0_6 m0_7 m0_8_b m0_8_l m0_8_c m0_9 w   R) :
    KW Tryz.prog 85 372 (syncm_Sync_Step.RV R) ([(0, [])].map (toItem (Tryz.f85.body.getD .skip))) [(0, .pointer s), (1, .agg #[.int .i64 m0_0, .int .i64 m0_1, .int .i64 m0_2, .int .i64 m0_3, .int .i64 m0_4, .int .i64 m0_5, .int .i64 m0_6, .bool m0_7, .slice m0_8_b m0_8_l m0_8_c, .string m0_9])] w := by
  exact block_spec Tryz.func85 Tryz.mixed (stops_cons (fun σ w h => by
      obtain ⟨s_, e0, h⟩ := dP_elim h
      obtain ⟨m0_, e1, h⟩ := dK_elim h
      obtain ⟨id0_, e2, h⟩ := dI_elim h
      obtain ⟨p_, e3, h⟩ := dI_elim h
      obtain ⟨t45_, e4, h⟩ := dB_elim h
      exact (syncm_Sync_Step.B1_sound  s_ m0_ id0_ p_ t45_ w h).weaken (Sub.cons (Sub.cons (Sub.cons (Sub.cons (Sub.cons (Sub.nil _) e4) e3) e2) e1) e0)) stops_nil) (Eq.mp (syncm_Sync_Step.B0_eq s m0_0 m0_1 m0_2 m0_3 m0_4 m0_5 m0_6 m0_7 m0_8_b m0_8_l m0_8_c m0_9 w   R (fun s_ m0_ id0_ p_ t45_ w => syncm_Sync_Step.B1 s_ m0_ id0_ p_ t45_ w  R)) h)
theorem syncm_Sync_Step.sound (s : Option Addr) (m0_0 m0_1 m0_2 m0_3 m0_4 m0_5 m0_6 : Int) (m0_7 : Bool) (m0_8_b : Option Addr) (m0_8_l m0_8_c : Nat) (m0_9 : ByteArray) (w : World) (R : Option Addr → Nat → Nat → World → Prop) (h : syncm_Sync_Step.B0 s m0_0 m0_1 m0_2 m0_3 m0_4 m0_5 m0_6 m0_7 m0_8_b m0_8_l m0_8_c m0_9 w R) : syncm_Sync_Step.Call s m0_0 m0_1 m0_2 m0_3 m0_4 m0_5 m0_6 m0_7 m0_8_b m0_8_l m0_8_c m0_9 w R := by
  have hc := calls_of_block (args := #[.pointer s, .agg #[.int .i64 m0_0, .int .i64 m0_1, .int .i64 m0_2, .int .i64 m0_3, .int .i64 m0_4, .int .i64 m0_5, .int .i64 m0_6, .bool m0_7, .slice m0_8_b m0_8_l m0_8_c, .string m0_9]]) Tryz.func85 (body := (Tryz.f85.body.getD .skip)) (by kernel_rfl) (by kernel_rfl) (args_slot _) (syncm_Sync_Step.B0_sound s m0_0 m0_1 m0_2 m0_3 m0_4 m0_5 m0_6 m0_7 m0_8_b m0_8_l m0_8_c m0_9 w h)
  exact hc.mono fun e w' he => by
    obtain ⟨v, rfl, hv⟩ := he
    exact syncm_Sync_Step.RV_elim hv
end Go.Proofs.Qxb6500430aGreat
