import Derived.Test.Qxb6500430aGreatSig
set_option maxRecDepth 100000
set_option linter.unusedVariables false
open Go.Vc
namespace Go.Proofs.Qxb6500430aGreat
def nodem_Node_Call.B0 (n : Option Addr) (c_0 c_1 c_2 : Int) (c_3 c_4 c_5 : ByteArray) (w : World)   (R : Int → Option Addr → Nat → Nat → Option Addr → Nat → Nat → World → Prop) : Prop :=
  New (.cells #[.int .i64 c_0, .int .i64 c_1, .int .i64 c_2, .string c_3, .string c_4, .string c_5] 87) w fun c_ w1 =>
  New (.cells #[.int .i64 (0 : Int), .slice none 0 0, .slice none 0 0] 42) w1 fun b4 w2 =>
  LdI .i64 ⟨c_, 0, none⟩ w2 fun x9_0 =>
  LdI .i64 ⟨c_, 1, none⟩ w2 fun x9_1 =>
  LdI .i64 ⟨c_, 2, none⟩ w2 fun x9_2 =>
  LdS ⟨c_, 3, none⟩ w2 fun x9_3 =>
  LdS ⟨c_, 4, none⟩ w2 fun x9_4 =>
  LdS ⟨c_, 5, none⟩ w2 fun x9_5 =>
  api_CmdOK.Call x9_0 x9_1 x9_2 x9_3 x9_4 x9_5 w2 fun r10 w3 =>
  Bm (!r10) (
    Sts [.int .i64 (9 : Int), .slice none 0 0, .slice none 0 0] ⟨b4, 0, none⟩ 0 w3 fun w4 =>
    LdI .i64 ⟨b4, 0, none⟩ w4 fun r_0 =>
    LdL ⟨b4, 1, none⟩ w4 fun r_1_b r_1_l r_1_c =>
    LdL ⟨b4, 2, none⟩ w4 fun r_2_b r_2_l r_2_c =>
    R r_0 r_1_b r_1_l r_1_c r_2_b r_2_l r_2_c w4) (
    Pn n fun a =>
    LdP a w3 fun x16 =>
    syncm_Sync_View.Call x16 w3 fun r17 w5 =>
    Pn r17 fun a_1 =>
    LdI .i64 (a_1.add 3) w5 fun x21 =>
    Bm (x21 != (2 : Int)) (
      Sts [.int .i64 (8 : Int), .slice none 0 0, .slice none 0 0] ⟨b4, 0, none⟩ 0 w5 fun w6 =>
      LdI .i64 ⟨b4, 0, none⟩ w6 fun r_0_1 =>
      LdL ⟨b4, 1, none⟩ w6 fun r_1_b_1 r_1_l_1 r_1_c_1 =>
      LdL ⟨b4, 2, none⟩ w6 fun r_2_b_1 r_2_l_1 r_2_c_1 =>
      R r_0_1 r_1_b_1 r_1_l_1 r_1_c_1 r_2_b_1 r_2_l_1 r_2_c_1 w6) (
      LdI .i64 ⟨c_, 1, none⟩ w5.drew fun x26 =>
      Pn n fun a_2 =>
      (0 ≤ x26 ∧ x26 < ((3 : Nat) : Int)) ∧
      LdB (Addr.add (a_2.add 3) (x26.toNat * 1)) w5.drew fun x30 =>
      Bm x30 (
        Sts [.int .i64 (14 : Int), .slice none 0 0, .slice none 0 0] ⟨b4, 0, none⟩ 0 w5.drew fun w7 =>
        LdI .i64 ⟨b4, 0, none⟩ w7 fun r_0_2 =>
        LdL ⟨b4, 1, none⟩ w7 fun r_1_b_2 r_1_l_2 r_1_c_2 =>
        LdL ⟨b4, 2, none⟩ w7 fun r_2_b_2 r_2_l_2 r_2_c_2 =>
        R r_0_2 r_1_b_2 r_1_l_2 r_1_c_2 r_2_b_2 r_2_l_2 r_2_c_2 w7) (
        LdI .i64 ⟨c_, 0, none⟩ w5.drew fun x32_0 =>
        LdI .i64 ⟨c_, 1, none⟩ w5.drew fun x32_1 =>
        LdI .i64 ⟨c_, 2, none⟩ w5.drew fun x32_2 =>
        LdS ⟨c_, 3, none⟩ w5.drew fun x32_3 =>
        LdS ⟨c_, 4, none⟩ w5.drew fun x32_4 =>
        LdS ⟨c_, 5, none⟩ w5.drew fun x32_5 =>
        api_EncodeCmd.Call x32_0 x32_1 x32_2 x32_3 x32_4 x32_5 w5.drew fun r33 w8 =>
        Pn n fun a_3 =>
        LdP a_3 w8 fun x38 =>
        syncm_Sync_Propose.Call x38 r33 w8 fun r40_0 r40_1 w9 =>
        Bm (r40_1 != (0 : Int)) (
          Sts [.int .i64 r40_1, .slice none 0 0, .slice none 0 0] ⟨b4, 0, none⟩ 0 w9 fun w10 =>
          LdI .i64 ⟨b4, 0, none⟩ w10 fun r_0_3 =>
          LdL ⟨b4, 1, none⟩ w10 fun r_1_b_3 r_1_l_3 r_1_c_3 =>
          LdL ⟨b4, 2, none⟩ w10 fun r_2_b_3 r_2_l_3 r_2_c_3 =>
          R r_0_3 r_1_b_3 r_1_l_3 r_1_c_3 r_2_b_3 r_2_l_3 r_2_c_3 w10) (
          LdI .i64 ⟨c_, 1, none⟩ w9.drew fun x49 =>
          LdI .i64 ⟨c_, 1, none⟩ w9.drew fun x52 =>
          LdI .i64 ⟨c_, 1, none⟩ w9.drew fun x55 =>
          LdI .i64 ⟨c_, 2, none⟩ w9.drew fun x57 =>
          Pn n fun a_4 =>
          (0 ≤ x49 ∧ x49 < ((3 : Nat) : Int)) ∧
          Pn n fun a_5 =>
          Pn n fun a_6 =>
          Sts [.bool true] (Addr.add (a_4.add 3) (x49.toNat * 1)) 0 w9.drew fun w11 =>
          w11.cell? ⟨c_, 2, none⟩ = some (.int .i64 x57) ∧
          w11.cell? ⟨c_, 1, none⟩ = some (.int .i64 x55) ∧
          w11.cell? ⟨c_, 1, none⟩ = some (.int .i64 x52) ∧
          (0 ≤ x52 ∧ x52 < ((3 : Nat) : Int)) ∧
          Sts [.int .i64 x57] (Addr.add (a_5.add 6) (x52.toNat * 1)) 0 w11 fun w12 =>
          w12.cell? ⟨c_, 1, none⟩ = some (.int .i64 x55) ∧
          (0 ≤ x55 ∧ x55 < ((3 : Nat) : Int)) ∧
          Sts [.int .i64 r40_0] (Addr.add (a_6.add 9) (x55.toNat * 1)) 0 w12 fun w13 =>
          nodem_Node_after.Call n none 0 0 w13 fun r69_0 r69_1_b r69_1_l r69_1_c r69_2_b r69_2_l r69_2_c w14 =>
          Sts [.int .i64 r69_0, .slice r69_1_b r69_1_l r69_1_c, .slice r69_2_b r69_2_l r69_2_c] ⟨b4, 0, none⟩ 0 w14 fun w15 =>
          LdI .i64 ⟨b4, 0, none⟩ w15 fun r_0_4 =>
          LdL ⟨b4, 1, none⟩ w15 fun r_1_b_4 r_1_l_4 r_1_c_4 =>
          LdL ⟨b4, 2, none⟩ w15 fun r_2_b_4 r_2_l_4 r_2_c_4 =>
          R r_0_4 r_1_b_4 r_1_l_4 r_1_c_4 r_2_b_4 r_2_l_4 r_2_c_4 w15))))
theorem nodem_Node_Call.B0_eq (n : Option Addr) (c_0 c_1 c_2 : Int) (c_3 c_4 c_5 : ByteArray) (w : World)   (R : Int → Option Addr → Nat → Nat → Option Addr → Nat → Nat → World → Prop)  :
    (
  New (.cells #[.int .i64 c_0, .int .i64 c_1, .int .i64 c_2, .string c_3, .string c_4, .string c_5] 87) w fun c_ w1 =>
  New (.cells #[.int .i64 (0 : Int), .slice none 0 0, .slice none 0 0] 42) w1 fun b4 w2 =>
  LdI .i64 ⟨c_, 0, none⟩ w2 fun x9_0 =>
  LdI .i64 ⟨c_, 1, none⟩ w2 fun x9_1 =>
  LdI .i64 ⟨c_, 2, none⟩ w2 fun x9_2 =>
  LdS ⟨c_, 3, none⟩ w2 fun x9_3 =>
  LdS ⟨c_, 4, none⟩ w2 fun x9_4 =>
  LdS ⟨c_, 5, none⟩ w2 fun x9_5 =>
  api_CmdOK.Call x9_0 x9_1 x9_2 x9_3 x9_4 x9_5 w2 fun r10 w3 =>
  Bm (!r10) (
    Sts [.int .i64 (9 : Int), .slice none 0 0, .slice none 0 0] ⟨b4, 0, none⟩ 0 w3 fun w4 =>
    LdI .i64 ⟨b4, 0, none⟩ w4 fun r_0 =>
    LdL ⟨b4, 1, none⟩ w4 fun r_1_b r_1_l r_1_c =>
    LdL ⟨b4, 2, none⟩ w4 fun r_2_b r_2_l r_2_c =>
    R r_0 r_1_b r_1_l r_1_c r_2_b r_2_l r_2_c w4) (
    Pn n fun a =>
    LdP a w3 fun x16 =>
    syncm_Sync_View.Call x16 w3 fun r17 w5 =>
    Pn r17 fun a_1 =>
    LdI .i64 (a_1.add 3) w5 fun x21 =>
    Bm (x21 != (2 : Int)) (
      Sts [.int .i64 (8 : Int), .slice none 0 0, .slice none 0 0] ⟨b4, 0, none⟩ 0 w5 fun w6 =>
      LdI .i64 ⟨b4, 0, none⟩ w6 fun r_0_1 =>
      LdL ⟨b4, 1, none⟩ w6 fun r_1_b_1 r_1_l_1 r_1_c_1 =>
      LdL ⟨b4, 2, none⟩ w6 fun r_2_b_1 r_2_l_1 r_2_c_1 =>
      R r_0_1 r_1_b_1 r_1_l_1 r_1_c_1 r_2_b_1 r_2_l_1 r_2_c_1 w6) (
      LdI .i64 ⟨c_, 1, none⟩ w5.drew fun x26 =>
      Pn n fun a_2 =>
      (0 ≤ x26 ∧ x26 < ((3 : Nat) : Int)) ∧
      LdB (Addr.add (a_2.add 3) (x26.toNat * 1)) w5.drew fun x30 =>
      Bm x30 (
        Sts [.int .i64 (14 : Int), .slice none 0 0, .slice none 0 0] ⟨b4, 0, none⟩ 0 w5.drew fun w7 =>
        LdI .i64 ⟨b4, 0, none⟩ w7 fun r_0_2 =>
        LdL ⟨b4, 1, none⟩ w7 fun r_1_b_2 r_1_l_2 r_1_c_2 =>
        LdL ⟨b4, 2, none⟩ w7 fun r_2_b_2 r_2_l_2 r_2_c_2 =>
        R r_0_2 r_1_b_2 r_1_l_2 r_1_c_2 r_2_b_2 r_2_l_2 r_2_c_2 w7) (
        LdI .i64 ⟨c_, 0, none⟩ w5.drew fun x32_0 =>
        LdI .i64 ⟨c_, 1, none⟩ w5.drew fun x32_1 =>
        LdI .i64 ⟨c_, 2, none⟩ w5.drew fun x32_2 =>
        LdS ⟨c_, 3, none⟩ w5.drew fun x32_3 =>
        LdS ⟨c_, 4, none⟩ w5.drew fun x32_4 =>
        LdS ⟨c_, 5, none⟩ w5.drew fun x32_5 =>
        api_EncodeCmd.Call x32_0 x32_1 x32_2 x32_3 x32_4 x32_5 w5.drew fun r33 w8 =>
        Pn n fun a_3 =>
        LdP a_3 w8 fun x38 =>
        syncm_Sync_Propose.Call x38 r33 w8 fun r40_0 r40_1 w9 =>
        Bm (r40_1 != (0 : Int)) (
          Sts [.int .i64 r40_1, .slice none 0 0, .slice none 0 0] ⟨b4, 0, none⟩ 0 w9 fun w10 =>
          LdI .i64 ⟨b4, 0, none⟩ w10 fun r_0_3 =>
          LdL ⟨b4, 1, none⟩ w10 fun r_1_b_3 r_1_l_3 r_1_c_3 =>
          LdL ⟨b4, 2, none⟩ w10 fun r_2_b_3 r_2_l_3 r_2_c_3 =>
          R r_0_3 r_1_b_3 r_1_l_3 r_1_c_3 r_2_b_3 r_2_l_3 r_2_c_3 w10) (
          LdI .i64 ⟨c_, 1, none⟩ w9.drew fun x49 =>
          LdI .i64 ⟨c_, 1, none⟩ w9.drew fun x52 =>
          LdI .i64 ⟨c_, 1, none⟩ w9.drew fun x55 =>
          LdI .i64 ⟨c_, 2, none⟩ w9.drew fun x57 =>
          Pn n fun a_4 =>
          (0 ≤ x49 ∧ x49 < ((3 : Nat) : Int)) ∧
          Pn n fun a_5 =>
          Pn n fun a_6 =>
          Sts [.bool true] (Addr.add (a_4.add 3) (x49.toNat * 1)) 0 w9.drew fun w11 =>
          w11.cell? ⟨c_, 2, none⟩ = some (.int .i64 x57) ∧
          w11.cell? ⟨c_, 1, none⟩ = some (.int .i64 x55) ∧
          w11.cell? ⟨c_, 1, none⟩ = some (.int .i64 x52) ∧
          (0 ≤ x52 ∧ x52 < ((3 : Nat) : Int)) ∧
          Sts [.int .i64 x57] (Addr.add (a_5.add 6) (x52.toNat * 1)) 0 w11 fun w12 =>
          w12.cell? ⟨c_, 1, none⟩ = some (.int .i64 x55) ∧
          (0 ≤ x55 ∧ x55 < ((3 : Nat) : Int)) ∧
          Sts [.int .i64 r40_0] (Addr.add (a_6.add 9) (x55.toNat * 1)) 0 w12 fun w13 =>
          nodem_Node_after.Call n none 0 0 w13 fun r69_0 r69_1_b r69_1_l r69_1_c r69_2_b r69_2_l r69_2_c w14 =>
          Sts [.int .i64 r69_0, .slice r69_1_b r69_1_l r69_1_c, .slice r69_2_b r69_2_l r69_2_c] ⟨b4, 0, none⟩ 0 w14 fun w15 =>
          LdI .i64 ⟨b4, 0, none⟩ w15 fun r_0_4 =>
          LdL ⟨b4, 1, none⟩ w15 fun r_1_b_4 r_1_l_4 r_1_c_4 =>
          LdL ⟨b4, 2, none⟩ w15 fun r_2_b_4 r_2_l_4 r_2_c_4 =>
          R r_0_4 r_1_b_4 r_1_l_4 r_1_c_4 r_2_b_4 r_2_l_4 r_2_c_4 w15))))) = kstep Tryz.prog 70 Tryz.f45.results.toList (Tryz.f45.body.getD .skip) (nodem_Node_Call.RV R) (kvc Tryz.prog 70 Tryz.f45.results.toList (Tryz.f45.body.getD .skip) (nodem_Node_Call.RV R) [] 2000) [(0, [])] [(0, .pointer n), (1, .agg #[.int .i64 c_0, .int .i64 c_1, .int .i64 c_2, .string c_3, .string c_4, .string c_5])] w := by kernel_rfl
theorem nodem_Node_Call.B0_sound {R : Int → Option Addr → Nat → Nat → Option Addr → Nat → Nat → World → Prop}  (n : Option Addr) (c_0 c_1 c_2 : Int) (c_3 c_4 c_5 : ByteArray) (w : World) (h : nodem_Node_Call.B0 n c_0 c_1 c_2 c_3 c_4 c_5 w   R) :
    KW Tryz.prog 45 70 (nodem_Node_Call.RV R) ([(0, [])].map (toItem (Tryz.f45.body.getD .skip))) [(0, .pointer n), (1, .agg #[.int .i64 c_0, .int .i64 c_1, .int .i64 c_2, .string c_3, .string c_4, .string c_5])] w := by
  exact block_spec Tryz.func45 Tryz.mixed stops_nil (Eq.mp (nodem_Node_Call.B0_eq n c_0 c_1 c_2 c_3 c_4 c_5 w   R ) h)
theorem nodem_Node_Call.sound (n : Option Addr) (c_0 c_1 c_2 : Int) (c_3 c_4 c_5 : ByteArray) (w : World) (R : Int → Option Addr → Nat → Nat → Option Addr → Nat → Nat → World → Prop) (h : nodem_Node_Call.B0 n c_0 c_1 c_2 c_3 c_4 c_5 w R) : nodem_Node_Call.Call n c_0 c_1 c_2 c_3 c_4 c_5 w R := by
  have hc := calls_of_block (args := #[.pointer n, .agg #[.int .i64 c_0, .int .i64 c_1, .int .i64 c_2, .string c_3, .string c_4, .string c_5]]) Tryz.func45 (body := (Tryz.f45.body.getD .skip)) (by kernel_rfl) (by kernel_rfl) (args_slot _) (nodem_Node_Call.B0_sound n c_0 c_1 c_2 c_3 c_4 c_5 w h)
  exact hc.mono fun e w' he => by
    obtain ⟨v, rfl, hv⟩ := he
    exact nodem_Node_Call.RV_elim hv
def nodelaw_SameAns.B0 (a_0 : Int) (a_1 : ByteArray) (b_0 : Int) (b_1 : ByteArray) (w : World)   (R : Bool → World → Prop) : Prop :=
  New (.cells #[.int .i64 a_0, .string a_1] 93) w fun a_ w1 =>
  New (.cells #[.int .i64 b_0, .string b_1] 93) w1 fun b_ w2 =>
  LdI .i64 ⟨a_, 0, none⟩ w2 fun x6 =>
  LdI .i64 ⟨b_, 0, none⟩ w2 fun x8 =>
  Bm (x6 == x8) (
    LdS ⟨a_, 1, none⟩ w2 fun x12 =>
    LdS ⟨b_, 1, none⟩ w2 fun x14 =>
    R (x12.toList == x14.toList) w2) (
    R false w2)
theorem nodelaw_SameAns.B0_eq (a_0 : Int) (a_1 : ByteArray) (b_0 : Int) (b_1 : ByteArray) (w : World)   (R : Bool → World → Prop)  :
    (
  New (.cells #[.int .i64 a_0, .string a_1] 93) w fun a_ w1 =>
  New (.cells #[.int .i64 b_0, .string b_1] 93) w1 fun b_ w2 =>
  LdI .i64 ⟨a_, 0, none⟩ w2 fun x6 =>
  LdI .i64 ⟨b_, 0, none⟩ w2 fun x8 =>
  Bm (x6 == x8) (
    LdS ⟨a_, 1, none⟩ w2 fun x12 =>
    LdS ⟨b_, 1, none⟩ w2 fun x14 =>
    R (x12.toList == x14.toList) w2) (
    R false w2)) = kstep Tryz.prog 17 Tryz.f46.results.toList (Tryz.f46.body.getD .skip) (nodelaw_SameAns.RV R) (kvc Tryz.prog 17 Tryz.f46.results.toList (Tryz.f46.body.getD .skip) (nodelaw_SameAns.RV R) [] 2000) [(0, [])] [(0, .agg #[.int .i64 a_0, .string a_1]), (1, .agg #[.int .i64 b_0, .string b_1])] w := by kernel_rfl
theorem nodelaw_SameAns.B0_sound {R : Bool → World → Prop}  (a_0 : Int) (a_1 : ByteArray) (b_0 : Int) (b_1 : ByteArray) (w : World) (h : nodelaw_SameAns.B0 a_0 a_1 b_0 b_1 w   R) :
    KW Tryz.prog 46 17 (nodelaw_SameAns.RV R) ([(0, [])].map (toItem (Tryz.f46.body.getD .skip))) [(0, .agg #[.int .i64 a_0, .string a_1]), (1, .agg #[.int .i64 b_0, .string b_1])] w := by
  exact block_spec Tryz.func46 Tryz.mixed stops_nil (Eq.mp (nodelaw_SameAns.B0_eq a_0 a_1 b_0 b_1 w   R ) h)
theorem nodelaw_SameAns.sound (a_0 : Int) (a_1 : ByteArray) (b_0 : Int) (b_1 : ByteArray) (w : World) (R : Bool → World → Prop) (h : nodelaw_SameAns.B0 a_0 a_1 b_0 b_1 w R) : nodelaw_SameAns.Call a_0 a_1 b_0 b_1 w R := by
  have hc := calls_of_block (args := #[.agg #[.int .i64 a_0, .string a_1], .agg #[.int .i64 b_0, .string b_1]]) Tryz.func46 (body := (Tryz.f46.body.getD .skip)) (by kernel_rfl) (by kernel_rfl) (args_slot _) (nodelaw_SameAns.B0_sound a_0 a_1 b_0 b_1 w h)
  exact hc.mono fun e w' he => by
    obtain ⟨v, rfl, hv⟩ := he
    exact nodelaw_SameAns.RV_elim hv
def nodelaw_SameAt.B0 (x m0 : Option Addr) (i : Int) (w : World)   (R : Bool → World → Prop) : Prop :=
  node_Node_At.Call x i w fun r14_0_0 r14_0_1 r14_1 w1 =>
  New (.cells #[.int .i64 (0 : Int), .string (ByteArray.mk #[])] 155) w1 fun e_ w2 =>
  Sts [.int .i64 r14_0_0, .string r14_0_1] ⟨e_, 0, none⟩ 0 w2 fun w3 =>
  nodem_Node_At.Call m0 i w3 fun r20_0_0 r20_0_1 r20_1 w4 =>
  New (.cells #[.int .i64 (0 : Int), .string (ByteArray.mk #[])] 155) w4 fun f_ w5 =>
  Sts [.int .i64 r20_0_0, .string r20_0_1] ⟨f_, 0, none⟩ 0 w5 fun w6 =>
  Bm (r14_1 == r20_1) (
    LdI .i64 ⟨e_, 0, none⟩ w6 fun x28 =>
    LdI .i64 ⟨f_, 0, none⟩ w6 fun x30 =>
    Bm (x28 == x30) (
      LdS ⟨e_, 1, none⟩ w6 fun x35 =>
      LdS ⟨f_, 1, none⟩ w6 fun x37 =>
      R (x35.toList == x37.toList) w6) (
      R false w6)) (
    R false w6)
theorem nodelaw_SameAt.B0_eq (x m0 : Option Addr) (i : Int) (w : World)   (R : Bool → World → Prop)  :
    (
  node_Node_At.Call x i w fun r14_0_0 r14_0_1 r14_1 w1 =>
  New (.cells #[.int .i64 (0 : Int), .string (ByteArray.mk #[])] 155) w1 fun e_ w2 =>
  Sts [.int .i64 r14_0_0, .string r14_0_1] ⟨e_, 0, none⟩ 0 w2 fun w3 =>
  nodem_Node_At.Call m0 i w3 fun r20_0_0 r20_0_1 r20_1 w4 =>
  New (.cells #[.int .i64 (0 : Int), .string (ByteArray.mk #[])] 155) w4 fun f_ w5 =>
  Sts [.int .i64 r20_0_0, .string r20_0_1] ⟨f_, 0, none⟩ 0 w5 fun w6 =>
  Bm (r14_1 == r20_1) (
    LdI .i64 ⟨e_, 0, none⟩ w6 fun x28 =>
    LdI .i64 ⟨f_, 0, none⟩ w6 fun x30 =>
    Bm (x28 == x30) (
      LdS ⟨e_, 1, none⟩ w6 fun x35 =>
      LdS ⟨f_, 1, none⟩ w6 fun x37 =>
      R (x35.toList == x37.toList) w6) (
      R false w6)) (
    R false w6)) = kstep Tryz.prog 40 Tryz.f47.results.toList (Tryz.f47.body.getD .skip) (nodelaw_SameAt.RV R) (kvc Tryz.prog 40 Tryz.f47.results.toList (Tryz.f47.body.getD .skip) (nodelaw_SameAt.RV R) [] 2000) [(0, [])] [(0, .pointer x), (1, .pointer m0), (2, .int .i64 i)] w := by kernel_rfl
theorem nodelaw_SameAt.B0_sound {R : Bool → World → Prop}  (x m0 : Option Addr) (i : Int) (w : World) (h : nodelaw_SameAt.B0 x m0 i w   R) :
    KW Tryz.prog 47 40 (nodelaw_SameAt.RV R) ([(0, [])].map (toItem (Tryz.f47.body.getD .skip))) [(0, .pointer x), (1, .pointer m0), (2, .int .i64 i)] w := by
  exact block_spec Tryz.func47 Tryz.mixed stops_nil (Eq.mp (nodelaw_SameAt.B0_eq x m0 i w   R ) h)
theorem nodelaw_SameAt.sound (x m0 : Option Addr) (i : Int) (w : World) (R : Bool → World → Prop) (h : nodelaw_SameAt.B0 x m0 i w R) : nodelaw_SameAt.Call x m0 i w R := by
  have hc := calls_of_block (args := #[.pointer x, .pointer m0, .int .i64 i]) Tryz.func47 (body := (Tryz.f47.body.getD .skip)) (by kernel_rfl) (by kernel_rfl) (args_slot _) (nodelaw_SameAt.B0_sound x m0 i w h)
  exact hc.mono fun e w' he => by
    obtain ⟨v, rfl, hv⟩ := he
    exact nodelaw_SameAt.RV_elim hv
def nodelaw_SameTermAt.B0 (x m0 : Option Addr) (i : Int) (w : World)   (R : Bool → World → Prop) : Prop :=
  node_Node_TermAt.Call x i w fun r14_0 r14_1 w1 =>
  nodem_Node_TermAt.Call m0 i w1 fun r20_0 r20_1 w2 =>
  Bm (r14_1 == r20_1) (
    R (r14_0 == r20_0) w2) (
    R false w2)
theorem nodelaw_SameTermAt.B0_eq (x m0 : Option Addr) (i : Int) (w : World)   (R : Bool → World → Prop)  :
    (
  node_Node_TermAt.Call x i w fun r14_0 r14_1 w1 =>
  nodem_Node_TermAt.Call m0 i w1 fun r20_0 r20_1 w2 =>
  Bm (r14_1 == r20_1) (
    R (r14_0 == r20_0) w2) (
    R false w2)) = kstep Tryz.prog 31 Tryz.f48.results.toList (Tryz.f48.body.getD .skip) (nodelaw_SameTermAt.RV R) (kvc Tryz.prog 31 Tryz.f48.results.toList (Tryz.f48.body.getD .skip) (nodelaw_SameTermAt.RV R) [] 2000) [(0, [])] [(0, .pointer x), (1, .pointer m0), (2, .int .i64 i)] w := by kernel_rfl
theorem nodelaw_SameTermAt.B0_sound {R : Bool → World → Prop}  (x m0 : Option Addr) (i : Int) (w : World) (h : nodelaw_SameTermAt.B0 x m0 i w   R) :
    KW Tryz.prog 48 31 (nodelaw_SameTermAt.RV R) ([(0, [])].map (toItem (Tryz.f48.body.getD .skip))) [(0, .pointer x), (1, .pointer m0), (2, .int .i64 i)] w := by
  exact block_spec Tryz.func48 Tryz.mixed stops_nil (Eq.mp (nodelaw_SameTermAt.B0_eq x m0 i w   R ) h)
theorem nodelaw_SameTermAt.sound (x m0 : Option Addr) (i : Int) (w : World) (R : Bool → World → Prop) (h : nodelaw_SameTermAt.B0 x m0 i w R) : nodelaw_SameTermAt.Call x m0 i w R := by
  have hc := calls_of_block (args := #[.pointer x, .pointer m0, .int .i64 i]) Tryz.func48 (body := (Tryz.f48.body.getD .skip)) (by kernel_rfl) (by kernel_rfl) (args_slot _) (nodelaw_SameTermAt.B0_sound x m0 i w h)
  exact hc.mono fun e w' he => by
    obtain ⟨v, rfl, hv⟩ := he
    exact nodelaw_SameTermAt.RV_elim hv
def nodelaw_SameVal.B0 (x m0 : Option Addr) (key : ByteArray) (w : World)   (R : Bool → World → Prop) : Prop :=
  node_Node_Val.Call x key w fun r14_0 r14_1 w1 =>
  nodem_Node_Val.Call m0 key w1 fun r20_0 r20_1 w2 =>
  Bm (r14_0.toList == r20_0.toList) (
    R (r14_1 == r20_1) w2) (
    R false w2)
theorem nodelaw_SameVal.B0_eq (x m0 : Option Addr) (key : ByteArray) (w : World)   (R : Bool → World → Prop)  :
    (
  node_Node_Val.Call x key w fun r14_0 r14_1 w1 =>
  nodem_Node_Val.Call m0 key w1 fun r20_0 r20_1 w2 =>
  Bm (r14_0.toList == r20_0.toList) (
    R (r14_1 == r20_1) w2) (
    R false w2)) = kstep Tryz.prog 31 Tryz.f49.results.toList (Tryz.f49.body.getD .skip) (nodelaw_SameVal.RV R) (kvc Tryz.prog 31 Tryz.f49.results.toList (Tryz.f49.body.getD .skip) (nodelaw_SameVal.RV R) [] 2000) [(0, [])] [(0, .pointer x), (1, .pointer m0), (2, .string key)] w := by kernel_rfl
theorem nodelaw_SameVal.B0_sound {R : Bool → World → Prop}  (x m0 : Option Addr) (key : ByteArray) (w : World) (h : nodelaw_SameVal.B0 x m0 key w   R) :
    KW Tryz.prog 49 31 (nodelaw_SameVal.RV R) ([(0, [])].map (toItem (Tryz.f49.body.getD .skip))) [(0, .pointer x), (1, .pointer m0), (2, .string key)] w := by
  exact block_spec Tryz.func49 Tryz.mixed stops_nil (Eq.mp (nodelaw_SameVal.B0_eq x m0 key w   R ) h)
theorem nodelaw_SameVal.sound (x m0 : Option Addr) (key : ByteArray) (w : World) (R : Bool → World → Prop) (h : nodelaw_SameVal.B0 x m0 key w R) : nodelaw_SameVal.Call x m0 key w R := by
  have hc := calls_of_block (args := #[.pointer x, .pointer m0, .string key]) Tryz.func49 (body := (Tryz.f49.body.getD .skip)) (by kernel_rfl) (by kernel_rfl) (args_slot _) (nodelaw_SameVal.B0_sound x m0 key w h)
  exact hc.mono fun e w' he => by
    obtain ⟨v, rfl, hv⟩ := he
    exact nodelaw_SameVal.RV_elim hv
def nodelaw_SameView.B1 (a b : Option Addr) (c : Int) (t77 : Bool) (w : World) (N1 : Option Addr → Option Addr → Int → World → Prop)  (R : Bool → World → Prop) : Prop :=
  Bm t77 (
    R false w) (
    N1 a b (IntKind.i64.wrap (c + (1 : Int))) w)
theorem nodelaw_SameView.B1_eq (a b : Option Addr) (c : Int) (t77 : Bool) (w : World) (N1 : Option Addr → Option Addr → Int → World → Prop)  (R : Bool → World → Prop)  :
    (
  Bm t77 (
    R false w) (
    N1 a b (IntKind.i64.wrap (c + (1 : Int))) w)) = kstep Tryz.prog 78 Tryz.f50.results.toList (Tryz.f50.body.getD .skip) (nodelaw_SameView.RV R) (kvc Tryz.prog 78 Tryz.f50.results.toList (Tryz.f50.body.getD .skip) (nodelaw_SameView.RV R) [([(0, [1, 1, 1, 1, 1, 0, 1, 0, 0]), (2, [1, 1, 1, 1, 1, 0, 1, 0, 0]), (1, [0]), (0, [1, 1, 1, 1, 1, 1])], fun σ w => dP (slotOf σ 5) fun a_ => dP (slotOf σ 6) fun b_ => dI .i64 (slotOf σ 7) fun c_ => N1 a_ b_ c_ w)] 2000) [(0, [1, 1, 1, 1, 1, 0, 1, 0, 0, 1, 0, 0, 1]), (1, [1]), (0, [1, 1, 1, 1, 1, 0, 1, 0, 0, 1, 1]), (2, [1, 1, 1, 1, 1, 0, 1, 0, 0]), (1, [0]), (0, [1, 1, 1, 1, 1, 1])] [(5, .pointer a), (6, .pointer b), (7, .int .i64 c), (77, .bool t77)] w := by kernel_rfl
theorem nodelaw_SameView.B1_sound {R : Bool → World → Prop} {N1 : Option Addr → Option Addr → Int → World → Prop} (hN1 : ∀ a b c w, N1 a b c w → KW Tryz.prog 50 78 (nodelaw_SameView.RV R) ([(0, [1, 1, 1, 1, 1, 0, 1, 0, 0]), (2, [1, 1, 1, 1, 1, 0, 1, 0, 0]), (1, [0]), (0, [1, 1, 1, 1, 1, 1])].map (toItem (Tryz.f50.body.getD .skip))) [(5, .pointer a), (6, .pointer b), (7, .int .i64 c)] w) (a b : Option Addr) (c : Int) (t77 : Bool) (w : World) (h : nodelaw_SameView.B1 a b c t77 w N1  R) :
    KW Tryz.prog 50 78 (nodelaw_SameView.RV R) ([(0, [1, 1, 1, 1, 1, 0, 1, 0, 0, 1, 0, 0, 1]), (1, [1]), (0, [1, 1, 1, 1, 1, 0, 1, 0, 0, 1, 1]), (2, [1, 1, 1, 1, 1, 0, 1, 0, 0]), (1, [0]), (0, [1, 1, 1, 1, 1, 1])].map (toItem (Tryz.f50.body.getD .skip))) [(5, .pointer a), (6, .pointer b), (7, .int .i64 c), (77, .bool t77)] w := by
  exact block_spec Tryz.func50 Tryz.mixed (stops_cons (fun σ w h => by
      obtain ⟨a_, e0, h⟩ := dP_elim h
      obtain ⟨b_, e1, h⟩ := dP_elim h
      obtain ⟨c_, e2, h⟩ := dI_elim h
      exact (hN1 a_ b_ c_ w h).weaken (Sub.cons (Sub.cons (Sub.cons (Sub.nil _) e2) e1) e0)) stops_nil) (Eq.mp (nodelaw_SameView.B1_eq a b c t77 w N1  R ) h)
def nodelaw_SameView.L1b (a b : Option Addr) (c : Int) (w : World)  (N1 : Option Addr → Option Addr → Int → World → Prop) (R : Bool → World → Prop) : Prop :=
  Bm (decide (c < (3 : Int))) (
    Pn a fun a_1 =>
    (0 ≤ c ∧ c < ((3 : Nat) : Int)) ∧
    LdB (Addr.add (a_1.add 2) (c.toNat * 1)) w.drew fun x40 =>
    Pn b fun a_2 =>
    (0 ≤ c ∧ c < ((3 : Nat) : Int)) ∧
    LdB (Addr.add (a_2.add 2) (c.toNat * 1)) w.drew fun x46 =>
    Bm (!(x40 == x46)) (
      nodelaw_SameView.B1 a b c true w.drew N1 R) (
      Pn a fun a_3 =>
      (0 ≤ c ∧ c < ((3 : Nat) : Int)) ∧
      LdI .i64 (Addr.add (a_3.add 5) (c.toNat * 1)) w.drew fun x54 =>
      Pn b fun a_4 =>
      (0 ≤ c ∧ c < ((3 : Nat) : Int)) ∧
      LdI .i64 (Addr.add (a_4.add 5) (c.toNat * 1)) w.drew fun x60 =>
      Bm (x54 != x60) (
        nodelaw_SameView.B1 a b c true w.drew N1 R) (
        Pn a fun a_5 =>
        (0 ≤ c ∧ c < ((3 : Nat) : Int)) ∧
        LdI .i64 (Addr.add (a_5.add 8) (c.toNat * 1)) w.drew fun x69 =>
        Pn b fun a_6 =>
        (0 ≤ c ∧ c < ((3 : Nat) : Int)) ∧
        LdI .i64 (Addr.add (a_6.add 8) (c.toNat * 1)) w.drew fun x75 =>
        nodelaw_SameView.B1 a b c (x69 != x75) w.drew N1 R))) (
    R true w)
theorem nodelaw_SameView.L1b_eq (a b : Option Addr) (c : Int) (w : World)  (N1 : Option Addr → Option Addr → Int → World → Prop) (R : Bool → World → Prop) (sB1 : Option Addr → Option Addr → Int → Bool → World → Prop) :
    (
  Bm (decide (c < (3 : Int))) (
    Pn a fun a_1 =>
    (0 ≤ c ∧ c < ((3 : Nat) : Int)) ∧
    LdB (Addr.add (a_1.add 2) (c.toNat * 1)) w.drew fun x40 =>
    Pn b fun a_2 =>
    (0 ≤ c ∧ c < ((3 : Nat) : Int)) ∧
    LdB (Addr.add (a_2.add 2) (c.toNat * 1)) w.drew fun x46 =>
    Bm (!(x40 == x46)) (
      sB1 a b c true w.drew) (
      Pn a fun a_3 =>
      (0 ≤ c ∧ c < ((3 : Nat) : Int)) ∧
      LdI .i64 (Addr.add (a_3.add 5) (c.toNat * 1)) w.drew fun x54 =>
      Pn b fun a_4 =>
      (0 ≤ c ∧ c < ((3 : Nat) : Int)) ∧
      LdI .i64 (Addr.add (a_4.add 5) (c.toNat * 1)) w.drew fun x60 =>
      Bm (x54 != x60) (
        sB1 a b c true w.drew) (
        Pn a fun a_5 =>
        (0 ≤ c ∧ c < ((3 : Nat) : Int)) ∧
        LdI .i64 (Addr.add (a_5.add 8) (c.toNat * 1)) w.drew fun x69 =>
        Pn b fun a_6 =>
        (0 ≤ c ∧ c < ((3 : Nat) : Int)) ∧
        LdI .i64 (Addr.add (a_6.add 8) (c.toNat * 1)) w.drew fun x75 =>
        sB1 a b c (x69 != x75) w.drew))) (
    R true w)) = kstep Tryz.prog 78 Tryz.f50.results.toList (Tryz.f50.body.getD .skip) (nodelaw_SameView.RV R) (kvc Tryz.prog 78 Tryz.f50.results.toList (Tryz.f50.body.getD .skip) (nodelaw_SameView.RV R) [([(0, [1, 1, 1, 1, 1, 0, 1, 0, 0, 1, 0, 0, 1]), (1, [1]), (0, [1, 1, 1, 1, 1, 0, 1, 0, 0, 1, 1]), (2, [1, 1, 1, 1, 1, 0, 1, 0, 0]), (1, [0]), (0, [1, 1, 1, 1, 1, 1])], fun σ w => dP (slotOf σ 5) fun a_ => dP (slotOf σ 6) fun b_ => dI .i64 (slotOf σ 7) fun c_ => dB (slotOf σ 77) fun t77_ => sB1 a_ b_ c_ t77_ w)] 2000) [(0, [1, 1, 1, 1, 1, 0, 1, 0, 0]), (2, [1, 1, 1, 1, 1, 0, 1, 0, 0]), (1, [0]), (0, [1, 1, 1, 1, 1, 1])] [(5, .pointer a), (6, .pointer b), (7, .int .i64 c)] w := by kernel_rfl
theorem nodelaw_SameView.L1b_sound {R : Bool → World → Prop} {N1 : Option Addr → Option Addr → Int → World → Prop} (hN1 : ∀ a b c w, N1 a b c w → KW Tryz.prog 50 78 (nodelaw_SameView.RV R) ([(0, [1, 1, 1, 1, 1, 0, 1, 0, 0]), (2, [1, 1, 1, 1, 1, 0, 1, 0, 0]), (1, [0]), (0, [1, 1, 1, 1, 1, 1])].map (toItem (Tryz.f50.body.getD .skip))) [(5, .pointer a), (6, .pointer b), (7, .int .i64 c)] w) (a b : Option Addr) (c : Int) (w : World) (h : nodelaw_SameView.L1b a b c w  N1 R) :
    KW Tryz.prog 50 78 (nodelaw_SameView.RV R) ([(0, [1, 1, 1, 1, 1, 0, 1, 0, 0]), (2, [1, 1, 1, 1, 1, 0, 1, 0, 0]), (1, [0]), (0, [1, 1, 1, 1, 1, 1])].map (toItem (Tryz.f50.body.getD .skip))) [(5, .pointer a), (6, .pointer b), (7, .int .i64 c)] w := by
  exact block_spec Tryz.func50 Tryz.mixed (stops_cons (fun σ w h => by
      obtain ⟨a_, e0, h⟩ := dP_elim h
      obtain ⟨b_, e1, h⟩ := dP_elim h
      obtain ⟨c_, e2, h⟩ := dI_elim h
      obtain ⟨t77_, e3, h⟩ := dB_elim h
      exact (nodelaw_SameView.B1_sound hN1 a_ b_ c_ t77_ w h).weaken (Sub.cons (Sub.cons (Sub.cons (Sub.cons (Sub.nil _) e3) e2) e1) e0)) stops_nil) (Eq.mp (nodelaw_SameView.L1b_eq a b c w  N1 R (fun a_ b_ c_ t77_ w => nodelaw_SameView.B1 a_ b_ c_ t77_ w N1 R)) h)
def nodelaw_SameView.L1 (a b : Option Addr) (c : Int) (w : World)  (R : Bool → World → Prop) : Prop :=
  ∃ (I : Nat → Option Addr → Option Addr → Int → World → Prop) (m : Nat), I m a b c w ∧ ∀ m a b c w, I m a b c w → nodelaw_SameView.L1b a b c w  (fun a' b' c' w' => ∃ m', m' < m ∧ I m' a' b' c' w') R
theorem nodelaw_SameView.L1_sound {R : Bool → World → Prop}  (a b : Option Addr) (c : Int) (w : World) (h : nodelaw_SameView.L1 a b c w  R) :
    KW Tryz.prog 50 78 (nodelaw_SameView.RV R) ([(0, [1, 1, 1, 1, 1, 0, 1, 0, 0]), (2, [1, 1, 1, 1, 1, 0, 1, 0, 0]), (1, [0]), (0, [1, 1, 1, 1, 1, 1])].map (toItem (Tryz.f50.body.getD .skip))) [(5, .pointer a), (6, .pointer b), (7, .int .i64 c)] w := by
  obtain ⟨I, m, hBase, hr⟩ := h
  refine KW.loop (fun m σ w => ∃ (a b : Option Addr) (c : Int), σ = [(5, .pointer a), (6, .pointer b), (7, .int .i64 c)] ∧ I m a b c w) ?_ m _ w ⟨a, b, c, rfl, hBase⟩
  rintro m ih σ w ⟨a, b, c, rfl, hI⟩
  exact nodelaw_SameView.L1b_sound  (N1 := fun a' b' c' w' => ∃ m', m' < m ∧ I m' a' b' c' w') (fun a' b' c' w' hx => by obtain ⟨m', hlt, hI'⟩ := hx; exact ih m' hlt _ w' ⟨a', b', c', rfl, hI'⟩) a b c w (hr m a b c w hI)
def nodelaw_SameView.B0 (x m0 : Option Addr) (w : World)   (R : Bool → World → Prop) : Prop :=
  node_Node_View.Call x w fun r9 w1 =>
  nodem_Node_View.Call m0 w1 fun r11 w2 =>
  Pn r9 fun a =>
  LdP a w2.drew fun x15 =>
  Pn r11 fun a_1 =>
  LdP a_1 w2.drew fun x19 =>
  nodelaw_SameSync.Call x15 x19 w2.drew fun r20 w3 =>
  Bm (!r20) (
    R false w3) (
    Pn r9 fun a_2 =>
    LdI .i64 (a_2.add 1) w3.drew fun x25 =>
    Pn r11 fun a_3 =>
    LdI .i64 (a_3.add 1) w3.drew fun x29 =>
    Bm (x25 != x29) (
      R false w3.drew) (
      nodelaw_SameView.L1 r9 r11 (0 : Int) w3.drew  R))
theorem nodelaw_SameView.B0_eq (x m0 : Option Addr) (w : World)   (R : Bool → World → Prop) (sL1 : Option Addr → Option Addr → Int → World → Prop) :
    (
  node_Node_View.Call x w fun r9 w1 =>
  nodem_Node_View.Call m0 w1 fun r11 w2 =>
  Pn r9 fun a =>
  LdP a w2.drew fun x15 =>
  Pn r11 fun a_1 =>
  LdP a_1 w2.drew fun x19 =>
  nodelaw_SameSync.Call x15 x19 w2.drew fun r20 w3 =>
  Bm (!r20) (
    R false w3) (
    Pn r9 fun a_2 =>
    LdI .i64 (a_2.add 1) w3.drew fun x25 =>
    Pn r11 fun a_3 =>
    LdI .i64 (a_3.add 1) w3.drew fun x29 =>
    Bm (x25 != x29) (
      R false w3.drew) (
      sL1 r9 r11 (0 : Int) w3.drew))) = kstep Tryz.prog 78 Tryz.f50.results.toList (Tryz.f50.body.getD .skip) (nodelaw_SameView.RV R) (kvc Tryz.prog 78 Tryz.f50.results.toList (Tryz.f50.body.getD .skip) (nodelaw_SameView.RV R) [([(0, [1, 1, 1, 1, 1, 0, 1, 0, 0]), (2, [1, 1, 1, 1, 1, 0, 1, 0, 0]), (1, [0]), (0, [1, 1, 1, 1, 1, 1])], fun σ w => dP (slotOf σ 5) fun a_ => dP (slotOf σ 6) fun b_ => dI .i64 (slotOf σ 7) fun c_ => sL1 a_ b_ c_ w)] 2000) [(0, [])] [(0, .pointer x), (1, .pointer m0)] w := by kernel_rfl
theorem nodelaw_SameView.B0_sound {R : Bool → World → Prop}  (x m0 : Option Addr) (w : World) (h : nodelaw_SameView.B0 x m0 w   R) :
    KW Tryz.prog 50 78 (nodelaw_SameView.RV R) ([(0, [])].map (toItem (Tryz.f50.body.getD .skip))) [(0, .pointer x), (1, .pointer m0)] w := by
  exact block_spec Tryz.func50 Tryz.mixed (stops_cons (fun σ w h => by
      obtain ⟨a_, e0, h⟩ := dP_elim h
      obtain ⟨b_, e1, h⟩ := dP_elim h
      obtain ⟨c_, e2, h⟩ := dI_elim h
      exact (nodelaw_SameView.L1_sound  a_ b_ c_ w h).weaken (Sub.cons (Sub.cons (Sub.cons (Sub.nil _) e2) e1) e0)) stops_nil) (Eq.mp (nodelaw_SameView.B0_eq x m0 w   R (fun a_ b_ c_ w => nodelaw_SameView.L1 a_ b_ c_ w  R)) h)
theorem nodelaw_SameView.sound (x m0 : Option Addr) (w : World) (R : Bool → World → Prop) (h : nodelaw_SameView.B0 x m0 w R) : nodelaw_SameView.Call x m0 w R := by
  have hc := calls_of_block (args := #[.pointer x, .pointer m0]) Tryz.func50 (body := (Tryz.f50.body.getD .skip)) (by kernel_rfl) (by kernel_rfl) (args_slot _) (nodelaw_SameView.B0_sound x m0 w h)
  exact hc.mono fun e w' he => by
    obtain ⟨v, rfl, hv⟩ := he
    exact nodelaw_SameView.RV_elim hv
def nodelaw_SameLen.B0 (x m0 : Option Addr) (w : World)   (R : Bool → World → Prop) : Prop :=
  node_Node_Len.Call x w fun r8 w1 =>
  nodem_Node_Len.Call m0 w1 fun r10 w2 =>
  R (r8 == r10) w2
theorem nodelaw_SameLen.B0_eq (x m0 : Option Addr) (w : World)   (R : Bool → World → Prop)  :
    (
  node_Node_Len.Call x w fun r8 w1 =>
  nodem_Node_Len.Call m0 w1 fun r10 w2 =>
  R (r8 == r10) w2) = kstep Tryz.prog 14 Tryz.f51.results.toList (Tryz.f51.body.getD .skip) (nodelaw_SameLen.RV R) (kvc Tryz.prog 14 Tryz.f51.results.toList (Tryz.f51.body.getD .skip) (nodelaw_SameLen.RV R) [] 2000) [(0, [])] [(0, .pointer x), (1, .pointer m0)] w := by kernel_rfl
theorem nodelaw_SameLen.B0_sound {R : Bool → World → Prop}  (x m0 : Option Addr) (w : World) (h : nodelaw_SameLen.B0 x m0 w   R) :
    KW Tryz.prog 51 14 (nodelaw_SameLen.RV R) ([(0, [])].map (toItem (Tryz.f51.body.getD .skip))) [(0, .pointer x), (1, .pointer m0)] w := by
  exact block_spec Tryz.func51 Tryz.mixed stops_nil (Eq.mp (nodelaw_SameLen.B0_eq x m0 w   R ) h)
theorem nodelaw_SameLen.sound (x m0 : Option Addr) (w : World) (R : Bool → World → Prop) (h : nodelaw_SameLen.B0 x m0 w R) : nodelaw_SameLen.Call x m0 w R := by
  have hc := calls_of_block (args := #[.pointer x, .pointer m0]) Tryz.func51 (body := (Tryz.f51.body.getD .skip)) (by kernel_rfl) (by kernel_rfl) (args_slot _) (nodelaw_SameLen.B0_sound x m0 w h)
  exact hc.mono fun e w' he => by
    obtain ⟨v, rfl, hv⟩ := he
    exact nodelaw_SameLen.RV_elim hv
def nodelaw_SameKeyAt.B0 (x m0 : Option Addr) (i : Int) (w : World)   (R : Bool → World → Prop) : Prop :=
  node_Node_KeyAt.Call x i w fun r11 w1 =>
  nodem_Node_KeyAt.Call m0 i w1 fun r14 w2 =>
  R (r11.toList == r14.toList) w2
theorem nodelaw_SameKeyAt.B0_eq (x m0 : Option Addr) (i : Int) (w : World)   (R : Bool → World → Prop)  :
    (
  node_Node_KeyAt.Call x i w fun r11 w1 =>
  nodem_Node_KeyAt.Call m0 i w1 fun r14 w2 =>
  R (r11.toList == r14.toList) w2) = kstep Tryz.prog 18 Tryz.f52.results.toList (Tryz.f52.body.getD .skip) (nodelaw_SameKeyAt.RV R) (kvc Tryz.prog 18 Tryz.f52.results.toList (Tryz.f52.body.getD .skip) (nodelaw_SameKeyAt.RV R) [] 2000) [(0, [])] [(0, .pointer x), (1, .pointer m0), (2, .int .i64 i)] w := by kernel_rfl
theorem nodelaw_SameKeyAt.B0_sound {R : Bool → World → Prop}  (x m0 : Option Addr) (i : Int) (w : World) (h : nodelaw_SameKeyAt.B0 x m0 i w   R) :
    KW Tryz.prog 52 18 (nodelaw_SameKeyAt.RV R) ([(0, [])].map (toItem (Tryz.f52.body.getD .skip))) [(0, .pointer x), (1, .pointer m0), (2, .int .i64 i)] w := by
  exact block_spec Tryz.func52 Tryz.mixed stops_nil (Eq.mp (nodelaw_SameKeyAt.B0_eq x m0 i w   R ) h)
theorem nodelaw_SameKeyAt.sound (x m0 : Option Addr) (i : Int) (w : World) (R : Bool → World → Prop) (h : nodelaw_SameKeyAt.B0 x m0 i w R) : nodelaw_SameKeyAt.Call x m0 i w R := by
  have hc := calls_of_block (args := #[.pointer x, .pointer m0, .int .i64 i]) Tryz.func52 (body := (Tryz.f52.body.getD .skip)) (by kernel_rfl) (by kernel_rfl) (args_slot _) (nodelaw_SameKeyAt.B0_sound x m0 i w h)
  exact hc.mono fun e w' he => by
    obtain ⟨v, rfl, hv⟩ := he
    exact nodelaw_SameKeyAt.RV_elim hv
def nodelaw_SameSess.B0 (x m0 : Option Addr) (client : Int) (w : World)   (R : Bool → World → Prop) : Prop :=
  node_Node_Sess.Call x client w fun r14_0 r14_1_0 r14_1_1 w1 =>
  New (.cells #[.int .i64 (0 : Int), .string (ByteArray.mk #[])] 93) w1 fun a_ w2 =>
  Sts [.int .i64 r14_1_0, .string r14_1_1] ⟨a_, 0, none⟩ 0 w2 fun w3 =>
  nodem_Node_Sess.Call m0 client w3 fun r20_0 r20_1_0 r20_1_1 w4 =>
  New (.cells #[.int .i64 (0 : Int), .string (ByteArray.mk #[])] 93) w4 fun b_ w5 =>
  Sts [.int .i64 r20_1_0, .string r20_1_1] ⟨b_, 0, none⟩ 0 w5 fun w6 =>
  Bm (r14_0 == r20_0) (
    LdI .i64 ⟨a_, 0, none⟩ w6 fun x28 =>
    LdI .i64 ⟨b_, 0, none⟩ w6 fun x30 =>
    Bm (x28 == x30) (
      LdS ⟨a_, 1, none⟩ w6 fun x35 =>
      LdS ⟨b_, 1, none⟩ w6 fun x37 =>
      R (x35.toList == x37.toList) w6) (
      R false w6)) (
    R false w6)
theorem nodelaw_SameSess.B0_eq (x m0 : Option Addr) (client : Int) (w : World)   (R : Bool → World → Prop)  :
    (
  node_Node_Sess.Call x client w fun r14_0 r14_1_0 r14_1_1 w1 =>
  New (.cells #[.int .i64 (0 : Int), .string (ByteArray.mk #[])] 93) w1 fun a_ w2 =>
  Sts [.int .i64 r14_1_0, .string r14_1_1] ⟨a_, 0, none⟩ 0 w2 fun w3 =>
  nodem_Node_Sess.Call m0 client w3 fun r20_0 r20_1_0 r20_1_1 w4 =>
  New (.cells #[.int .i64 (0 : Int), .string (ByteArray.mk #[])] 93) w4 fun b_ w5 =>
  Sts [.int .i64 r20_1_0, .string r20_1_1] ⟨b_, 0, none⟩ 0 w5 fun w6 =>
  Bm (r14_0 == r20_0) (
    LdI .i64 ⟨a_, 0, none⟩ w6 fun x28 =>
    LdI .i64 ⟨b_, 0, none⟩ w6 fun x30 =>
    Bm (x28 == x30) (
      LdS ⟨a_, 1, none⟩ w6 fun x35 =>
      LdS ⟨b_, 1, none⟩ w6 fun x37 =>
      R (x35.toList == x37.toList) w6) (
      R false w6)) (
    R false w6)) = kstep Tryz.prog 40 Tryz.f53.results.toList (Tryz.f53.body.getD .skip) (nodelaw_SameSess.RV R) (kvc Tryz.prog 40 Tryz.f53.results.toList (Tryz.f53.body.getD .skip) (nodelaw_SameSess.RV R) [] 2000) [(0, [])] [(0, .pointer x), (1, .pointer m0), (2, .int .i64 client)] w := by kernel_rfl
theorem nodelaw_SameSess.B0_sound {R : Bool → World → Prop}  (x m0 : Option Addr) (client : Int) (w : World) (h : nodelaw_SameSess.B0 x m0 client w   R) :
    KW Tryz.prog 53 40 (nodelaw_SameSess.RV R) ([(0, [])].map (toItem (Tryz.f53.body.getD .skip))) [(0, .pointer x), (1, .pointer m0), (2, .int .i64 client)] w := by
  exact block_spec Tryz.func53 Tryz.mixed stops_nil (Eq.mp (nodelaw_SameSess.B0_eq x m0 client w   R ) h)
theorem nodelaw_SameSess.sound (x m0 : Option Addr) (client : Int) (w : World) (R : Bool → World → Prop) (h : nodelaw_SameSess.B0 x m0 client w R) : nodelaw_SameSess.Call x m0 client w R := by
  have hc := calls_of_block (args := #[.pointer x, .pointer m0, .int .i64 client]) Tryz.func53 (body := (Tryz.f53.body.getD .skip)) (by kernel_rfl) (by kernel_rfl) (args_slot _) (nodelaw_SameSess.B0_sound x m0 client w h)
  exact hc.mono fun e w' he => by
    obtain ⟨v, rfl, hv⟩ := he
    exact nodelaw_SameSess.RV_elim hv
def nodelaw_MsgOf.B2 (o t2 m0 : Nat) (rest : ByteArray) (t59 : Bool) (w : World) (N1 : Nat → Nat → Nat → ByteArray → World → Prop)  (R : Int → Int → Int → Int → Int → Int → Int → Bool → Option Addr → Nat → Nat → ByteArray → World → Prop) : Prop :=
  Bm t59 (
    nodelaw_SplitBar.Call rest w fun r62_0 r62_1 w1 =>
    LdL ⟨m0, 8, none⟩ w1 fun x66_b x66_l x66_c =>
    LdI .i64 ⟨o, 3, none⟩ w1 fun x68 =>
    New (.cells #[.int .i64 x68, .string r62_0] 155) w1 fun b71 w2 =>
    Append 155 (.agg #[.int .i64 (0 : Int), .string (ByteArray.mk #[])]) 2 24 x66_b x66_l x66_c (some ⟨b71, 0, none⟩) 1 w2 fun b72 c72 w3 =>
    Sts [.slice b72 (x66_l + 1) c72] ⟨m0, 8, none⟩ 0 w3 fun w4 =>
    N1 o t2 m0 r62_1 w4) (
    LdI .i64 ⟨m0, 0, none⟩ w fun x75_0 =>
    LdI .i64 ⟨m0, 1, none⟩ w fun x75_1 =>
    LdI .i64 ⟨m0, 2, none⟩ w fun x75_2 =>
    LdI .i64 ⟨m0, 3, none⟩ w fun x75_3 =>
    LdI .i64 ⟨m0, 4, none⟩ w fun x75_4 =>
    LdI .i64 ⟨m0, 5, none⟩ w fun x75_5 =>
    LdI .i64 ⟨m0, 6, none⟩ w fun x75_6 =>
    LdB ⟨m0, 7, none⟩ w fun x75_7 =>
    LdL ⟨m0, 8, none⟩ w fun x75_8_b x75_8_l x75_8_c =>
    LdS ⟨m0, 9, none⟩ w fun x75_9 =>
    Sts [.int .i64 x75_0, .int .i64 x75_1, .int .i64 x75_2, .int .i64 x75_3, .int .i64 x75_4, .int .i64 x75_5, .int .i64 x75_6, .bool x75_7, .slice x75_8_b x75_8_l x75_8_c, .string x75_9] ⟨t2, 0, none⟩ 0 w fun w5 =>
    LdI .i64 ⟨t2, 0, none⟩ w5 fun r_0 =>
    LdI .i64 ⟨t2, 1, none⟩ w5 fun r_1 =>
    LdI .i64 ⟨t2, 2, none⟩ w5 fun r_2 =>
    LdI .i64 ⟨t2, 3, none⟩ w5 fun r_3 =>
    LdI .i64 ⟨t2, 4, none⟩ w5 fun r_4 =>
    LdI .i64 ⟨t2, 5, none⟩ w5 fun r_5 =>
    LdI .i64 ⟨t2, 6, none⟩ w5 fun r_6 =>
    LdB ⟨t2, 7, none⟩ w5 fun r_7 =>
    LdL ⟨t2, 8, none⟩ w5 fun r_8_b r_8_l r_8_c =>
    LdS ⟨t2, 9, none⟩ w5 fun r_9 =>
    R r_0 r_1 r_2 r_3 r_4 r_5 r_6 r_7 r_8_b r_8_l r_8_c r_9 w5)
theorem nodelaw_MsgOf.B2_eq (o t2 m0 : Nat) (rest : ByteArray) (t59 : Bool) (w : World) (N1 : Nat → Nat → Nat → ByteArray → World → Prop)  (R : Int → Int → Int → Int → Int → Int → Int → Bool → Option Addr → Nat → Nat → ByteArray → World → Prop)  :
    (
  Bm t59 (
    nodelaw_SplitBar.Call rest w fun r62_0 r62_1 w1 =>
    LdL ⟨m0, 8, none⟩ w1 fun x66_b x66_l x66_c =>
    LdI .i64 ⟨o, 3, none⟩ w1 fun x68 =>
    New (.cells #[.int .i64 x68, .string r62_0] 155) w1 fun b71 w2 =>
    Append 155 (.agg #[.int .i64 (0 : Int), .string (ByteArray.mk #[])]) 2 24 x66_b x66_l x66_c (some ⟨b71, 0, none⟩) 1 w2 fun b72 c72 w3 =>
    Sts [.slice b72 (x66_l + 1) c72] ⟨m0, 8, none⟩ 0 w3 fun w4 =>
    N1 o t2 m0 r62_1 w4) (
    LdI .i64 ⟨m0, 0, none⟩ w fun x75_0 =>
    LdI .i64 ⟨m0, 1, none⟩ w fun x75_1 =>
    LdI .i64 ⟨m0, 2, none⟩ w fun x75_2 =>
    LdI .i64 ⟨m0, 3, none⟩ w fun x75_3 =>
    LdI .i64 ⟨m0, 4, none⟩ w fun x75_4 =>
    LdI .i64 ⟨m0, 5, none⟩ w fun x75_5 =>
    LdI .i64 ⟨m0, 6, none⟩ w fun x75_6 =>
    LdB ⟨m0, 7, none⟩ w fun x75_7 =>
    LdL ⟨m0, 8, none⟩ w fun x75_8_b x75_8_l x75_8_c =>
    LdS ⟨m0, 9, none⟩ w fun x75_9 =>
    Sts [.int .i64 x75_0, .int .i64 x75_1, .int .i64 x75_2, .int .i64 x75_3, .int .i64 x75_4, .int .i64 x75_5, .int .i64 x75_6, .bool x75_7, .slice x75_8_b x75_8_l x75_8_c, .string x75_9] ⟨t2, 0, none⟩ 0 w fun w5 =>
    LdI .i64 ⟨t2, 0, none⟩ w5 fun r_0 =>
    LdI .i64 ⟨t2, 1, none⟩ w5 fun r_1 =>
    LdI .i64 ⟨t2, 2, none⟩ w5 fun r_2 =>
    LdI .i64 ⟨t2, 3, none⟩ w5 fun r_3 =>
    LdI .i64 ⟨t2, 4, none⟩ w5 fun r_4 =>
    LdI .i64 ⟨t2, 5, none⟩ w5 fun r_5 =>
    LdI .i64 ⟨t2, 6, none⟩ w5 fun r_6 =>
    LdB ⟨t2, 7, none⟩ w5 fun r_7 =>
    LdL ⟨t2, 8, none⟩ w5 fun r_8_b r_8_l r_8_c =>
    LdS ⟨t2, 9, none⟩ w5 fun r_9 =>
    R r_0 r_1 r_2 r_3 r_4 r_5 r_6 r_7 r_8_b r_8_l r_8_c r_9 w5)) = kstep Tryz.prog 76 Tryz.f54.results.toList (Tryz.f54.body.getD .skip) (nodelaw_MsgOf.RV R) (kvc Tryz.prog 76 Tryz.f54.results.toList (Tryz.f54.body.getD .skip) (nodelaw_MsgOf.RV R) [([(0, [1, 1, 1, 1, 0, 0, 0]), (2, [1, 1, 1, 1, 0, 0, 0]), (1, [1]), (0, [1, 1, 1, 1, 1])], fun σ w => dK (slotOf σ 1) fun o_ => dK (slotOf σ 2) fun t2_ => dK (slotOf σ 3) fun m0_ => dS (slotOf σ 4) fun rest_ => N1 o_ t2_ m0_ rest_ w)] 2000) [(0, [1, 1, 1, 1, 0, 0, 0, 0, 1]), (0, [1, 1, 1, 1, 0, 0, 0, 1]), (2, [1, 1, 1, 1, 0, 0, 0]), (1, [1]), (0, [1, 1, 1, 1, 1])] [(1, .pointer (some ⟨o, 0, none⟩)), (2, .pointer (some ⟨t2, 0, none⟩)), (3, .pointer (some ⟨m0, 0, none⟩)), (4, .string rest), (59, .bool t59)] w := by kernel_rfl
theorem nodelaw_MsgOf.B2_sound {R : Int → Int → Int → Int → Int → Int → Int → Bool → Option Addr → Nat → Nat → ByteArray → World → Prop} {N1 : Nat → Nat → Nat → ByteArray → World → Prop} (hN1 : ∀ o t2 m0 rest w, N1 o t2 m0 rest w → KW Tryz.prog 54 76 (nodelaw_MsgOf.RV R) ([(0, [1, 1, 1, 1, 0, 0, 0]), (2, [1, 1, 1, 1, 0, 0, 0]), (1, [1]), (0, [1, 1, 1, 1, 1])].map (toItem (Tryz.f54.body.getD .skip))) [(1, .pointer (some ⟨o, 0, none⟩)), (2, .pointer (some ⟨t2, 0, none⟩)), (3, .pointer (some ⟨m0, 0, none⟩)), (4, .string rest)] w) (o t2 m0 : Nat) (rest : ByteArray) (t59 : Bool) (w : World) (h : nodelaw_MsgOf.B2 o t2 m0 rest t59 w N1  R) :
    KW Tryz.prog 54 76 (nodelaw_MsgOf.RV R) ([(0, [1, 1, 1, 1, 0, 0, 0, 0, 1]), (0, [1, 1, 1, 1, 0, 0, 0, 1]), (2, [1, 1, 1, 1, 0, 0, 0]), (1, [1]), (0, [1, 1, 1, 1, 1])].map (toItem (Tryz.f54.body.getD .skip))) [(1, .pointer (some ⟨o, 0, none⟩)), (2, .pointer (some ⟨t2, 0, none⟩)), (3, .pointer (some ⟨m0, 0, none⟩)), (4, .string rest), (59, .bool t59)] w := by
  exact block_spec Tryz.func54 Tryz.mixed (stops_cons (fun σ w h => by
      obtain ⟨o_, e0, h⟩ := dK_elim h
      obtain ⟨t2_, e1, h⟩ := dK_elim h
      obtain ⟨m0_, e2, h⟩ := dK_elim h
      obtain ⟨rest_, e3, h⟩ := dS_elim h
      exact (hN1 o_ t2_ m0_ rest_ w h).weaken (Sub.cons (Sub.cons (Sub.cons (Sub.cons (Sub.nil _) e3) e2) e1) e0)) stops_nil) (Eq.mp (nodelaw_MsgOf.B2_eq o t2 m0 rest t59 w N1  R ) h)
def nodelaw_MsgOf.L1b (o t2 m0 : Nat) (rest : ByteArray) (w : World)  (N1 : Nat → Nat → Nat → ByteArray → World → Prop) (R : Int → Int → Int → Int → Int → Int → Int → Bool → Option Addr → Nat → Nat → ByteArray → World → Prop) : Prop :=
  Bm (!(rest.toList == (ByteArray.mk #[]).toList)) (
    LdL ⟨m0, 8, none⟩ w fun x56_b x56_l x56_c =>
    nodelaw_MsgOf.B2 o t2 m0 rest (decide (((x56_l : Nat) : Int) ≤ (2 : Int))) w N1 R) (
    nodelaw_MsgOf.B2 o t2 m0 rest false w N1 R)
theorem nodelaw_MsgOf.L1b_eq (o t2 m0 : Nat) (rest : ByteArray) (w : World)  (N1 : Nat → Nat → Nat → ByteArray → World → Prop) (R : Int → Int → Int → Int → Int → Int → Int → Bool → Option Addr → Nat → Nat → ByteArray → World → Prop) (sB2 : Nat → Nat → Nat → ByteArray → Bool → World → Prop) :
    (
  Bm (!(rest.toList == (ByteArray.mk #[]).toList)) (
    LdL ⟨m0, 8, none⟩ w fun x56_b x56_l x56_c =>
    sB2 o t2 m0 rest (decide (((x56_l : Nat) : Int) ≤ (2 : Int))) w) (
    sB2 o t2 m0 rest false w)) = kstep Tryz.prog 76 Tryz.f54.results.toList (Tryz.f54.body.getD .skip) (nodelaw_MsgOf.RV R) (kvc Tryz.prog 76 Tryz.f54.results.toList (Tryz.f54.body.getD .skip) (nodelaw_MsgOf.RV R) [([(0, [1, 1, 1, 1, 0, 0, 0, 0, 1]), (0, [1, 1, 1, 1, 0, 0, 0, 1]), (2, [1, 1, 1, 1, 0, 0, 0]), (1, [1]), (0, [1, 1, 1, 1, 1])], fun σ w => dK (slotOf σ 1) fun o_ => dK (slotOf σ 2) fun t2_ => dK (slotOf σ 3) fun m0_ => dS (slotOf σ 4) fun rest_ => dB (slotOf σ 59) fun t59_ => sB2 o_ t2_ m0_ rest_ t59_ w)] 2000) [(0, [1, 1, 1, 1, 0, 0, 0]), (2, [1, 1, 1, 1, 0, 0, 0]), (1, [1]), (0, [1, 1, 1, 1, 1])] [(1, .pointer (some ⟨o, 0, none⟩)), (2, .pointer (some ⟨t2, 0, none⟩)), (3, .pointer (some ⟨m0, 0, none⟩)), (4, .string rest)] w := by kernel_rfl
theorem nodelaw_MsgOf.L1b_sound {R : Int → Int → Int → Int → Int → Int → Int → Bool → Option Addr → Nat → Nat → ByteArray → World → Prop} {N1 : Nat → Nat → Nat → ByteArray → World → Prop} (hN1 : ∀ o t2 m0 rest w, N1 o t2 m0 rest w → KW Tryz.prog 54 76 (nodelaw_MsgOf.RV R) ([(0, [1, 1, 1, 1, 0, 0, 0]), (2, [1, 1, 1, 1, 0, 0, 0]), (1, [1]), (0, [1, 1, 1, 1, 1])].map (toItem (Tryz.f54.body.getD .skip))) [(1, .pointer (some ⟨o, 0, none⟩)), (2, .pointer (some ⟨t2, 0, none⟩)), (3, .pointer (some ⟨m0, 0, none⟩)), (4, .string rest)] w) (o t2 m0 : Nat) (rest : ByteArray) (w : World) (h : nodelaw_MsgOf.L1b o t2 m0 rest w  N1 R) :
    KW Tryz.prog 54 76 (nodelaw_MsgOf.RV R) ([(0, [1, 1, 1, 1, 0, 0, 0]), (2, [1, 1, 1, 1, 0, 0, 0]), (1, [1]), (0, [1, 1, 1, 1, 1])].map (toItem (Tryz.f54.body.getD .skip))) [(1, .pointer (some ⟨o, 0, none⟩)), (2, .pointer (some ⟨t2, 0, none⟩)), (3, .pointer (some ⟨m0, 0, none⟩)), (4, .string rest)] w := by
  exact block_spec Tryz.func54 Tryz.mixed (stops_cons (fun σ w h => by
      obtain ⟨o_, e0, h⟩ := dK_elim h
      obtain ⟨t2_, e1, h⟩ := dK_elim h
      obtain ⟨m0_, e2, h⟩ := dK_elim h
      obtain ⟨rest_, e3, h⟩ := dS_elim h
      obtain ⟨t59_, e4, h⟩ := dB_elim h
      exact (nodelaw_MsgOf.B2_sound hN1 o_ t2_ m0_ rest_ t59_ w h).weaken (Sub.cons (Sub.cons (Sub.cons (Sub.cons (Sub.cons (Sub.nil _) e4) e3) e2) e1) e0)) stops_nil) (Eq.mp (nodelaw_MsgOf.L1b_eq o t2 m0 rest w  N1 R (fun o_ t2_ m0_ rest_ t59_ w => nodelaw_MsgOf.B2 o_ t2_ m0_ rest_ t59_ w N1 R)) h)
def nodelaw_MsgOf.L1 (o t2 m0 : Nat) (rest : ByteArray) (w : World)  (R : Int → Int → Int → Int → Int → Int → Int → Bool → Option Addr → Nat → Nat → ByteArray → World → Prop) : Prop :=
  ∃ (I : Nat → Nat → Nat → Nat → ByteArray → World → Prop) (m : Nat), I m o t2 m0 rest w ∧ ∀ m o t2 m0 rest w, I m o t2 m0 rest w → nodelaw_MsgOf.L1b o t2 m0 rest w  (fun o' t2' m0' rest' w' => ∃ m', m' < m ∧ I m' o' t2' m0' rest' w') R
theorem nodelaw_MsgOf.L1_sound {R : Int → Int → Int → Int → Int → Int → Int → Bool → Option Addr → Nat → Nat → ByteArray → World → Prop}  (o t2 m0 : Nat) (rest : ByteArray) (w : World) (h : nodelaw_MsgOf.L1 o t2 m0 rest w  R) :
    KW Tryz.prog 54 76 (nodelaw_MsgOf.RV R) ([(0, [1, 1, 1, 1, 0, 0, 0]), (2, [1, 1, 1, 1, 0, 0, 0]), (1, [1]), (0, [1, 1, 1, 1, 1])].map (toItem (Tryz.f54.body.getD .skip))) [(1, .pointer (some ⟨o, 0, none⟩)), (2, .pointer (some ⟨t2, 0, none⟩)), (3, .pointer (some ⟨m0, 0, none⟩)), (4, .string rest)] w := by
  obtain ⟨I, m, hBase, hr⟩ := h
  refine KW.loop (fun m σ w => ∃ (o t2 m0 : Nat) (rest : ByteArray), σ = [(1, .pointer (some ⟨o, 0, none⟩)), (2, .pointer (some ⟨t2, 0, none⟩)), (3, .pointer (some ⟨m0, 0, none⟩)), (4, .string rest)] ∧ I m o t2 m0 rest w) ?_ m _ w ⟨o, t2, m0, rest, rfl, hBase⟩
  rintro m ih σ w ⟨o, t2, m0, rest, rfl, hI⟩
  exact nodelaw_MsgOf.L1b_sound  (N1 := fun o' t2' m0' rest' w' => ∃ m', m' < m ∧ I m' o' t2' m0' rest' w') (fun o' t2' m0' rest' w' hx => by obtain ⟨m', hlt, hI'⟩ := hx; exact ih m' hlt _ w' ⟨o', t2', m0', rest', rfl, hI'⟩) o t2 m0 rest w (hr m o t2 m0 rest w hI)
def nodelaw_MsgOf.B1 (o t2 m0 : Nat) (w : World)   (R : Int → Int → Int → Int → Int → Int → Int → Bool → Option Addr → Nat → Nat → ByteArray → World → Prop) : Prop :=
  LdS ⟨o, 5, none⟩ w fun x51 =>
  nodelaw_MsgOf.L1 o t2 m0 x51 w  R
theorem nodelaw_MsgOf.B1_eq (o t2 m0 : Nat) (w : World)   (R : Int → Int → Int → Int → Int → Int → Int → Bool → Option Addr → Nat → Nat → ByteArray → World → Prop) (sL1 : Nat → Nat → Nat → ByteArray → World → Prop) :
    (
  LdS ⟨o, 5, none⟩ w fun x51 =>
  sL1 o t2 m0 x51 w) = kstep Tryz.prog 76 Tryz.f54.results.toList (Tryz.f54.body.getD .skip) (nodelaw_MsgOf.RV R) (kvc Tryz.prog 76 Tryz.f54.results.toList (Tryz.f54.body.getD .skip) (nodelaw_MsgOf.RV R) [([(0, [1, 1, 1, 1, 0, 0, 0]), (2, [1, 1, 1, 1, 0, 0, 0]), (1, [1]), (0, [1, 1, 1, 1, 1])], fun σ w => dK (slotOf σ 1) fun o_ => dK (slotOf σ 2) fun t2_ => dK (slotOf σ 3) fun m0_ => dS (slotOf σ 4) fun rest_ => sL1 o_ t2_ m0_ rest_ w)] 2000) [(0, [1, 1, 1])] [(1, .pointer (some ⟨o, 0, none⟩)), (2, .pointer (some ⟨t2, 0, none⟩)), (3, .pointer (some ⟨m0, 0, none⟩))] w := by kernel_rfl
theorem nodelaw_MsgOf.B1_sound {R : Int → Int → Int → Int → Int → Int → Int → Bool → Option Addr → Nat → Nat → ByteArray → World → Prop}  (o t2 m0 : Nat) (w : World) (h : nodelaw_MsgOf.B1 o t2 m0 w   R) :
    KW Tryz.prog 54 76 (nodelaw_MsgOf.RV R) ([(0, [1, 1, 1])].map (toItem (Tryz.f54.body.getD .skip))) [(1, .pointer (some ⟨o, 0, none⟩)), (2, .pointer (some ⟨t2, 0, none⟩)), (3, .pointer (some ⟨m0, 0, none⟩))] w := by
  exact block_spec Tryz.func54 Tryz.mixed (stops_cons (fun σ w h => by
      obtain ⟨o_, e0, h⟩ := dK_elim h
      obtain ⟨t2_, e1, h⟩ := dK_elim h
      obtain ⟨m0_, e2, h⟩ := dK_elim h
      obtain ⟨rest_, e3, h⟩ := dS_elim h
      exact (nodelaw_MsgOf.L1_sound  o_ t2_ m0_ rest_ w h).weaken (Sub.cons (Sub.cons (Sub.cons (Sub.cons (Sub.nil _) e3) e2) e1) e0)) stops_nil) (Eq.mp (nodelaw_MsgOf.B1_eq o t2 m0 w   R (fun o_ t2_ m0_ rest_ w => nodelaw_MsgOf.L1 o_ t2_ m0_ rest_ w  R)) h)
def nodelaw_MsgOf.B0 (o_0 o_1 o_2 o_3 : Int) (o_4 o_5 : ByteArray) (w : World)   (R : Int → Int → Int → Int → Int → Int → Int → Bool → Option Addr → Nat → Nat → ByteArray → World → Prop) : Prop :=
  New (.cells #[.int .i64 o_0, .int .i64 o_1, .int .i64 o_2, .int .i64 o_3, .string o_4, .string o_5] 47) w fun o_ w1 =>
  New (.cells #[.int .i64 (0 : Int), .int .i64 (0 : Int), .int .i64 (0 : Int), .int .i64 (0 : Int), .int .i64 (0 : Int), .int .i64 (0 : Int), .int .i64 (0 : Int), .bool false, .slice none 0 0, .string (ByteArray.mk #[])] 101) w1 fun b2 w2 =>
  LdS ⟨o_, 4, none⟩ w2 fun x8 =>
  New (.cells #[.int .i64 (0 : Int), .int .i64 (0 : Int), .int .i64 (0 : Int), .int .i64 (0 : Int), .int .i64 (0 : Int), .int .i64 (0 : Int), .int .i64 (0 : Int), .bool false, .slice none 0 0, .string (ByteArray.mk #[])] 101) w2 fun m0_ w3 =>
  Sts [.int .i64 (3 : Int), .int .i64 (0 : Int), .int .i64 (1 : Int), .int .i64 (0 : Int), .int .i64 (0 : Int), .int .i64 (0 : Int), .int .i64 (0 : Int), .bool false, .slice none 0 0, .string x8] ⟨m0_, 0, none⟩ 0 w3 fun w4 =>
  LdI .i64 ⟨o_, 1, none⟩ w4 fun x11 =>
  Bm (x11 == (1 : Int)) (
    LdI .i64 ⟨o_, 2, none⟩ w4 fun x15 =>
    Sts [.int .i64 x15] ⟨m0_, 0, none⟩ 0 w4 fun w5 =>
    nodelaw_MsgOf.B1 o_ b2 m0_ w5  R) (
    Bm (x11 == (2 : Int)) (
      LdI .i64 ⟨o_, 2, none⟩ w4 fun x20 =>
      Sts [.int .i64 x20] ⟨m0_, 1, none⟩ 0 w4 fun w6 =>
      nodelaw_MsgOf.B1 o_ b2 m0_ w6  R) (
      Bm (x11 == (3 : Int)) (
        LdI .i64 ⟨o_, 2, none⟩ w4 fun x25 =>
        Sts [.int .i64 x25] ⟨m0_, 2, none⟩ 0 w4 fun w7 =>
        nodelaw_MsgOf.B1 o_ b2 m0_ w7  R) (
        Bm (x11 == (4 : Int)) (
          LdI .i64 ⟨o_, 2, none⟩ w4 fun x30 =>
          Sts [.int .i64 x30] ⟨m0_, 3, none⟩ 0 w4 fun w8 =>
          nodelaw_MsgOf.B1 o_ b2 m0_ w8  R) (
          Bm (x11 == (5 : Int)) (
            LdI .i64 ⟨o_, 2, none⟩ w4 fun x35 =>
            Sts [.int .i64 x35] ⟨m0_, 4, none⟩ 0 w4 fun w9 =>
            nodelaw_MsgOf.B1 o_ b2 m0_ w9  R) (
            Bm (x11 == (6 : Int)) (
              LdI .i64 ⟨o_, 2, none⟩ w4 fun x40 =>
              Sts [.int .i64 x40] ⟨m0_, 5, none⟩ 0 w4 fun w10 =>
              nodelaw_MsgOf.B1 o_ b2 m0_ w10  R) (
              Bm (x11 == (7 : Int)) (
                LdI .i64 ⟨o_, 2, none⟩ w4 fun x45 =>
                Sts [.int .i64 x45] ⟨m0_, 6, none⟩ 0 w4 fun w11 =>
                nodelaw_MsgOf.B1 o_ b2 m0_ w11  R) (
                Bm (x11 == (8 : Int)) (
                  Sts [.bool true] ⟨m0_, 7, none⟩ 0 w4 fun w12 =>
                  nodelaw_MsgOf.B1 o_ b2 m0_ w12  R) (
                  nodelaw_MsgOf.B1 o_ b2 m0_ w4  R))))))))
theorem nodelaw_MsgOf.B0_eq (o_0 o_1 o_2 o_3 : Int) (o_4 o_5 : ByteArray) (w : World)   (R : Int → Int → Int → Int → Int → Int → Int → Bool → Option Addr → Nat → Nat → ByteArray → World → Prop) (sB1 : Nat → Nat → Nat → World → Prop) :
    (
  New (.cells #[.int .i64 o_0, .int .i64 o_1, .int .i64 o_2, .int .i64 o_3, .string o_4, .string o_5] 47) w fun o_ w1 =>
  New (.cells #[.int .i64 (0 : Int), .int .i64 (0 : Int), .int .i64 (0 : Int), .int .i64 (0 : Int), .int .i64 (0 : Int), .int .i64 (0 : Int), .int .i64 (0 : Int), .bool false, .slice none 0 0, .string (ByteArray.mk #[])] 101) w1 fun b2 w2 =>
  LdS ⟨o_, 4, none⟩ w2 fun x8 =>
  New (.cells #[.int .i64 (0 : Int), .int .i64 (0 : Int), .int .i64 (0 : Int), .int .i64 (0 : Int), .int .i64 (0 : Int), .int .i64 (0 : Int), .int .i64 (0 : Int), .bool false, .slice none 0 0, .string (ByteArray.mk #[])] 101) w2 fun m0_ w3 =>
  Sts [.int .i64 (3 : Int), .int .i64 (0 : Int), .int .i64 (1 : Int), .int .i64 (0 : Int), .int .i64 (0 : Int), .int .i64 (0 : Int), .int .i64 (0 : Int), .bool false, .slice none 0 0, .string x8] ⟨m0_, 0, none⟩ 0 w3 fun w4 =>
  LdI .i64 ⟨o_, 1, none⟩ w4 fun x11 =>
  Bm (x11 == (1 : Int)) (
    LdI .i64 ⟨o_, 2, none⟩ w4 fun x15 =>
    Sts [.int .i64 x15] ⟨m0_, 0, none⟩ 0 w4 fun w5 =>
    sB1 o_ b2 m0_ w5) (
    Bm (x11 == (2 : Int)) (
      LdI .i64 ⟨o_, 2, none⟩ w4 fun x20 =>
      Sts [.int .i64 x20] ⟨m0_, 1, none⟩ 0 w4 fun w6 =>
      sB1 o_ b2 m0_ w6) (
      Bm (x11 == (3 : Int)) (
        LdI .i64 ⟨o_, 2, none⟩ w4 fun x25 =>
        Sts [.int .i64 x25] ⟨m0_, 2, none⟩ 0 w4 fun w7 =>
        sB1 o_ b2 m0_ w7) (
        Bm (x11 == (4 : Int)) (
          LdI .i64 ⟨o_, 2, none⟩ w4 fun x30 =>
          Sts [.int .i64 x30] ⟨m0_, 3, none⟩ 0 w4 fun w8 =>
          sB1 o_ b2 m0_ w8) (
          Bm (x11 == (5 : Int)) (
            LdI .i64 ⟨o_, 2, none⟩ w4 fun x35 =>
            Sts [.int .i64 x35] ⟨m0_, 4, none⟩ 0 w4 fun w9 =>
            sB1 o_ b2 m0_ w9) (
            Bm (x11 == (6 : Int)) (
              LdI .i64 ⟨o_, 2, none⟩ w4 fun x40 =>
              Sts [.int .i64 x40] ⟨m0_, 5, none⟩ 0 w4 fun w10 =>
              sB1 o_ b2 m0_ w10) (
              Bm (x11 == (7 : Int)) (
                LdI .i64 ⟨o_, 2, none⟩ w4 fun x45 =>
                Sts [.int .i64 x45] ⟨m0_, 6, none⟩ 0 w4 fun w11 =>
                sB1 o_ b2 m0_ w11) (
                Bm (x11 == (8 : Int)) (
                  Sts [.bool true] ⟨m0_, 7, none⟩ 0 w4 fun w12 =>
                  sB1 o_ b2 m0_ w12) (
                  sB1 o_ b2 m0_ w4))))))))) = kstep Tryz.prog 76 Tryz.f54.results.toList (Tryz.f54.body.getD .skip) (nodelaw_MsgOf.RV R) (kvc Tryz.prog 76 Tryz.f54.results.toList (Tryz.f54.body.getD .skip) (nodelaw_MsgOf.RV R) [([(0, [1, 1, 1])], fun σ w => dK (slotOf σ 1) fun o_ => dK (slotOf σ 2) fun t2_ => dK (slotOf σ 3) fun m0_ => sB1 o_ t2_ m0_ w)] 2000) [(0, [])] [(0, .agg #[.int .i64 o_0, .int .i64 o_1, .int .i64 o_2, .int .i64 o_3, .string o_4, .string o_5])] w := by kernel_rfl
theorem nodelaw_MsgOf.B0_sound {R : Int → Int → Int → Int → Int → Int → Int → Bool → Option Addr → Nat → Nat → ByteArray → World → Prop}  (o_0 o_1 o_2 o_3 : Int) (o_4 o_5 : ByteArray) (w : World) (h : nodelaw_MsgOf.B0 o_0 o_1 o_2 o_3 o_4 o_5 w   R) :
    KW Tryz.prog 54 76 (nodelaw_MsgOf.RV R) ([(0, [])].map (toItem (Tryz.f54.body.getD .skip))) [(0, .agg #[.int .i64 o_0, .int .i64 o_1, .int .i64 o_2, .int .i64 o_3, .string o_4, .string o_5])] w := by
  exact block_spec Tryz.func54 Tryz.mixed (stops_cons (fun σ w h => by
      obtain ⟨o_, e0, h⟩ := dK_elim h
      obtain ⟨t2_, e1, h⟩ := dK_elim h
      obtain ⟨m0_, e2, h⟩ := dK_elim h
      exact (nodelaw_MsgOf.B1_sound  o_ t2_ m0_ w h).weaken (Sub.cons (Sub.cons (Sub.cons (Sub.nil _) e2) e1) e0)) stops_nil) (Eq.mp (nodelaw_MsgOf.B0_eq o_0 o_1 o_2 o_3 o_4 o_5 w   R (fun o_ t2_ m0_ w => nodelaw_MsgOf.B1 o_ t2_ m0_ w  R)) h)
theorem nodelaw_MsgOf.sound (o_0 o_1 o_2 o_3 : Int) (o_4 o_5 : ByteArray) (w : World) (R : Int → Int → Int → Int → Int → Int → Int → Bool → Option Addr → Nat → Nat → ByteArray → World → Prop) (h : nodelaw_MsgOf.B0 o_0 o_1 o_2 o_3 o_4 o_5 w R) : nodelaw_MsgOf.Call o_0 o_1 o_2 o_3 o_4 o_5 w R := by
  have hc := calls_of_block (args := #[.agg #[.int .i64 o_0, .int .i64 o_1, .int .i64 o_2, .int .i64 o_3, .string o_4, .string o_5]]) Tryz.func54 (body := (Tryz.f54.body.getD .skip)) (by kernel_rfl) (by kernel_rfl) (args_slot _) (nodelaw_MsgOf.B0_sound o_0 o_1 o_2 o_3 o_4 o_5 w h)
  exact hc.mono fun e w' he => by
    obtain ⟨v, rfl, hv⟩ := he
    exact nodelaw_MsgOf.RV_elim hv
def nodelaw_SameEncode.B2 (g h0 : Nat) (i : Int) (t58 : Bool) (w : World) (N1 : Nat → Nat → Int → World → Prop)  (R : Bool → World → Prop) : Prop :=
  Bm t58 (
    R false w) (
    N1 g h0 (IntKind.i64.wrap (i + (1 : Int))) w)
theorem nodelaw_SameEncode.B2_eq (g h0 : Nat) (i : Int) (t58 : Bool) (w : World) (N1 : Nat → Nat → Int → World → Prop)  (R : Bool → World → Prop)  :
    (
  Bm t58 (
    R false w) (
    N1 g h0 (IntKind.i64.wrap (i + (1 : Int))) w)) = kstep Tryz.prog 59 Tryz.f55.results.toList (Tryz.f55.body.getD .skip) (nodelaw_SameEncode.RV R) (kvc Tryz.prog 59 Tryz.f55.results.toList (Tryz.f55.body.getD .skip) (nodelaw_SameEncode.RV R) [([(0, [1, 1, 1, 1, 0, 1, 0, 0]), (2, [1, 1, 1, 1, 0, 1, 0, 0]), (1, [0]), (0, [1, 1, 1, 1, 1])], fun σ w => dK (slotOf σ 2) fun g_ => dK (slotOf σ 3) fun h0_ => dI .i64 (slotOf σ 7) fun i_ => N1 g_ h0_ i_ w)] 2000) [(0, [1, 1, 1, 1, 0, 1, 0, 0, 1, 0, 0, 1]), (1, [1]), (0, [1, 1, 1, 1, 0, 1, 0, 0, 1, 1]), (2, [1, 1, 1, 1, 0, 1, 0, 0]), (1, [0]), (0, [1, 1, 1, 1, 1])] [(2, .pointer (some ⟨g, 0, none⟩)), (3, .pointer (some ⟨h0, 0, none⟩)), (7, .int .i64 i), (58, .bool t58)] w := by kernel_rfl
theorem nodelaw_SameEncode.B2_sound {R : Bool → World → Prop} {N1 : Nat → Nat → Int → World → Prop} (hN1 : ∀ g h0 i w, N1 g h0 i w → KW Tryz.prog 55 59 (nodelaw_SameEncode.RV R) ([(0, [1, 1, 1, 1, 0, 1, 0, 0]), (2, [1, 1, 1, 1, 0, 1, 0, 0]), (1, [0]), (0, [1, 1, 1, 1, 1])].map (toItem (Tryz.f55.body.getD .skip))) [(2, .pointer (some ⟨g, 0, none⟩)), (3, .pointer (some ⟨h0, 0, none⟩)), (7, .int .i64 i)] w) (g h0 : Nat) (i : Int) (t58 : Bool) (w : World) (h : nodelaw_SameEncode.B2 g h0 i t58 w N1  R) :
    KW Tryz.prog 55 59 (nodelaw_SameEncode.RV R) ([(0, [1, 1, 1, 1, 0, 1, 0, 0, 1, 0, 0, 1]), (1, [1]), (0, [1, 1, 1, 1, 0, 1, 0, 0, 1, 1]), (2, [1, 1, 1, 1, 0, 1, 0, 0]), (1, [0]), (0, [1, 1, 1, 1, 1])].map (toItem (Tryz.f55.body.getD .skip))) [(2, .pointer (some ⟨g, 0, none⟩)), (3, .pointer (some ⟨h0, 0, none⟩)), (7, .int .i64 i), (58, .bool t58)] w := by
  exact block_spec Tryz.func55 Tryz.mixed (stops_cons (fun σ w h => by
      obtain ⟨g_, e0, h⟩ := dK_elim h
      obtain ⟨h0_, e1, h⟩ := dK_elim h
      obtain ⟨i_, e2, h⟩ := dI_elim h
      exact (hN1 g_ h0_ i_ w h).weaken (Sub.cons (Sub.cons (Sub.cons (Sub.nil _) e2) e1) e0)) stops_nil) (Eq.mp (nodelaw_SameEncode.B2_eq g h0 i t58 w N1  R ) h)
def nodelaw_SameEncode.L1b (g h0 : Nat) (i : Int) (w : World)  (N1 : Nat → Nat → Int → World → Prop) (R : Bool → World → Prop) : Prop :=
  LdL ⟨g, 8, none⟩ w fun x26_b x26_l x26_c =>
  Bm (decide (i < ((x26_l : Nat) : Int))) (
    LdL ⟨g, 8, none⟩ w.drew fun x32_b x32_l x32_c =>
    Pn x32_b fun a =>
    (0 ≤ i ∧ i < ((x32_l : Nat) : Int)) ∧
    LdI .i64 (Addr.add a (i.toNat * 2)) w.drew fun x36 =>
    LdL ⟨h0, 8, none⟩ w.drew fun x38_b x38_l x38_c =>
    Pn x38_b fun a_1 =>
    (0 ≤ i ∧ i < ((x38_l : Nat) : Int)) ∧
    LdI .i64 (Addr.add a_1 (i.toNat * 2)) w.drew fun x42 =>
    Bm (x36 != x42) (
      nodelaw_SameEncode.B2 g h0 i true w.drew N1 R) (
      LdL ⟨g, 8, none⟩ w.drew fun x46_b x46_l x46_c =>
      Pn x46_b fun a_2 =>
      (0 ≤ i ∧ i < ((x46_l : Nat) : Int)) ∧
      LdS ((Addr.add a_2 (i.toNat * 2)).add 1) w.drew fun x50 =>
      LdL ⟨h0, 8, none⟩ w.drew fun x52_b x52_l x52_c =>
      Pn x52_b fun a_3 =>
      (0 ≤ i ∧ i < ((x52_l : Nat) : Int)) ∧
      LdS ((Addr.add a_3 (i.toNat * 2)).add 1) w.drew fun x56 =>
      nodelaw_SameEncode.B2 g h0 i (!(x50.toList == x56.toList)) w.drew N1 R)) (
    R true w)
theorem nodelaw_SameEncode.L1b_eq (g h0 : Nat) (i : Int) (w : World)  (N1 : Nat → Nat → Int → World → Prop) (R : Bool → World → Prop) (sB2 : Nat → Nat → Int → Bool → World → Prop) :
    (
  LdL ⟨g, 8, none⟩ w fun x26_b x26_l x26_c =>
  Bm (decide (i < ((x26_l : Nat) : Int))) (
    LdL ⟨g, 8, none⟩ w.drew fun x32_b x32_l x32_c =>
    Pn x32_b fun a =>
    (0 ≤ i ∧ i < ((x32_l : Nat) : Int)) ∧
    LdI .i64 (Addr.add a (i.toNat * 2)) w.drew fun x36 =>
    LdL ⟨h0, 8, none⟩ w.drew fun x38_b x38_l x38_c =>
    Pn x38_b fun a_1 =>
    (0 ≤ i ∧ i < ((x38_l : Nat) : Int)) ∧
    LdI .i64 (Addr.add a_1 (i.toNat * 2)) w.drew fun x42 =>
    Bm (x36 != x42) (
      sB2 g h0 i true w.drew) (
      LdL ⟨g, 8, none⟩ w.drew fun x46_b x46_l x46_c =>
      Pn x46_b fun a_2 =>
      (0 ≤ i ∧ i < ((x46_l : Nat) : Int)) ∧
      LdS ((Addr.add a_2 (i.toNat * 2)).add 1) w.drew fun x50 =>
      LdL ⟨h0, 8, none⟩ w.drew fun x52_b x52_l x52_c =>
      Pn x52_b fun a_3 =>
      (0 ≤ i ∧ i < ((x52_l : Nat) : Int)) ∧
      LdS ((Addr.add a_3 (i.toNat * 2)).add 1) w.drew fun x56 =>
      sB2 g h0 i (!(x50.toList == x56.toList)) w.drew)) (
    R true w)) = kstep Tryz.prog 59 Tryz.f55.results.toList (Tryz.f55.body.getD .skip) (nodelaw_SameEncode.RV R) (kvc Tryz.prog 59 Tryz.f55.results.toList (Tryz.f55.body.getD .skip) (nodelaw_SameEncode.RV R) [([(0, [1, 1, 1, 1, 0, 1, 0, 0, 1, 0, 0, 1]), (1, [1]), (0, [1, 1, 1, 1, 0, 1, 0, 0, 1, 1]), (2, [1, 1, 1, 1, 0, 1, 0, 0]), (1, [0]), (0, [1, 1, 1, 1, 1])], fun σ w => dK (slotOf σ 2) fun g_ => dK (slotOf σ 3) fun h0_ => dI .i64 (slotOf σ 7) fun i_ => dB (slotOf σ 58) fun t58_ => sB2 g_ h0_ i_ t58_ w)] 2000) [(0, [1, 1, 1, 1, 0, 1, 0, 0]), (2, [1, 1, 1, 1, 0, 1, 0, 0]), (1, [0]), (0, [1, 1, 1, 1, 1])] [(2, .pointer (some ⟨g, 0, none⟩)), (3, .pointer (some ⟨h0, 0, none⟩)), (7, .int .i64 i)] w := by kernel_rfl
theorem nodelaw_SameEncode.L1b_sound {R : Bool → World → Prop} {N1 : Nat → Nat → Int → World → Prop} (hN1 : ∀ g h0 i w, N1 g h0 i w → KW Tryz.prog 55 59 (nodelaw_SameEncode.RV R) ([(0, [1, 1, 1, 1, 0, 1, 0, 0]), (2, [1, 1, 1, 1, 0, 1, 0, 0]), (1, [0]), (0, [1, 1, 1, 1, 1])].map (toItem (Tryz.f55.body.getD .skip))) [(2, .pointer (some ⟨g, 0, none⟩)), (3, .pointer (some ⟨h0, 0, none⟩)), (7, .int .i64 i)] w) (g h0 : Nat) (i : Int) (w : World) (h : nodelaw_SameEncode.L1b g h0 i w  N1 R) :
    KW Tryz.prog 55 59 (nodelaw_SameEncode.RV R) ([(0, [1, 1, 1, 1, 0, 1, 0, 0]), (2, [1, 1, 1, 1, 0, 1, 0, 0]), (1, [0]), (0, [1, 1, 1, 1, 1])].map (toItem (Tryz.f55.body.getD .skip))) [(2, .pointer (some ⟨g, 0, none⟩)), (3, .pointer (some ⟨h0, 0, none⟩)), (7, .int .i64 i)] w := by
  exact block_spec Tryz.func55 Tryz.mixed (stops_cons (fun σ w h => by
      obtain ⟨g_, e0, h⟩ := dK_elim h
      obtain ⟨h0_, e1, h⟩ := dK_elim h
      obtain ⟨i_, e2, h⟩ := dI_elim h
      obtain ⟨t58_, e3, h⟩ := dB_elim h
      exact (nodelaw_SameEncode.B2_sound hN1 g_ h0_ i_ t58_ w h).weaken (Sub.cons (Sub.cons (Sub.cons (Sub.cons (Sub.nil _) e3) e2) e1) e0)) stops_nil) (Eq.mp (nodelaw_SameEncode.L1b_eq g h0 i w  N1 R (fun g_ h0_ i_ t58_ w => nodelaw_SameEncode.B2 g_ h0_ i_ t58_ w N1 R)) h)
def nodelaw_SameEncode.L1 (g h0 : Nat) (i : Int) (w : World)  (R : Bool → World → Prop) : Prop :=
  ∃ (I : Nat → Nat → Nat → Int → World → Prop) (m : Nat), I m g h0 i w ∧ ∀ m g h0 i w, I m g h0 i w → nodelaw_SameEncode.L1b g h0 i w  (fun g' h0' i' w' => ∃ m', m' < m ∧ I m' g' h0' i' w') R
theorem nodelaw_SameEncode.L1_sound {R : Bool → World → Prop}  (g h0 : Nat) (i : Int) (w : World) (h : nodelaw_SameEncode.L1 g h0 i w  R) :
    KW Tryz.prog 55 59 (nodelaw_SameEncode.RV R) ([(0, [1, 1, 1, 1, 0, 1, 0, 0]), (2, [1, 1, 1, 1, 0, 1, 0, 0]), (1, [0]), (0, [1, 1, 1, 1, 1])].map (toItem (Tryz.f55.body.getD .skip))) [(2, .pointer (some ⟨g, 0, none⟩)), (3, .pointer (some ⟨h0, 0, none⟩)), (7, .int .i64 i)] w := by
  obtain ⟨I, m, hBase, hr⟩ := h
  refine KW.loop (fun m σ w => ∃ (g h0 : Nat) (i : Int), σ = [(2, .pointer (some ⟨g, 0, none⟩)), (3, .pointer (some ⟨h0, 0, none⟩)), (7, .int .i64 i)] ∧ I m g h0 i w) ?_ m _ w ⟨g, h0, i, rfl, hBase⟩
  rintro m ih σ w ⟨g, h0, i, rfl, hI⟩
  exact nodelaw_SameEncode.L1b_sound  (N1 := fun g' h0' i' w' => ∃ m', m' < m ∧ I m' g' h0' i' w') (fun g' h0' i' w' hx => by obtain ⟨m', hlt, hI'⟩ := hx; exact ih m' hlt _ w' ⟨g', h0', i', rfl, hI'⟩) g h0 i w (hr m g h0 i w hI)
def nodelaw_SameEncode.B1 (g h0 : Nat) (t23 : Bool) (w : World)   (R : Bool → World → Prop) : Prop :=
  Bm t23 (
    R false w) (
    nodelaw_SameEncode.L1 g h0 (0 : Int) w  R)
theorem nodelaw_SameEncode.B1_eq (g h0 : Nat) (t23 : Bool) (w : World)   (R : Bool → World → Prop) (sL1 : Nat → Nat → Int → World → Prop) :
    (
  Bm t23 (
    R false w) (
    sL1 g h0 (0 : Int) w)) = kstep Tryz.prog 59 Tryz.f55.results.toList (Tryz.f55.body.getD .skip) (nodelaw_SameEncode.RV R) (kvc Tryz.prog 59 Tryz.f55.results.toList (Tryz.f55.body.getD .skip) (nodelaw_SameEncode.RV R) [([(0, [1, 1, 1, 1, 0, 1, 0, 0]), (2, [1, 1, 1, 1, 0, 1, 0, 0]), (1, [0]), (0, [1, 1, 1, 1, 1])], fun σ w => dK (slotOf σ 2) fun g_ => dK (slotOf σ 3) fun h0_ => dI .i64 (slotOf σ 7) fun i_ => sL1 g_ h0_ i_ w)] 2000) [(0, [1, 1, 1, 0, 1]), (0, [1, 1, 1, 1])] [(2, .pointer (some ⟨g, 0, none⟩)), (3, .pointer (some ⟨h0, 0, none⟩)), (23, .bool t23)] w := by kernel_rfl
theorem nodelaw_SameEncode.B1_sound {R : Bool → World → Prop}  (g h0 : Nat) (t23 : Bool) (w : World) (h : nodelaw_SameEncode.B1 g h0 t23 w   R) :
    KW Tryz.prog 55 59 (nodelaw_SameEncode.RV R) ([(0, [1, 1, 1, 0, 1]), (0, [1, 1, 1, 1])].map (toItem (Tryz.f55.body.getD .skip))) [(2, .pointer (some ⟨g, 0, none⟩)), (3, .pointer (some ⟨h0, 0, none⟩)), (23, .bool t23)] w := by
  exact block_spec Tryz.func55 Tryz.mixed (stops_cons (fun σ w h => by
      obtain ⟨g_, e0, h⟩ := dK_elim h
      obtain ⟨h0_, e1, h⟩ := dK_elim h
      obtain ⟨i_, e2, h⟩ := dI_elim h
      exact (nodelaw_SameEncode.L1_sound  g_ h0_ i_ w h).weaken (Sub.cons (Sub.cons (Sub.cons (Sub.nil _) e2) e1) e0)) stops_nil) (Eq.mp (nodelaw_SameEncode.B1_eq g h0 t23 w   R (fun g_ h0_ i_ w => nodelaw_SameEncode.L1 g_ h0_ i_ w  R)) h)
def nodelaw_SameEncode.B0 (g_0 g_1 g_2 g_3 g_4 g_5 g_6 : Int) (g_7 : Bool) (g_8_b : Option Addr) (g_8_l g_8_c : Nat) (g_9 : ByteArray) (h0_0 h0_1 h0_2 h0_3 h0_4 h0_5 h0_6 : Int) (h0_7 : Bool) (h0_8_b : Option Addr) (h0_8_l h0_8_c : Nat) (h0_9 : ByteArray) (w : World)   (R : Bool → World → Prop) : Prop :=
  New (.cells #[.int .i64 g_0, .int .i64 g_1, .int .i64 g_2, .int .i64 g_3, .int .i64 g_4, .int .i64 g_5, .int .i64 g_6, .bool g_7, .slice g_8_b g_8_l g_8_c, .string g_9] 101) w fun g_ w1 =>
  New (.cells #[.int .i64 h0_0, .int .i64 h0_1, .int .i64 h0_2, .int .i64 h0_3, .int .i64 h0_4, .int .i64 h0_5, .int .i64 h0_6, .bool h0_7, .slice h0_8_b h0_8_l h0_8_c, .string h0_9] 101) w1 fun h0_ w2 =>
  LdI .i64 ⟨g_, 0, none⟩ w2 fun x8_0 =>
  LdI .i64 ⟨g_, 1, none⟩ w2 fun x8_1 =>
  LdI .i64 ⟨g_, 2, none⟩ w2 fun x8_2 =>
  LdI .i64 ⟨g_, 3, none⟩ w2 fun x8_3 =>
  LdI .i64 ⟨g_, 4, none⟩ w2 fun x8_4 =>
  LdI .i64 ⟨g_, 5, none⟩ w2 fun x8_5 =>
  LdI .i64 ⟨g_, 6, none⟩ w2 fun x8_6 =>
  LdB ⟨g_, 7, none⟩ w2 fun x8_7 =>
  LdL ⟨g_, 8, none⟩ w2 fun x8_8_b x8_8_l x8_8_c =>
  LdS ⟨g_, 9, none⟩ w2 fun x8_9 =>
  node_Encode.Call x8_0 x8_1 x8_2 x8_3 x8_4 x8_5 x8_6 x8_7 x8_8_b x8_8_l x8_8_c x8_9 w2 fun r9 w3 =>
  LdI .i64 ⟨h0_, 0, none⟩ w3 fun x10_0 =>
  LdI .i64 ⟨h0_, 1, none⟩ w3 fun x10_1 =>
  LdI .i64 ⟨h0_, 2, none⟩ w3 fun x10_2 =>
  LdI .i64 ⟨h0_, 3, none⟩ w3 fun x10_3 =>
  LdI .i64 ⟨h0_, 4, none⟩ w3 fun x10_4 =>
  LdI .i64 ⟨h0_, 5, none⟩ w3 fun x10_5 =>
  LdI .i64 ⟨h0_, 6, none⟩ w3 fun x10_6 =>
  LdB ⟨h0_, 7, none⟩ w3 fun x10_7 =>
  LdL ⟨h0_, 8, none⟩ w3 fun x10_8_b x10_8_l x10_8_c =>
  LdS ⟨h0_, 9, none⟩ w3 fun x10_9 =>
  api_EncodeMsg.Call x10_0 x10_1 x10_2 x10_3 x10_4 x10_5 x10_6 x10_7 x10_8_b x10_8_l x10_8_c x10_9 w3 fun r11 w4 =>
  Bm (!(r9.toList == r11.toList)) (
    nodelaw_SameEncode.B1 g_ h0_ true w4  R) (
    LdL ⟨g_, 8, none⟩ w4 fun x17_b x17_l x17_c =>
    LdL ⟨h0_, 8, none⟩ w4 fun x20_b x20_l x20_c =>
    nodelaw_SameEncode.B1 g_ h0_ (((x17_l : Nat) : Int) != ((x20_l : Nat) : Int)) w4  R)
theorem nodelaw_SameEncode.B0_eq (g_0 g_1 g_2 g_3 g_4 g_5 g_6 : Int) (g_7 : Bool) (g_8_b : Option Addr) (g_8_l g_8_c : Nat) (g_9 : ByteArray) (h0_0 h0_1 h0_2 h0_3 h0_4 h0_5 h0_6 : Int) (h0_7 : Bool) (h0_8_b : Option Addr) (h0_8_l h0_8_c : Nat) (h0_9 : ByteArray) (w : World)   (R : Bool → World → Prop) (sB1 : Nat → Nat → Bool → World → Prop) :
    (
  New (.cells #[.int .i64 g_0, .int .i64 g_1, .int .i64 g_2, .int .i64 g_3, .int .i64 g_4, .int .i64 g_5, .int .i64 g_6, .bool g_7, .slice g_8_b g_8_l g_8_c, .string g_9] 101) w fun g_ w1 =>
  New (.cells #[.int .i64 h0_0, .int .i64 h0_1, .int .i64 h0_2, .int .i64 h0_3, .int .i64 h0_4, .int .i64 h0_5, .int .i64 h0_6, .bool h0_7, .slice h0_8_b h0_8_l h0_8_c, .string h0_9] 101) w1 fun h0_ w2 =>
  LdI .i64 ⟨g_, 0, none⟩ w2 fun x8_0 =>
  LdI .i64 ⟨g_, 1, none⟩ w2 fun x8_1 =>
  LdI .i64 ⟨g_, 2, none⟩ w2 fun x8_2 =>
  LdI .i64 ⟨g_, 3, none⟩ w2 fun x8_3 =>
  LdI .i64 ⟨g_, 4, none⟩ w2 fun x8_4 =>
  LdI .i64 ⟨g_, 5, none⟩ w2 fun x8_5 =>
  LdI .i64 ⟨g_, 6, none⟩ w2 fun x8_6 =>
  LdB ⟨g_, 7, none⟩ w2 fun x8_7 =>
  LdL ⟨g_, 8, none⟩ w2 fun x8_8_b x8_8_l x8_8_c =>
  LdS ⟨g_, 9, none⟩ w2 fun x8_9 =>
  node_Encode.Call x8_0 x8_1 x8_2 x8_3 x8_4 x8_5 x8_6 x8_7 x8_8_b x8_8_l x8_8_c x8_9 w2 fun r9 w3 =>
  LdI .i64 ⟨h0_, 0, none⟩ w3 fun x10_0 =>
  LdI .i64 ⟨h0_, 1, none⟩ w3 fun x10_1 =>
  LdI .i64 ⟨h0_, 2, none⟩ w3 fun x10_2 =>
  LdI .i64 ⟨h0_, 3, none⟩ w3 fun x10_3 =>
  LdI .i64 ⟨h0_, 4, none⟩ w3 fun x10_4 =>
  LdI .i64 ⟨h0_, 5, none⟩ w3 fun x10_5 =>
  LdI .i64 ⟨h0_, 6, none⟩ w3 fun x10_6 =>
  LdB ⟨h0_, 7, none⟩ w3 fun x10_7 =>
  LdL ⟨h0_, 8, none⟩ w3 fun x10_8_b x10_8_l x10_8_c =>
  LdS ⟨h0_, 9, none⟩ w3 fun x10_9 =>
  api_EncodeMsg.Call x10_0 x10_1 x10_2 x10_3 x10_4 x10_5 x10_6 x10_7 x10_8_b x10_8_l x10_8_c x10_9 w3 fun r11 w4 =>
  Bm (!(r9.toList == r11.toList)) (
    sB1 g_ h0_ true w4) (
    LdL ⟨g_, 8, none⟩ w4 fun x17_b x17_l x17_c =>
    LdL ⟨h0_, 8, none⟩ w4 fun x20_b x20_l x20_c =>
    sB1 g_ h0_ (((x17_l : Nat) : Int) != ((x20_l : Nat) : Int)) w4)) = kstep Tryz.prog 59 Tryz.f55.results.toList (Tryz.f55.body.getD .skip) (nodelaw_SameEncode.RV R) (kvc Tryz.prog 59 Tryz.f55.results.toList (Tryz.f55.body.getD .skip) (nodelaw_SameEncode.RV R) [([(0, [1, 1, 1, 0, 1]), (0, [1, 1, 1, 1])], fun σ w => dK (slotOf σ 2) fun g_ => dK (slotOf σ 3) fun h0_ => dB (slotOf σ 23) fun t23_ => sB1 g_ h0_ t23_ w)] 2000) [(0, [])] [(0, .agg #[.int .i64 g_0, .int .i64 g_1, .int .i64 g_2, .int .i64 g_3, .int .i64 g_4, .int .i64 g_5, .int .i64 g_6, .bool g_7, .slice g_8_b g_8_l g_8_c, .string g_9]), (1, .agg #[.int .i64 h0_0, .int .i64 h0_1, .int .i64 h0_2, .int .i64 h0_3, .int .i64 h0_4, .int .i64 h0_5, .int .i64 h0_6, .bool h0_7, .slice h0_8_b h0_8_l h0_8_c, .string h0_9])] w := by kernel_rfl
theorem nodelaw_SameEncode.B0_sound {R : Bool → World → Prop}  (g_0 g_1 g_2 g_3 g_4 g_5 g_6 : Int) (g_7 : Bool) (g_8_b : Option Addr) (g_8_l g_8_c : Nat) (g_9 : ByteArray) (h0_0 h0_1 h0_2 h0_3 h0_4 h0_5 h0_6 : Int) (h0_7 : Bool) (h0_8_b : Option Addr) (h0_8_l h0_8_c : Nat) (h0_9 : ByteArray) (w : World) (h : nodelaw_SameEncode.B0 g_0 g_1 g_2 g_3 g_4 g_5 g_6 g_7 g_8_b g_8_l g_8_c g_9 h0_0 h0_1 h0_2 h0_3 h0_4 h0_5 h0_6 h0_7 h0_8_b h0_8_l h0_8_c h0_9 w   R) :
    KW Tryz.prog 55 59 (nodelaw_SameEncode.RV R) ([(0, [])].map (toItem (Tryz.f55.body.getD .skip))) [(0, .agg #[.int .i64 g_0, .int .i64 g_1, .int .i64 g_2, .int .i64 g_3, .int .i64 g_4, .int .i64 g_5, .int .i64 g_6, .bool g_7, .slice g_8_b g_8_l g_8_c, .string g_9]), (1, .agg #[.int .i64 h0_0, .int .i64 h0_1, .int .i64 h0_2, .int .i64 h0_3, .int .i64 h0_4, .int .i64 h0_5, .int .i64 h0_6, .bool h0_7, .slice h0_8_b h0_8_l h0_8_c, .string h0_9])] w := by
  exact block_spec Tryz.func55 Tryz.mixed (stops_cons (fun σ w h => by
      obtain ⟨g_, e0, h⟩ := dK_elim h
      obtain ⟨h0_, e1, h⟩ := dK_elim h
      obtain ⟨t23_, e2, h⟩ := dB_elim h
      exact (nodelaw_SameEncode.B1_sound  g_ h0_ t23_ w h).weaken (Sub.cons (Sub.cons (Sub.cons (Sub.nil _) e2) e1) e0)) stops_nil) (Eq.mp (nodelaw_SameEncode.B0_eq g_0 g_1 g_2 g_3 g_4 g_5 g_6 g_7 g_8_b g_8_l g_8_c g_9 h0_0 h0_1 h0_2 h0_3 h0_4 h0_5 h0_6 h0_7 h0_8_b h0_8_l h0_8_c h0_9 w   R (fun g_ h0_ t23_ w => nodelaw_SameEncode.B1 g_ h0_ t23_ w  R)) h)
theorem nodelaw_SameEncode.sound (g_0 g_1 g_2 g_3 g_4 g_5 g_6 : Int) (g_7 : Bool) (g_8_b : Option Addr) (g_8_l g_8_c : Nat) (g_9 : ByteArray) (h0_0 h0_1 h0_2 h0_3 h0_4 h0_5 h0_6 : Int) (h0_7 : Bool) (h0_8_b : Option Addr) (h0_8_l h0_8_c : Nat) (h0_9 : ByteArray) (w : World) (R : Bool → World → Prop) (h : nodelaw_SameEncode.B0 g_0 g_1 g_2 g_3 g_4 g_5 g_6 g_7 g_8_b g_8_l g_8_c g_9 h0_0 h0_1 h0_2 h0_3 h0_4 h0_5 h0_6 h0_7 h0_8_b h0_8_l h0_8_c h0_9 w R) : nodelaw_SameEncode.Call g_0 g_1 g_2 g_3 g_4 g_5 g_6 g_7 g_8_b g_8_l g_8_c g_9 h0_0 h0_1 h0_2 h0_3 h0_4 h0_5 h0_6 h0_7 h0_8_b h0_8_l h0_8_c h0_9 w R := by
  have hc := calls_of_block (args := #[.agg #[.int .i64 g_0, .int .i64 g_1, .int .i64 g_2, .int .i64 g_3, .int .i64 g_4, .int .i64 g_5, .int .i64 g_6, .bool g_7, .slice g_8_b g_8_l g_8_c, .string g_9], .agg #[.int .i64 h0_0, .int .i64 h0_1, .int .i64 h0_2, .int .i64 h0_3, .int .i64 h0_4, .int .i64 h0_5, .int .i64 h0_6, .bool h0_7, .slice h0_8_b h0_8_l h0_8_c, .string h0_9]]) Tryz.func55 (body := (Tryz.f55.body.getD .skip)) (by kernel_rfl) (by kernel_rfl) (args_slot _) (nodelaw_SameEncode.B0_sound g_0 g_1 g_2 g_3 g_4 g_5 g_6 g_7 g_8_b g_8_l g_8_c g_9 h0_0 h0_1 h0_2 h0_3 h0_4 h0_5 h0_6 h0_7 h0_8_b h0_8_l h0_8_c h0_9 w h)
  exact hc.mono fun e w' he => by
    obtain ⟨v, rfl, hv⟩ := he
    exact nodelaw_SameEncode.RV_elim hv
end Go.Proofs.Qxb6500430aGreat
