import Derived.Test.Qxb6500422aGreatSig
set_option maxRecDepth 100000
set_option linter.unusedVariables false
open Go.Vc
namespace Go.Proofs.Qxb6500422aGreat
def conn_Conn_begin.B0 (c : Option Addr) (st iss : Int) (w : World)   (R : World → Prop) : Prop :=
  conn_Conn_wipe.Call c w fun w1 =>
  Pn c fun a =>
  Sts [.int .i64 st] (a.add 2) 0 w1 fun w2 =>
  api_SeqAdd.Call iss (0 : Int) w2 fun r14 w3 =>
  Pn c fun a_1 =>
  Sts [.int .i64 r14] (a_1.add 8) 0 w3 fun w4 =>
  Pn c fun a_2 =>
  LdP a_2 w4.drew fun x20 =>
  Pn c fun a_3 =>
  LdI .i64 (a_3.add 8) w4.drew fun x24 =>
  seg_SendBuf_Reset.Call x20 x24 w4.drew fun w5 =>
  Pn c fun a_4 =>
  Sts [.int .i64 (11 : Int)] (a_4.add 12) 0 w5 fun w6 =>
  Pn c fun a_5 =>
  Sts [.int .i64 (2 : Int)] (a_5.add 10) 0 w6 fun w7 =>
  R  w7
theorem conn_Conn_begin.B0_eq (c : Option Addr) (st iss : Int) (w : World)   (R : World → Prop)  :
    (
  conn_Conn_wipe.Call c w fun w1 =>
  Pn c fun a =>
  Sts [.int .i64 st] (a.add 2) 0 w1 fun w2 =>
  api_SeqAdd.Call iss (0 : Int) w2 fun r14 w3 =>
  Pn c fun a_1 =>
  Sts [.int .i64 r14] (a_1.add 8) 0 w3 fun w4 =>
  Pn c fun a_2 =>
  LdP a_2 w4.drew fun x20 =>
  Pn c fun a_3 =>
  LdI .i64 (a_3.add 8) w4.drew fun x24 =>
  seg_SendBuf_Reset.Call x20 x24 w4.drew fun w5 =>
  Pn c fun a_4 =>
  Sts [.int .i64 (11 : Int)] (a_4.add 12) 0 w5 fun w6 =>
  Pn c fun a_5 =>
  Sts [.int .i64 (2 : Int)] (a_5.add 10) 0 w6 fun w7 =>
  R  w7) = kstep Tryz.prog 32 Tryz.f66.results.toList (Tryz.f66.body.getD .skip) (conn_Conn_begin.RV R) (kvc Tryz.prog 32 Tryz.f66.results.toList (Tryz.f66.body.getD .skip) (conn_Conn_begin.RV R) [] 2000) [(0, [])] [(0, .pointer c), (1, .int .i64 st), (2, .int .i64 iss)] w := by kernel_rfl
theorem conn_Conn_begin.B0_sound {R : World → Prop}  (c : Option Addr) (st iss : Int) (w : World) (h : conn_Conn_begin.B0 c st iss w   R) :
    KW Tryz.prog 66 32 (conn_Conn_begin.RV R) ([(0, [])].map (toItem (Tryz.f66.body.getD .skip))) [(0, .pointer c), (1, .int .i64 st), (2, .int .i64 iss)] w := by
  exact block_spec Tryz.func66 Tryz.mixed stops_nil (Eq.mp (conn_Conn_begin.B0_eq c st iss w   R ) h)
theorem conn_Conn_begin.sound (c : Option Addr) (st iss : Int) (w : World) (R : World → Prop) (h : conn_Conn_begin.B0 c st iss w R) : conn_Conn_begin.Call c st iss w R := by
  have hc := calls_of_block (args := #[.pointer c, .int .i64 st, .int .i64 iss]) Tryz.func66 (body := (Tryz.f66.body.getD .skip)) (by kernel_rfl) (by kernel_rfl) (args_slot _) (conn_Conn_begin.B0_sound c st iss w h)
  exact hc.mono fun e w' he => by
    obtain ⟨v, rfl, hv⟩ := he
    exact conn_Conn_begin.RV_elim hv
def conn_Conn_again.B0 (c : Option Addr) (w : World)   (R : Int → Int → Int → Int → Int → Int → Option Addr → Nat → Nat → World → Prop) : Prop :=
  New (.cells #[.int .i64 (0 : Int), .int .i64 (0 : Int), .int .i64 (0 : Int), .int .i64 (0 : Int), .int .i64 (0 : Int), .int .i64 (0 : Int), .slice none 0 0] 45) w fun b2 w1 =>
  Pn c fun a =>
  LdI .i64 (a.add 2) w1 fun x8 =>
  Bm (x8 == (1 : Int)) (
    Pn c fun a_1 =>
    LdI .i64 (a_1.add 8) w1 fun x14 =>
    conn_Conn_mk.Call c (1 : Int) x14 none 0 0 w1 fun r15_0 r15_1 r15_2 r15_3 r15_4 r15_5 r15_6_b r15_6_l r15_6_c w2 =>
    Sts [.int .i64 r15_0, .int .i64 r15_1, .int .i64 r15_2, .int .i64 r15_3, .int .i64 r15_4, .int .i64 r15_5, .slice r15_6_b r15_6_l r15_6_c] ⟨b2, 0, none⟩ 0 w2 fun w3 =>
    LdI .i64 ⟨b2, 0, none⟩ w3 fun r_0 =>
    LdI .i64 ⟨b2, 1, none⟩ w3 fun r_1 =>
    LdI .i64 ⟨b2, 2, none⟩ w3 fun r_2 =>
    LdI .i64 ⟨b2, 3, none⟩ w3 fun r_3 =>
    LdI .i64 ⟨b2, 4, none⟩ w3 fun r_4 =>
    LdI .i64 ⟨b2, 5, none⟩ w3 fun r_5 =>
    LdL ⟨b2, 6, none⟩ w3 fun r_6_b r_6_l r_6_c =>
    R r_0 r_1 r_2 r_3 r_4 r_5 r_6_b r_6_l r_6_c w3) (
    Pn c fun a_2 =>
    LdI .i64 (a_2.add 2) w1 fun x19 =>
    Bm (x19 == (2 : Int)) (
      Pn c fun a_3 =>
      LdI .i64 (a_3.add 8) w1 fun x25 =>
      conn_Conn_mk.Call c (3 : Int) x25 none 0 0 w1 fun r26_0 r26_1 r26_2 r26_3 r26_4 r26_5 r26_6_b r26_6_l r26_6_c w4 =>
      Sts [.int .i64 r26_0, .int .i64 r26_1, .int .i64 r26_2, .int .i64 r26_3, .int .i64 r26_4, .int .i64 r26_5, .slice r26_6_b r26_6_l r26_6_c] ⟨b2, 0, none⟩ 0 w4 fun w5 =>
      LdI .i64 ⟨b2, 0, none⟩ w5 fun r_0_1 =>
      LdI .i64 ⟨b2, 1, none⟩ w5 fun r_1_1 =>
      LdI .i64 ⟨b2, 2, none⟩ w5 fun r_2_1 =>
      LdI .i64 ⟨b2, 3, none⟩ w5 fun r_3_1 =>
      LdI .i64 ⟨b2, 4, none⟩ w5 fun r_4_1 =>
      LdI .i64 ⟨b2, 5, none⟩ w5 fun r_5_1 =>
      LdL ⟨b2, 6, none⟩ w5 fun r_6_b_1 r_6_l_1 r_6_c_1 =>
      R r_0_1 r_1_1 r_2_1 r_3_1 r_4_1 r_5_1 r_6_b_1 r_6_l_1 r_6_c_1 w5) (
      Pn c fun a_4 =>
      LdP a_4 w1 fun x31 =>
      seg_SendBuf_Again.Call x31 (12 : Int) w1 fun r32_0 r32_1_b r32_1_l r32_1_c w6 =>
      Bm (decide (((r32_1_l : Nat) : Int) > (0 : Int))) (
        conn_Conn_mk.Call c (2 : Int) r32_0 r32_1_b r32_1_l r32_1_c w6 fun r41_0 r41_1 r41_2 r41_3 r41_4 r41_5 r41_6_b r41_6_l r41_6_c w7 =>
        Sts [.int .i64 r41_0, .int .i64 r41_1, .int .i64 r41_2, .int .i64 r41_3, .int .i64 r41_4, .int .i64 r41_5, .slice r41_6_b r41_6_l r41_6_c] ⟨b2, 0, none⟩ 0 w7 fun w8 =>
        LdI .i64 ⟨b2, 0, none⟩ w8 fun r_0_2 =>
        LdI .i64 ⟨b2, 1, none⟩ w8 fun r_1_2 =>
        LdI .i64 ⟨b2, 2, none⟩ w8 fun r_2_2 =>
        LdI .i64 ⟨b2, 3, none⟩ w8 fun r_3_2 =>
        LdI .i64 ⟨b2, 4, none⟩ w8 fun r_4_2 =>
        LdI .i64 ⟨b2, 5, none⟩ w8 fun r_5_2 =>
        LdL ⟨b2, 6, none⟩ w8 fun r_6_b_2 r_6_l_2 r_6_c_2 =>
        R r_0_2 r_1_2 r_2_2 r_3_2 r_4_2 r_5_2 r_6_b_2 r_6_l_2 r_6_c_2 w8) (
        conn_Conn_mk.Call c (6 : Int) r32_0 none 0 0 w6 fun r44_0 r44_1 r44_2 r44_3 r44_4 r44_5 r44_6_b r44_6_l r44_6_c w9 =>
        Sts [.int .i64 r44_0, .int .i64 r44_1, .int .i64 r44_2, .int .i64 r44_3, .int .i64 r44_4, .int .i64 r44_5, .slice r44_6_b r44_6_l r44_6_c] ⟨b2, 0, none⟩ 0 w9 fun w10 =>
        LdI .i64 ⟨b2, 0, none⟩ w10 fun r_0_3 =>
        LdI .i64 ⟨b2, 1, none⟩ w10 fun r_1_3 =>
        LdI .i64 ⟨b2, 2, none⟩ w10 fun r_2_3 =>
        LdI .i64 ⟨b2, 3, none⟩ w10 fun r_3_3 =>
        LdI .i64 ⟨b2, 4, none⟩ w10 fun r_4_3 =>
        LdI .i64 ⟨b2, 5, none⟩ w10 fun r_5_3 =>
        LdL ⟨b2, 6, none⟩ w10 fun r_6_b_3 r_6_l_3 r_6_c_3 =>
        R r_0_3 r_1_3 r_2_3 r_3_3 r_4_3 r_5_3 r_6_b_3 r_6_l_3 r_6_c_3 w10)))
theorem conn_Conn_again.B0_eq (c : Option Addr) (w : World)   (R : Int → Int → Int → Int → Int → Int → Option Addr → Nat → Nat → World → Prop)  :
    (
  New (.cells #[.int .i64 (0 : Int), .int .i64 (0 : Int), .int .i64 (0 : Int), .int .i64 (0 : Int), .int .i64 (0 : Int), .int .i64 (0 : Int), .slice none 0 0] 45) w fun b2 w1 =>
  Pn c fun a =>
  LdI .i64 (a.add 2) w1 fun x8 =>
  Bm (x8 == (1 : Int)) (
    Pn c fun a_1 =>
    LdI .i64 (a_1.add 8) w1 fun x14 =>
    conn_Conn_mk.Call c (1 : Int) x14 none 0 0 w1 fun r15_0 r15_1 r15_2 r15_3 r15_4 r15_5 r15_6_b r15_6_l r15_6_c w2 =>
    Sts [.int .i64 r15_0, .int .i64 r15_1, .int .i64 r15_2, .int .i64 r15_3, .int .i64 r15_4, .int .i64 r15_5, .slice r15_6_b r15_6_l r15_6_c] ⟨b2, 0, none⟩ 0 w2 fun w3 =>
    LdI .i64 ⟨b2, 0, none⟩ w3 fun r_0 =>
    LdI .i64 ⟨b2, 1, none⟩ w3 fun r_1 =>
    LdI .i64 ⟨b2, 2, none⟩ w3 fun r_2 =>
    LdI .i64 ⟨b2, 3, none⟩ w3 fun r_3 =>
    LdI .i64 ⟨b2, 4, none⟩ w3 fun r_4 =>
    LdI .i64 ⟨b2, 5, none⟩ w3 fun r_5 =>
    LdL ⟨b2, 6, none⟩ w3 fun r_6_b r_6_l r_6_c =>
    R r_0 r_1 r_2 r_3 r_4 r_5 r_6_b r_6_l r_6_c w3) (
    Pn c fun a_2 =>
    LdI .i64 (a_2.add 2) w1 fun x19 =>
    Bm (x19 == (2 : Int)) (
      Pn c fun a_3 =>
      LdI .i64 (a_3.add 8) w1 fun x25 =>
      conn_Conn_mk.Call c (3 : Int) x25 none 0 0 w1 fun r26_0 r26_1 r26_2 r26_3 r26_4 r26_5 r26_6_b r26_6_l r26_6_c w4 =>
      Sts [.int .i64 r26_0, .int .i64 r26_1, .int .i64 r26_2, .int .i64 r26_3, .int .i64 r26_4, .int .i64 r26_5, .slice r26_6_b r26_6_l r26_6_c] ⟨b2, 0, none⟩ 0 w4 fun w5 =>
      LdI .i64 ⟨b2, 0, none⟩ w5 fun r_0_1 =>
      LdI .i64 ⟨b2, 1, none⟩ w5 fun r_1_1 =>
      LdI .i64 ⟨b2, 2, none⟩ w5 fun r_2_1 =>
      LdI .i64 ⟨b2, 3, none⟩ w5 fun r_3_1 =>
      LdI .i64 ⟨b2, 4, none⟩ w5 fun r_4_1 =>
      LdI .i64 ⟨b2, 5, none⟩ w5 fun r_5_1 =>
      LdL ⟨b2, 6, none⟩ w5 fun r_6_b_1 r_6_l_1 r_6_c_1 =>
      R r_0_1 r_1_1 r_2_1 r_3_1 r_4_1 r_5_1 r_6_b_1 r_6_l_1 r_6_c_1 w5) (
      Pn c fun a_4 =>
      LdP a_4 w1 fun x31 =>
      seg_SendBuf_Again.Call x31 (12 : Int) w1 fun r32_0 r32_1_b r32_1_l r32_1_c w6 =>
      Bm (decide (((r32_1_l : Nat) : Int) > (0 : Int))) (
        conn_Conn_mk.Call c (2 : Int) r32_0 r32_1_b r32_1_l r32_1_c w6 fun r41_0 r41_1 r41_2 r41_3 r41_4 r41_5 r41_6_b r41_6_l r41_6_c w7 =>
        Sts [.int .i64 r41_0, .int .i64 r41_1, .int .i64 r41_2, .int .i64 r41_3, .int .i64 r41_4, .int .i64 r41_5, .slice r41_6_b r41_6_l r41_6_c] ⟨b2, 0, none⟩ 0 w7 fun w8 =>
        LdI .i64 ⟨b2, 0, none⟩ w8 fun r_0_2 =>
        LdI .i64 ⟨b2, 1, none⟩ w8 fun r_1_2 =>
        LdI .i64 ⟨b2, 2, none⟩ w8 fun r_2_2 =>
        LdI .i64 ⟨b2, 3, none⟩ w8 fun r_3_2 =>
        LdI .i64 ⟨b2, 4, none⟩ w8 fun r_4_2 =>
        LdI .i64 ⟨b2, 5, none⟩ w8 fun r_5_2 =>
        LdL ⟨b2, 6, none⟩ w8 fun r_6_b_2 r_6_l_2 r_6_c_2 =>
        R r_0_2 r_1_2 r_2_2 r_3_2 r_4_2 r_5_2 r_6_b_2 r_6_l_2 r_6_c_2 w8) (
        conn_Conn_mk.Call c (6 : Int) r32_0 none 0 0 w6 fun r44_0 r44_1 r44_2 r44_3 r44_4 r44_5 r44_6_b r44_6_l r44_6_c w9 =>
        Sts [.int .i64 r44_0, .int .i64 r44_1, .int .i64 r44_2, .int .i64 r44_3, .int .i64 r44_4, .int .i64 r44_5, .slice r44_6_b r44_6_l r44_6_c] ⟨b2, 0, none⟩ 0 w9 fun w10 =>
        LdI .i64 ⟨b2, 0, none⟩ w10 fun r_0_3 =>
        LdI .i64 ⟨b2, 1, none⟩ w10 fun r_1_3 =>
        LdI .i64 ⟨b2, 2, none⟩ w10 fun r_2_3 =>
        LdI .i64 ⟨b2, 3, none⟩ w10 fun r_3_3 =>
        LdI .i64 ⟨b2, 4, none⟩ w10 fun r_4_3 =>
        LdI .i64 ⟨b2, 5, none⟩ w10 fun r_5_3 =>
        LdL ⟨b2, 6, none⟩ w10 fun r_6_b_3 r_6_l_3 r_6_c_3 =>
        R r_0_3 r_1_3 r_2_3 r_3_3 r_4_3 r_5_3 r_6_b_3 r_6_l_3 r_6_c_3 w10)))) = kstep Tryz.prog 45 Tryz.f67.results.toList (Tryz.f67.body.getD .skip) (conn_Conn_again.RV R) (kvc Tryz.prog 45 Tryz.f67.results.toList (Tryz.f67.body.getD .skip) (conn_Conn_again.RV R) [] 2000) [(0, [])] [(0, .pointer c)] w := by kernel_rfl
theorem conn_Conn_again.B0_sound {R : Int → Int → Int → Int → Int → Int → Option Addr → Nat → Nat → World → Prop}  (c : Option Addr) (w : World) (h : conn_Conn_again.B0 c w   R) :
    KW Tryz.prog 67 45 (conn_Conn_again.RV R) ([(0, [])].map (toItem (Tryz.f67.body.getD .skip))) [(0, .pointer c)] w := by
  exact block_spec Tryz.func67 Tryz.mixed stops_nil (Eq.mp (conn_Conn_again.B0_eq c w   R ) h)
theorem conn_Conn_again.sound (c : Option Addr) (w : World) (R : Int → Int → Int → Int → Int → Int → Option Addr → Nat → Nat → World → Prop) (h : conn_Conn_again.B0 c w R) : conn_Conn_again.Call c w R := by
  have hc := calls_of_block (args := #[.pointer c]) Tryz.func67 (body := (Tryz.f67.body.getD .skip)) (by kernel_rfl) (by kernel_rfl) (args_slot _) (conn_Conn_again.B0_sound c w h)
  exact hc.mono fun e w' he => by
    obtain ⟨v, rfl, hv⟩ := he
    exact conn_Conn_again.RV_elim hv
def conn_one.B0 (s_0 s_1 s_2 s_3 s_4 s_5 : Int) (s_6_b : Option Addr) (s_6_l s_6_c : Nat) (w : World)   (R : Option Addr → Nat → Nat → World → Prop) : Prop :=
  New (.cells #[.int .i64 s_0, .int .i64 s_1, .int .i64 s_2, .int .i64 s_3, .int .i64 s_4, .int .i64 s_5, .slice s_6_b s_6_l s_6_c] 45) w fun s_ w1 =>
  LdI .i64 ⟨s_, 0, none⟩ w1 fun x3_0 =>
  LdI .i64 ⟨s_, 1, none⟩ w1 fun x3_1 =>
  LdI .i64 ⟨s_, 2, none⟩ w1 fun x3_2 =>
  LdI .i64 ⟨s_, 3, none⟩ w1 fun x3_3 =>
  LdI .i64 ⟨s_, 4, none⟩ w1 fun x3_4 =>
  LdI .i64 ⟨s_, 5, none⟩ w1 fun x3_5 =>
  LdL ⟨s_, 6, none⟩ w1 fun x3_6_b x3_6_l x3_6_c =>
  New (.cells #[.int .i64 x3_0, .int .i64 x3_1, .int .i64 x3_2, .int .i64 x3_3, .int .i64 x3_4, .int .i64 x3_5, .slice x3_6_b x3_6_l x3_6_c] 45) w1 fun b4 w2 =>
  R (some ⟨b4, 0, none⟩) 1 1 w2
theorem conn_one.B0_eq (s_0 s_1 s_2 s_3 s_4 s_5 : Int) (s_6_b : Option Addr) (s_6_l s_6_c : Nat) (w : World)   (R : Option Addr → Nat → Nat → World → Prop)  :
    (
  New (.cells #[.int .i64 s_0, .int .i64 s_1, .int .i64 s_2, .int .i64 s_3, .int .i64 s_4, .int .i64 s_5, .slice s_6_b s_6_l s_6_c] 45) w fun s_ w1 =>
  LdI .i64 ⟨s_, 0, none⟩ w1 fun x3_0 =>
  LdI .i64 ⟨s_, 1, none⟩ w1 fun x3_1 =>
  LdI .i64 ⟨s_, 2, none⟩ w1 fun x3_2 =>
  LdI .i64 ⟨s_, 3, none⟩ w1 fun x3_3 =>
  LdI .i64 ⟨s_, 4, none⟩ w1 fun x3_4 =>
  LdI .i64 ⟨s_, 5, none⟩ w1 fun x3_5 =>
  LdL ⟨s_, 6, none⟩ w1 fun x3_6_b x3_6_l x3_6_c =>
  New (.cells #[.int .i64 x3_0, .int .i64 x3_1, .int .i64 x3_2, .int .i64 x3_3, .int .i64 x3_4, .int .i64 x3_5, .slice x3_6_b x3_6_l x3_6_c] 45) w1 fun b4 w2 =>
  R (some ⟨b4, 0, none⟩) 1 1 w2) = kstep Tryz.prog 5 Tryz.f68.results.toList (Tryz.f68.body.getD .skip) (conn_one.RV R) (kvc Tryz.prog 5 Tryz.f68.results.toList (Tryz.f68.body.getD .skip) (conn_one.RV R) [] 2000) [(0, [])] [(0, .agg #[.int .i64 s_0, .int .i64 s_1, .int .i64 s_2, .int .i64 s_3, .int .i64 s_4, .int .i64 s_5, .slice s_6_b s_6_l s_6_c])] w := by kernel_rfl
theorem conn_one.B0_sound {R : Option Addr → Nat → Nat → World → Prop}  (s_0 s_1 s_2 s_3 s_4 s_5 : Int) (s_6_b : Option Addr) (s_6_l s_6_c : Nat) (w : World) (h : conn_one.B0 s_0 s_1 s_2 s_3 s_4 s_5 s_6_b s_6_l s_6_c w   R) :
    KW Tryz.prog 68 5 (conn_one.RV R) ([(0, [])].map (toItem (Tryz.f68.body.getD .skip))) [(0, .agg #[.int .i64 s_0, .int .i64 s_1, .int .i64 s_2, .int .i64 s_3, .int .i64 s_4, .int .i64 s_5, .slice s_6_b s_6_l s_6_c])] w := by
  exact block_spec Tryz.func68 Tryz.mixed stops_nil (Eq.mp (conn_one.B0_eq s_0 s_1 s_2 s_3 s_4 s_5 s_6_b s_6_l s_6_c w   R ) h)
theorem conn_one.sound (s_0 s_1 s_2 s_3 s_4 s_5 : Int) (s_6_b : Option Addr) (s_6_l s_6_c : Nat) (w : World) (R : Option Addr → Nat → Nat → World → Prop) (h : conn_one.B0 s_0 s_1 s_2 s_3 s_4 s_5 s_6_b s_6_l s_6_c w R) : conn_one.Call s_0 s_1 s_2 s_3 s_4 s_5 s_6_b s_6_l s_6_c w R := by
  have hc := calls_of_block (args := #[.agg #[.int .i64 s_0, .int .i64 s_1, .int .i64 s_2, .int .i64 s_3, .int .i64 s_4, .int .i64 s_5, .slice s_6_b s_6_l s_6_c]]) Tryz.func68 (body := (Tryz.f68.body.getD .skip)) (by kernel_rfl) (by kernel_rfl) (args_slot _) (conn_one.B0_sound s_0 s_1 s_2 s_3 s_4 s_5 s_6_b s_6_l s_6_c w h)
  exact hc.mono fun e w' he => by
    obtain ⟨v, rfl, hv⟩ := he
    exact conn_one.RV_elim hv
def connm_Conn_wipe.L1b (c : Option Addr) (k : Int) (w : World)  (N1 : Option Addr → Int → World → Prop) (R : World → Prop) : Prop :=
  Bm (decide (k < (16 : Int))) (
    Pn c fun a =>
    (0 ≤ k ∧ k < ((16 : Nat) : Int)) ∧
    Pn c fun a_1 =>
    Sts [.bool false] (Addr.add (a.add 12) (k.toNat * 1)) 0 w.drew fun w1 =>
    (0 ≤ k ∧ k < ((16 : Nat) : Int)) ∧
    Sts [.int .u8 (0 : Int)] (Addr.add (a_1.add 28) (k.toNat * 1)) 0 w1 fun w2 =>
    N1 c (IntKind.i64.wrap (k + (1 : Int))) w2) (
    Pn c fun a_2 =>
    Sts [.int .i64 (0 : Int)] (a_2.add 44) 0 w fun w3 =>
    Pn c fun a_3 =>
    Sts [.int .i64 (0 : Int)] (a_3.add 45) 0 w3 fun w4 =>
    Pn c fun a_4 =>
    Sts [.int .i64 (0 : Int)] (a_4.add 46) 0 w4 fun w5 =>
    Pn c fun a_5 =>
    Sts [.int .i64 (0 : Int)] (a_5.add 47) 0 w5 fun w6 =>
    Pn c fun a_6 =>
    Sts [.int .i64 (0 : Int)] (a_6.add 48) 0 w6 fun w7 =>
    R  w7)
theorem connm_Conn_wipe.L1b_eq (c : Option Addr) (k : Int) (w : World)  (N1 : Option Addr → Int → World → Prop) (R : World → Prop)  :
    (
  Bm (decide (k < (16 : Int))) (
    Pn c fun a =>
    (0 ≤ k ∧ k < ((16 : Nat) : Int)) ∧
    Pn c fun a_1 =>
    Sts [.bool false] (Addr.add (a.add 12) (k.toNat * 1)) 0 w.drew fun w1 =>
    (0 ≤ k ∧ k < ((16 : Nat) : Int)) ∧
    Sts [.int .u8 (0 : Int)] (Addr.add (a_1.add 28) (k.toNat * 1)) 0 w1 fun w2 =>
    N1 c (IntKind.i64.wrap (k + (1 : Int))) w2) (
    Pn c fun a_2 =>
    Sts [.int .i64 (0 : Int)] (a_2.add 44) 0 w fun w3 =>
    Pn c fun a_3 =>
    Sts [.int .i64 (0 : Int)] (a_3.add 45) 0 w3 fun w4 =>
    Pn c fun a_4 =>
    Sts [.int .i64 (0 : Int)] (a_4.add 46) 0 w4 fun w5 =>
    Pn c fun a_5 =>
    Sts [.int .i64 (0 : Int)] (a_5.add 47) 0 w5 fun w6 =>
    Pn c fun a_6 =>
    Sts [.int .i64 (0 : Int)] (a_6.add 48) 0 w6 fun w7 =>
    R  w7)) = kstep Tryz.prog 68 Tryz.f69.results.toList (Tryz.f69.body.getD .skip) (connm_Conn_wipe.RV R) (kvc Tryz.prog 68 Tryz.f69.results.toList (Tryz.f69.body.getD .skip) (connm_Conn_wipe.RV R) [([(0, [1, 1, 1, 1, 0, 1, 0, 0]), (2, [1, 1, 1, 1, 0, 1, 0, 0]), (1, [0]), (0, [1, 1, 1, 1, 1])], fun σ w => dP (slotOf σ 0) fun c_ => dI .i64 (slotOf σ 2) fun k_ => N1 c_ k_ w)] 2000) [(0, [1, 1, 1, 1, 0, 1, 0, 0]), (2, [1, 1, 1, 1, 0, 1, 0, 0]), (1, [0]), (0, [1, 1, 1, 1, 1])] [(0, .pointer c), (2, .int .i64 k)] w := by kernel_rfl
theorem connm_Conn_wipe.L1b_sound {R : World → Prop} {N1 : Option Addr → Int → World → Prop} (hN1 : ∀ c k w, N1 c k w → KW Tryz.prog 69 68 (connm_Conn_wipe.RV R) ([(0, [1, 1, 1, 1, 0, 1, 0, 0]), (2, [1, 1, 1, 1, 0, 1, 0, 0]), (1, [0]), (0, [1, 1, 1, 1, 1])].map (toItem (Tryz.f69.body.getD .skip))) [(0, .pointer c), (2, .int .i64 k)] w) (c : Option Addr) (k : Int) (w : World) (h : connm_Conn_wipe.L1b c k w  N1 R) :
    KW Tryz.prog 69 68 (connm_Conn_wipe.RV R) ([(0, [1, 1, 1, 1, 0, 1, 0, 0]), (2, [1, 1, 1, 1, 0, 1, 0, 0]), (1, [0]), (0, [1, 1, 1, 1, 1])].map (toItem (Tryz.f69.body.getD .skip))) [(0, .pointer c), (2, .int .i64 k)] w := by
  exact block_spec Tryz.func69 Tryz.mixed (stops_cons (fun σ w h => by
      obtain ⟨c_, e0, h⟩ := dP_elim h
      obtain ⟨k_, e1, h⟩ := dI_elim h
      exact (hN1 c_ k_ w h).weaken (Sub.cons (Sub.cons (Sub.nil _) e1) e0)) stops_nil) (Eq.mp (connm_Conn_wipe.L1b_eq c k w  N1 R ) h)
def connm_Conn_wipe.L1 (c : Option Addr) (k : Int) (w : World)  (R : World → Prop) : Prop :=
  ∃ (I : Nat → Option Addr → Int → World → Prop) (m : Nat), I m c k w ∧ ∀ m c k w, I m c k w → connm_Conn_wipe.L1b c k w  (fun c' k' w' => ∃ m', m' < m ∧ I m' c' k' w') R
theorem connm_Conn_wipe.L1_sound {R : World → Prop}  (c : Option Addr) (k : Int) (w : World) (h : connm_Conn_wipe.L1 c k w  R) :
    KW Tryz.prog 69 68 (connm_Conn_wipe.RV R) ([(0, [1, 1, 1, 1, 0, 1, 0, 0]), (2, [1, 1, 1, 1, 0, 1, 0, 0]), (1, [0]), (0, [1, 1, 1, 1, 1])].map (toItem (Tryz.f69.body.getD .skip))) [(0, .pointer c), (2, .int .i64 k)] w := by
  obtain ⟨I, m, hBase, hr⟩ := h
  refine KW.loop (fun m σ w => ∃ (c : Option Addr) (k : Int), σ = [(0, .pointer c), (2, .int .i64 k)] ∧ I m c k w) ?_ m _ w ⟨c, k, rfl, hBase⟩
  rintro m ih σ w ⟨c, k, rfl, hI⟩
  exact connm_Conn_wipe.L1b_sound  (N1 := fun c' k' w' => ∃ m', m' < m ∧ I m' c' k' w') (fun c' k' w' hx => by obtain ⟨m', hlt, hI'⟩ := hx; exact ih m' hlt _ w' ⟨c', k', rfl, hI'⟩) c k w (hr m c k w hI)
def connm_Conn_wipe.B0 (c : Option Addr) (w : World)   (R : World → Prop) : Prop :=
  Pn c fun a =>
  Sts [.int .i64 (0 : Int)] a 0 w fun w1 =>
  Pn c fun a_1 =>
  Sts [.int .i64 (0 : Int)] (a_1.add 1) 0 w1 fun w2 =>
  Pn c fun a_2 =>
  Sts [.bool false] (a_2.add 2) 0 w2 fun w3 =>
  Pn c fun a_3 =>
  Sts [.bool false] (a_3.add 3) 0 w3 fun w4 =>
  Pn c fun a_4 =>
  Sts [.bool false] (a_4.add 4) 0 w4 fun w5 =>
  Pn c fun a_5 =>
  Sts [.bool false] (a_5.add 5) 0 w5 fun w6 =>
  Pn c fun a_6 =>
  Sts [.int .i64 (0 : Int)] (a_6.add 6) 0 w6 fun w7 =>
  Pn c fun a_7 =>
  Sts [.int .i64 (0 : Int)] (a_7.add 7) 0 w7 fun w8 =>
  Pn c fun a_8 =>
  Sts [.int .i64 (0 : Int)] (a_8.add 9) 0 w8 fun w9 =>
  Pn c fun a_9 =>
  Sts [.int .i64 (0 : Int)] (a_9.add 10) 0 w9 fun w10 =>
  Pn c fun a_10 =>
  Sts [.slice none 0 0] (a_10.add 8) 0 w10 fun w11 =>
  Pn c fun a_11 =>
  Sts [.slice none 0 0] (a_11.add 11) 0 w11 fun w12 =>
  connm_Conn_wipe.L1 c (0 : Int) w12  R
theorem connm_Conn_wipe.B0_eq (c : Option Addr) (w : World)   (R : World → Prop) (sL1 : Option Addr → Int → World → Prop) :
    (
  Pn c fun a =>
  Sts [.int .i64 (0 : Int)] a 0 w fun w1 =>
  Pn c fun a_1 =>
  Sts [.int .i64 (0 : Int)] (a_1.add 1) 0 w1 fun w2 =>
  Pn c fun a_2 =>
  Sts [.bool false] (a_2.add 2) 0 w2 fun w3 =>
  Pn c fun a_3 =>
  Sts [.bool false] (a_3.add 3) 0 w3 fun w4 =>
  Pn c fun a_4 =>
  Sts [.bool false] (a_4.add 4) 0 w4 fun w5 =>
  Pn c fun a_5 =>
  Sts [.bool false] (a_5.add 5) 0 w5 fun w6 =>
  Pn c fun a_6 =>
  Sts [.int .i64 (0 : Int)] (a_6.add 6) 0 w6 fun w7 =>
  Pn c fun a_7 =>
  Sts [.int .i64 (0 : Int)] (a_7.add 7) 0 w7 fun w8 =>
  Pn c fun a_8 =>
  Sts [.int .i64 (0 : Int)] (a_8.add 9) 0 w8 fun w9 =>
  Pn c fun a_9 =>
  Sts [.int .i64 (0 : Int)] (a_9.add 10) 0 w9 fun w10 =>
  Pn c fun a_10 =>
  Sts [.slice none 0 0] (a_10.add 8) 0 w10 fun w11 =>
  Pn c fun a_11 =>
  Sts [.slice none 0 0] (a_11.add 11) 0 w11 fun w12 =>
  sL1 c (0 : Int) w12) = kstep Tryz.prog 68 Tryz.f69.results.toList (Tryz.f69.body.getD .skip) (connm_Conn_wipe.RV R) (kvc Tryz.prog 68 Tryz.f69.results.toList (Tryz.f69.body.getD .skip) (connm_Conn_wipe.RV R) [([(0, [1, 1, 1, 1, 0, 1, 0, 0]), (2, [1, 1, 1, 1, 0, 1, 0, 0]), (1, [0]), (0, [1, 1, 1, 1, 1])], fun σ w => dP (slotOf σ 0) fun c_ => dI .i64 (slotOf σ 2) fun k_ => sL1 c_ k_ w)] 2000) [(0, [])] [(0, .pointer c)] w := by kernel_rfl
theorem connm_Conn_wipe.B0_sound {R : World → Prop}  (c : Option Addr) (w : World) (h : connm_Conn_wipe.B0 c w   R) :
    KW Tryz.prog 69 68 (connm_Conn_wipe.RV R) ([(0, [])].map (toItem (Tryz.f69.body.getD .skip))) [(0, .pointer c)] w := by
  exact block_spec Tryz.func69 Tryz.mixed (stops_cons (fun σ w h => by
      obtain ⟨c_, e0, h⟩ := dP_elim h
      obtain ⟨k_, e1, h⟩ := dI_elim h
      exact (connm_Conn_wipe.L1_sound  c_ k_ w h).weaken (Sub.cons (Sub.cons (Sub.nil _) e1) e0)) stops_nil) (Eq.mp (connm_Conn_wipe.B0_eq c w   R (fun c_ k_ w => connm_Conn_wipe.L1 c_ k_ w  R)) h)
theorem connm_Conn_wipe.sound (c : Option Addr) (w : World) (R : World → Prop) (h : connm_Conn_wipe.B0 c w R) : connm_Conn_wipe.Call c w R := by
  have hc := calls_of_block (args := #[.pointer c]) Tryz.func69 (body := (Tryz.f69.body.getD .skip)) (by kernel_rfl) (by kernel_rfl) (args_slot _) (connm_Conn_wipe.B0_sound c w h)
  exact hc.mono fun e w' he => by
    obtain ⟨v, rfl, hv⟩ := he
    exact connm_Conn_wipe.RV_elim hv
def connm_Conn_again.B1 (c : Option Addr) (t2 : Nat) (n : Int) (w : World)   (R : Int → Int → Int → Int → Int → Int → Option Addr → Nat → Nat → World → Prop) : Prop :=
  Pn c fun a =>
  LdI .i64 (a.add 7) w.drew fun x41 =>
  Pn c fun a_1 =>
  LdL (a_1.add 8) w.drew fun x45_b x45_l x45_c =>
  (0 ≤ n ∧ n ≤ ((x45_c : Nat) : Int)) ∧
  connm_Conn_mk.Call c (2 : Int) x41 (slBase x45_b ((0 : Nat) : Int) ((x45_c : Nat) : Int) 1) (n.toNat - ((0 : Nat) : Int).toNat) (((x45_c : Nat) : Int).toNat - ((0 : Nat) : Int).toNat) w.drew fun r48_0 r48_1 r48_2 r48_3 r48_4 r48_5 r48_6_b r48_6_l r48_6_c w1 =>
  Sts [.int .i64 r48_0, .int .i64 r48_1, .int .i64 r48_2, .int .i64 r48_3, .int .i64 r48_4, .int .i64 r48_5, .slice r48_6_b r48_6_l r48_6_c] ⟨t2, 0, none⟩ 0 w1 fun w2 =>
  LdI .i64 ⟨t2, 0, none⟩ w2 fun r_0 =>
  LdI .i64 ⟨t2, 1, none⟩ w2 fun r_1 =>
  LdI .i64 ⟨t2, 2, none⟩ w2 fun r_2 =>
  LdI .i64 ⟨t2, 3, none⟩ w2 fun r_3 =>
  LdI .i64 ⟨t2, 4, none⟩ w2 fun r_4 =>
  LdI .i64 ⟨t2, 5, none⟩ w2 fun r_5 =>
  LdL ⟨t2, 6, none⟩ w2 fun r_6_b r_6_l r_6_c =>
  R r_0 r_1 r_2 r_3 r_4 r_5 r_6_b r_6_l r_6_c w2
theorem connm_Conn_again.B1_eq (c : Option Addr) (t2 : Nat) (n : Int) (w : World)   (R : Int → Int → Int → Int → Int → Int → Option Addr → Nat → Nat → World → Prop)  :
    (
  Pn c fun a =>
  LdI .i64 (a.add 7) w.drew fun x41 =>
  Pn c fun a_1 =>
  LdL (a_1.add 8) w.drew fun x45_b x45_l x45_c =>
  (0 ≤ n ∧ n ≤ ((x45_c : Nat) : Int)) ∧
  connm_Conn_mk.Call c (2 : Int) x41 (slBase x45_b ((0 : Nat) : Int) ((x45_c : Nat) : Int) 1) (n.toNat - ((0 : Nat) : Int).toNat) (((x45_c : Nat) : Int).toNat - ((0 : Nat) : Int).toNat) w.drew fun r48_0 r48_1 r48_2 r48_3 r48_4 r48_5 r48_6_b r48_6_l r48_6_c w1 =>
  Sts [.int .i64 r48_0, .int .i64 r48_1, .int .i64 r48_2, .int .i64 r48_3, .int .i64 r48_4, .int .i64 r48_5, .slice r48_6_b r48_6_l r48_6_c] ⟨t2, 0, none⟩ 0 w1 fun w2 =>
  LdI .i64 ⟨t2, 0, none⟩ w2 fun r_0 =>
  LdI .i64 ⟨t2, 1, none⟩ w2 fun r_1 =>
  LdI .i64 ⟨t2, 2, none⟩ w2 fun r_2 =>
  LdI .i64 ⟨t2, 3, none⟩ w2 fun r_3 =>
  LdI .i64 ⟨t2, 4, none⟩ w2 fun r_4 =>
  LdI .i64 ⟨t2, 5, none⟩ w2 fun r_5 =>
  LdL ⟨t2, 6, none⟩ w2 fun r_6_b r_6_l r_6_c =>
  R r_0 r_1 r_2 r_3 r_4 r_5 r_6_b r_6_l r_6_c w2) = kstep Tryz.prog 55 Tryz.f70.results.toList (Tryz.f70.body.getD .skip) (connm_Conn_again.RV R) (kvc Tryz.prog 55 Tryz.f70.results.toList (Tryz.f70.body.getD .skip) (connm_Conn_again.RV R) [] 2000) [(0, [1, 1, 1, 0, 1, 0, 1, 1]), (0, [1, 1, 1, 1])] [(0, .pointer c), (2, .pointer (some ⟨t2, 0, none⟩)), (3, .int .i64 n)] w := by kernel_rfl
theorem connm_Conn_again.B1_sound {R : Int → Int → Int → Int → Int → Int → Option Addr → Nat → Nat → World → Prop}  (c : Option Addr) (t2 : Nat) (n : Int) (w : World) (h : connm_Conn_again.B1 c t2 n w   R) :
    KW Tryz.prog 70 55 (connm_Conn_again.RV R) ([(0, [1, 1, 1, 0, 1, 0, 1, 1]), (0, [1, 1, 1, 1])].map (toItem (Tryz.f70.body.getD .skip))) [(0, .pointer c), (2, .pointer (some ⟨t2, 0, none⟩)), (3, .int .i64 n)] w := by
  exact block_spec Tryz.func70 Tryz.mixed stops_nil (Eq.mp (connm_Conn_again.B1_eq c t2 n w   R ) h)
def connm_Conn_again.B0 (c : Option Addr) (w : World)   (R : Int → Int → Int → Int → Int → Int → Option Addr → Nat → Nat → World → Prop) : Prop :=
  New (.cells #[.int .i64 (0 : Int), .int .i64 (0 : Int), .int .i64 (0 : Int), .int .i64 (0 : Int), .int .i64 (0 : Int), .int .i64 (0 : Int), .slice none 0 0] 45) w fun b2 w1 =>
  Pn c fun a =>
  LdI .i64 a w1 fun x7 =>
  Bm (x7 == (1 : Int)) (
    Pn c fun a_1 =>
    LdI .i64 (a_1.add 6) w1 fun x13 =>
    connm_Conn_mk.Call c (1 : Int) x13 none 0 0 w1 fun r14_0 r14_1 r14_2 r14_3 r14_4 r14_5 r14_6_b r14_6_l r14_6_c w2 =>
    Sts [.int .i64 r14_0, .int .i64 r14_1, .int .i64 r14_2, .int .i64 r14_3, .int .i64 r14_4, .int .i64 r14_5, .slice r14_6_b r14_6_l r14_6_c] ⟨b2, 0, none⟩ 0 w2 fun w3 =>
    LdI .i64 ⟨b2, 0, none⟩ w3 fun r_0 =>
    LdI .i64 ⟨b2, 1, none⟩ w3 fun r_1 =>
    LdI .i64 ⟨b2, 2, none⟩ w3 fun r_2 =>
    LdI .i64 ⟨b2, 3, none⟩ w3 fun r_3 =>
    LdI .i64 ⟨b2, 4, none⟩ w3 fun r_4 =>
    LdI .i64 ⟨b2, 5, none⟩ w3 fun r_5 =>
    LdL ⟨b2, 6, none⟩ w3 fun r_6_b r_6_l r_6_c =>
    R r_0 r_1 r_2 r_3 r_4 r_5 r_6_b r_6_l r_6_c w3) (
    Pn c fun a_2 =>
    LdI .i64 a_2 w1 fun x18 =>
    Bm (x18 == (2 : Int)) (
      Pn c fun a_3 =>
      LdI .i64 (a_3.add 6) w1 fun x24 =>
      connm_Conn_mk.Call c (3 : Int) x24 none 0 0 w1 fun r25_0 r25_1 r25_2 r25_3 r25_4 r25_5 r25_6_b r25_6_l r25_6_c w4 =>
      Sts [.int .i64 r25_0, .int .i64 r25_1, .int .i64 r25_2, .int .i64 r25_3, .int .i64 r25_4, .int .i64 r25_5, .slice r25_6_b r25_6_l r25_6_c] ⟨b2, 0, none⟩ 0 w4 fun w5 =>
      LdI .i64 ⟨b2, 0, none⟩ w5 fun r_0_1 =>
      LdI .i64 ⟨b2, 1, none⟩ w5 fun r_1_1 =>
      LdI .i64 ⟨b2, 2, none⟩ w5 fun r_2_1 =>
      LdI .i64 ⟨b2, 3, none⟩ w5 fun r_3_1 =>
      LdI .i64 ⟨b2, 4, none⟩ w5 fun r_4_1 =>
      LdI .i64 ⟨b2, 5, none⟩ w5 fun r_5_1 =>
      LdL ⟨b2, 6, none⟩ w5 fun r_6_b_1 r_6_l_1 r_6_c_1 =>
      R r_0_1 r_1_1 r_2_1 r_3_1 r_4_1 r_5_1 r_6_b_1 r_6_l_1 r_6_c_1 w5) (
      Pn c fun a_4 =>
      LdI .i64 (a_4.add 9) w1 fun x29 =>
      Bm (decide (x29 > (0 : Int))) (
        Pn c fun a_5 =>
        LdI .i64 (a_5.add 9) w1 fun x34 =>
        Bm (decide (x34 > (12 : Int))) (
          connm_Conn_again.B1 c b2 (12 : Int) w1  R) (
          connm_Conn_again.B1 c b2 x34 w1  R)) (
        Pn c fun a_6 =>
        LdI .i64 (a_6.add 7) w1 fun x53 =>
        connm_Conn_mk.Call c (6 : Int) x53 none 0 0 w1 fun r54_0 r54_1 r54_2 r54_3 r54_4 r54_5 r54_6_b r54_6_l r54_6_c w6 =>
        Sts [.int .i64 r54_0, .int .i64 r54_1, .int .i64 r54_2, .int .i64 r54_3, .int .i64 r54_4, .int .i64 r54_5, .slice r54_6_b r54_6_l r54_6_c] ⟨b2, 0, none⟩ 0 w6 fun w7 =>
        LdI .i64 ⟨b2, 0, none⟩ w7 fun r_0_2 =>
        LdI .i64 ⟨b2, 1, none⟩ w7 fun r_1_2 =>
        LdI .i64 ⟨b2, 2, none⟩ w7 fun r_2_2 =>
        LdI .i64 ⟨b2, 3, none⟩ w7 fun r_3_2 =>
        LdI .i64 ⟨b2, 4, none⟩ w7 fun r_4_2 =>
        LdI .i64 ⟨b2, 5, none⟩ w7 fun r_5_2 =>
        LdL ⟨b2, 6, none⟩ w7 fun r_6_b_2 r_6_l_2 r_6_c_2 =>
        R r_0_2 r_1_2 r_2_2 r_3_2 r_4_2 r_5_2 r_6_b_2 r_6_l_2 r_6_c_2 w7)))
theorem connm_Conn_again.B0_eq (c : Option Addr) (w : World)   (R : Int → Int → Int → Int → Int → Int → Option Addr → Nat → Nat → World → Prop) (sB1 : Option Addr → Nat → Int → World → Prop) :
    (
  New (.cells #[.int .i64 (0 : Int), .int .i64 (0 : Int), .int .i64 (0 : Int), .int .i64 (0 : Int), .int .i64 (0 : Int), .int .i64 (0 : Int), .slice none 0 0] 45) w fun b2 w1 =>
  Pn c fun a =>
  LdI .i64 a w1 fun x7 =>
  Bm (x7 == (1 : Int)) (
    Pn c fun a_1 =>
    LdI .i64 (a_1.add 6) w1 fun x13 =>
    connm_Conn_mk.Call c (1 : Int) x13 none 0 0 w1 fun r14_0 r14_1 r14_2 r14_3 r14_4 r14_5 r14_6_b r14_6_l r14_6_c w2 =>
    Sts [.int .i64 r14_0, .int .i64 r14_1, .int .i64 r14_2, .int .i64 r14_3, .int .i64 r14_4, .int .i64 r14_5, .slice r14_6_b r14_6_l r14_6_c] ⟨b2, 0, none⟩ 0 w2 fun w3 =>
    LdI .i64 ⟨b2, 0, none⟩ w3 fun r_0 =>
    LdI .i64 ⟨b2, 1, none⟩ w3 fun r_1 =>
    LdI .i64 ⟨b2, 2, none⟩ w3 fun r_2 =>
    LdI .i64 ⟨b2, 3, none⟩ w3 fun r_3 =>
    LdI .i64 ⟨b2, 4, none⟩ w3 fun r_4 =>
    LdI .i64 ⟨b2, 5, none⟩ w3 fun r_5 =>
    LdL ⟨b2, 6, none⟩ w3 fun r_6_b r_6_l r_6_c =>
    R r_0 r_1 r_2 r_3 r_4 r_5 r_6_b r_6_l r_6_c w3) (
    Pn c fun a_2 =>
    LdI .i64 a_2 w1 fun x18 =>
    Bm (x18 == (2 : Int)) (
      Pn c fun a_3 =>
      LdI .i64 (a_3.add 6) w1 fun x24 =>
      connm_Conn_mk.Call c (3 : Int) x24 none 0 0 w1 fun r25_0 r25_1 r25_2 r25_3 r25_4 r25_5 r25_6_b r25_6_l r25_6_c w4 =>
      Sts [.int .i64 r25_0, .int .i64 r25_1, .int .i64 r25_2, .int .i64 r25_3, .int .i64 r25_4, .int .i64 r25_5, .slice r25_6_b r25_6_l r25_6_c] ⟨b2, 0, none⟩ 0 w4 fun w5 =>
      LdI .i64 ⟨b2, 0, none⟩ w5 fun r_0_1 =>
      LdI .i64 ⟨b2, 1, none⟩ w5 fun r_1_1 =>
      LdI .i64 ⟨b2, 2, none⟩ w5 fun r_2_1 =>
      LdI .i64 ⟨b2, 3, none⟩ w5 fun r_3_1 =>
      LdI .i64 ⟨b2, 4, none⟩ w5 fun r_4_1 =>
      LdI .i64 ⟨b2, 5, none⟩ w5 fun r_5_1 =>
      LdL ⟨b2, 6, none⟩ w5 fun r_6_b_1 r_6_l_1 r_6_c_1 =>
      R r_0_1 r_1_1 r_2_1 r_3_1 r_4_1 r_5_1 r_6_b_1 r_6_l_1 r_6_c_1 w5) (
      Pn c fun a_4 =>
      LdI .i64 (a_4.add 9) w1 fun x29 =>
      Bm (decide (x29 > (0 : Int))) (
        Pn c fun a_5 =>
        LdI .i64 (a_5.add 9) w1 fun x34 =>
        Bm (decide (x34 > (12 : Int))) (
          sB1 c b2 (12 : Int) w1) (
          sB1 c b2 x34 w1)) (
        Pn c fun a_6 =>
        LdI .i64 (a_6.add 7) w1 fun x53 =>
        connm_Conn_mk.Call c (6 : Int) x53 none 0 0 w1 fun r54_0 r54_1 r54_2 r54_3 r54_4 r54_5 r54_6_b r54_6_l r54_6_c w6 =>
        Sts [.int .i64 r54_0, .int .i64 r54_1, .int .i64 r54_2, .int .i64 r54_3, .int .i64 r54_4, .int .i64 r54_5, .slice r54_6_b r54_6_l r54_6_c] ⟨b2, 0, none⟩ 0 w6 fun w7 =>
        LdI .i64 ⟨b2, 0, none⟩ w7 fun r_0_2 =>
        LdI .i64 ⟨b2, 1, none⟩ w7 fun r_1_2 =>
        LdI .i64 ⟨b2, 2, none⟩ w7 fun r_2_2 =>
        LdI .i64 ⟨b2, 3, none⟩ w7 fun r_3_2 =>
        LdI .i64 ⟨b2, 4, none⟩ w7 fun r_4_2 =>
        LdI .i64 ⟨b2, 5, none⟩ w7 fun r_5_2 =>
        LdL ⟨b2, 6, none⟩ w7 fun r_6_b_2 r_6_l_2 r_6_c_2 =>
        R r_0_2 r_1_2 r_2_2 r_3_2 r_4_2 r_5_2 r_6_b_2 r_6_l_2 r_6_c_2 w7)))) = kstep Tryz.prog 55 Tryz.f70.results.toList (Tryz.f70.body.getD .skip) (connm_Conn_again.RV R) (kvc Tryz.prog 55 Tryz.f70.results.toList (Tryz.f70.body.getD .skip) (connm_Conn_again.RV R) [([(0, [1, 1, 1, 0, 1, 0, 1, 1]), (0, [1, 1, 1, 1])], fun σ w => dP (slotOf σ 0) fun c_ => dK (slotOf σ 2) fun t2_ => dI .i64 (slotOf σ 3) fun n_ => sB1 c_ t2_ n_ w)] 2000) [(0, [])] [(0, .pointer c)] w := by kernel_rfl
theorem connm_Conn_again.B0_sound {R : Int → Int → Int → Int → Int → Int → Option Addr → Nat → Nat → World → Prop}  (c : Option Addr) (w : World) (h : connm_Conn_again.B0 c w   R) :
    KW Tryz.prog 70 55 (connm_Conn_again.RV R) ([(0, [])].map (toItem (Tryz.f70.body.getD .skip))) [(0, .pointer c)] w := by
  exact block_spec Tryz.func70 Tryz.mixed (stops_cons (fun σ w h => by
      obtain ⟨c_, e0, h⟩ := dP_elim h
      obtain ⟨t2_, e1, h⟩ := dK_elim h
      obtain ⟨n_, e2, h⟩ := dI_elim h
      exact (connm_Conn_again.B1_sound  c_ t2_ n_ w h).weaken (Sub.cons (Sub.cons (Sub.cons (Sub.nil _) e2) e1) e0)) stops_nil) (Eq.mp (connm_Conn_again.B0_eq c w   R (fun c_ t2_ n_ w => connm_Conn_again.B1 c_ t2_ n_ w  R)) h)
theorem connm_Conn_again.sound (c : Option Addr) (w : World) (R : Int → Int → Int → Int → Int → Int → Option Addr → Nat → Nat → World → Prop) (h : connm_Conn_again.B0 c w R) : connm_Conn_again.Call c w R := by
  have hc := calls_of_block (args := #[.pointer c]) Tryz.func70 (body := (Tryz.f70.body.getD .skip)) (by kernel_rfl) (by kernel_rfl) (args_slot _) (connm_Conn_again.B0_sound c w h)
  exact hc.mono fun e w' he => by
    obtain ⟨v, rfl, hv⟩ := he
    exact connm_Conn_again.RV_elim hv
def connlaw_SameSegs.L1b (a_b : Option Addr) (a_l a_c : Nat) (b_b : Option Addr) (b_l b_c : Nat) (i : Int) (w : World)  (N1 : Option Addr → Nat → Nat → Option Addr → Nat → Nat → Int → World → Prop) (R : Bool → World → Prop) : Prop :=
  Bm (decide (i < ((a_l : Nat) : Int))) (
    Pn a_b fun a =>
    (0 ≤ i ∧ i < ((a_l : Nat) : Int)) ∧
    LdI .i64 (Addr.add a (i.toNat * 7)) w.drew fun x20_0 =>
    LdI .i64 ((Addr.add a (i.toNat * 7)).add 1) w.drew fun x20_1 =>
    LdI .i64 ((Addr.add a (i.toNat * 7)).add 2) w.drew fun x20_2 =>
    LdI .i64 ((Addr.add a (i.toNat * 7)).add 3) w.drew fun x20_3 =>
    LdI .i64 ((Addr.add a (i.toNat * 7)).add 4) w.drew fun x20_4 =>
    LdI .i64 ((Addr.add a (i.toNat * 7)).add 5) w.drew fun x20_5 =>
    LdL ((Addr.add a (i.toNat * 7)).add 6) w.drew fun x20_6_b x20_6_l x20_6_c =>
    Pn b_b fun a_1 =>
    (0 ≤ i ∧ i < ((b_l : Nat) : Int)) ∧
    LdI .i64 (Addr.add a_1 (i.toNat * 7)) w.drew fun x24_0 =>
    LdI .i64 ((Addr.add a_1 (i.toNat * 7)).add 1) w.drew fun x24_1 =>
    LdI .i64 ((Addr.add a_1 (i.toNat * 7)).add 2) w.drew fun x24_2 =>
    LdI .i64 ((Addr.add a_1 (i.toNat * 7)).add 3) w.drew fun x24_3 =>
    LdI .i64 ((Addr.add a_1 (i.toNat * 7)).add 4) w.drew fun x24_4 =>
    LdI .i64 ((Addr.add a_1 (i.toNat * 7)).add 5) w.drew fun x24_5 =>
    LdL ((Addr.add a_1 (i.toNat * 7)).add 6) w.drew fun x24_6_b x24_6_l x24_6_c =>
    connlaw_SameSeg.Call x20_0 x20_1 x20_2 x20_3 x20_4 x20_5 x20_6_b x20_6_l x20_6_c x24_0 x24_1 x24_2 x24_3 x24_4 x24_5 x24_6_b x24_6_l x24_6_c w.drew fun r25 w1 =>
    Bm (!r25) (
      R false w1) (
      N1 a_b a_l a_c b_b b_l b_c (IntKind.i64.wrap (i + (1 : Int))) w1)) (
    R true w)
theorem connlaw_SameSegs.L1b_eq (a_b : Option Addr) (a_l a_c : Nat) (b_b : Option Addr) (b_l b_c : Nat) (i : Int) (w : World)  (N1 : Option Addr → Nat → Nat → Option Addr → Nat → Nat → Int → World → Prop) (R : Bool → World → Prop)  :
    (
  Bm (decide (i < ((a_l : Nat) : Int))) (
    Pn a_b fun a =>
    (0 ≤ i ∧ i < ((a_l : Nat) : Int)) ∧
    LdI .i64 (Addr.add a (i.toNat * 7)) w.drew fun x20_0 =>
    LdI .i64 ((Addr.add a (i.toNat * 7)).add 1) w.drew fun x20_1 =>
    LdI .i64 ((Addr.add a (i.toNat * 7)).add 2) w.drew fun x20_2 =>
    LdI .i64 ((Addr.add a (i.toNat * 7)).add 3) w.drew fun x20_3 =>
    LdI .i64 ((Addr.add a (i.toNat * 7)).add 4) w.drew fun x20_4 =>
    LdI .i64 ((Addr.add a (i.toNat * 7)).add 5) w.drew fun x20_5 =>
    LdL ((Addr.add a (i.toNat * 7)).add 6) w.drew fun x20_6_b x20_6_l x20_6_c =>
    Pn b_b fun a_1 =>
    (0 ≤ i ∧ i < ((b_l : Nat) : Int)) ∧
    LdI .i64 (Addr.add a_1 (i.toNat * 7)) w.drew fun x24_0 =>
    LdI .i64 ((Addr.add a_1 (i.toNat * 7)).add 1) w.drew fun x24_1 =>
    LdI .i64 ((Addr.add a_1 (i.toNat * 7)).add 2) w.drew fun x24_2 =>
    LdI .i64 ((Addr.add a_1 (i.toNat * 7)).add 3) w.drew fun x24_3 =>
    LdI .i64 ((Addr.add a_1 (i.toNat * 7)).add 4) w.drew fun x24_4 =>
    LdI .i64 ((Addr.add a_1 (i.toNat * 7)).add 5) w.drew fun x24_5 =>
    LdL ((Addr.add a_1 (i.toNat * 7)).add 6) w.drew fun x24_6_b x24_6_l x24_6_c =>
    connlaw_SameSeg.Call x20_0 x20_1 x20_2 x20_3 x20_4 x20_5 x20_6_b x20_6_l x20_6_c x24_0 x24_1 x24_2 x24_3 x24_4 x24_5 x24_6_b x24_6_l x24_6_c w.drew fun r25 w1 =>
    Bm (!r25) (
      R false w1) (
      N1 a_b a_l a_c b_b b_l b_c (IntKind.i64.wrap (i + (1 : Int))) w1)) (
    R true w)) = kstep Tryz.prog 27 Tryz.f71.results.toList (Tryz.f71.body.getD .skip) (connlaw_SameSegs.RV R) (kvc Tryz.prog 27 Tryz.f71.results.toList (Tryz.f71.body.getD .skip) (connlaw_SameSegs.RV R) [([(0, [1, 1, 0, 1, 0, 0]), (2, [1, 1, 0, 1, 0, 0]), (1, [0]), (0, [1, 1, 1])], fun σ w => dL (slotOf σ 0) fun a_b_ a_l_ a_c_ => dL (slotOf σ 1) fun b_b_ b_l_ b_c_ => dI .i64 (slotOf σ 5) fun i_ => N1 a_b_ a_l_ a_c_ b_b_ b_l_ b_c_ i_ w)] 2000) [(0, [1, 1, 0, 1, 0, 0]), (2, [1, 1, 0, 1, 0, 0]), (1, [0]), (0, [1, 1, 1])] [(0, .slice a_b a_l a_c), (1, .slice b_b b_l b_c), (5, .int .i64 i)] w := by kernel_rfl
theorem connlaw_SameSegs.L1b_sound {R : Bool → World → Prop} {N1 : Option Addr → Nat → Nat → Option Addr → Nat → Nat → Int → World → Prop} (hN1 : ∀ a_b a_l a_c b_b b_l b_c i w, N1 a_b a_l a_c b_b b_l b_c i w → KW Tryz.prog 71 27 (connlaw_SameSegs.RV R) ([(0, [1, 1, 0, 1, 0, 0]), (2, [1, 1, 0, 1, 0, 0]), (1, [0]), (0, [1, 1, 1])].map (toItem (Tryz.f71.body.getD .skip))) [(0, .slice a_b a_l a_c), (1, .slice b_b b_l b_c), (5, .int .i64 i)] w) (a_b : Option Addr) (a_l a_c : Nat) (b_b : Option Addr) (b_l b_c : Nat) (i : Int) (w : World) (h : connlaw_SameSegs.L1b a_b a_l a_c b_b b_l b_c i w  N1 R) :
    KW Tryz.prog 71 27 (connlaw_SameSegs.RV R) ([(0, [1, 1, 0, 1, 0, 0]), (2, [1, 1, 0, 1, 0, 0]), (1, [0]), (0, [1, 1, 1])].map (toItem (Tryz.f71.body.getD .skip))) [(0, .slice a_b a_l a_c), (1, .slice b_b b_l b_c), (5, .int .i64 i)] w := by
  exact block_spec Tryz.func71 Tryz.mixed (stops_cons (fun σ w h => by
      obtain ⟨a_b_, a_l_, a_c_, e0, h⟩ := dL_elim h
      obtain ⟨b_b_, b_l_, b_c_, e1, h⟩ := dL_elim h
      obtain ⟨i_, e2, h⟩ := dI_elim h
      exact (hN1 a_b_ a_l_ a_c_ b_b_ b_l_ b_c_ i_ w h).weaken (Sub.cons (Sub.cons (Sub.cons (Sub.nil _) e2) e1) e0)) stops_nil) (Eq.mp (connlaw_SameSegs.L1b_eq a_b a_l a_c b_b b_l b_c i w  N1 R ) h)
def connlaw_SameSegs.L1 (a_b : Option Addr) (a_l a_c : Nat) (b_b : Option Addr) (b_l b_c : Nat) (i : Int) (w : World)  (R : Bool → World → Prop) : Prop :=
  ∃ (I : Nat → Option Addr → Nat → Nat → Option Addr → Nat → Nat → Int → World → Prop) (m : Nat), I m a_b a_l a_c b_b b_l b_c i w ∧ ∀ m a_b a_l a_c b_b b_l b_c i w, I m a_b a_l a_c b_b b_l b_c i w → connlaw_SameSegs.L1b a_b a_l a_c b_b b_l b_c i w  (fun a_b' a_l' a_c' b_b' b_l' b_c' i' w' => ∃ m', m' < m ∧ I m' a_b' a_l' a_c' b_b' b_l' b_c' i' w') R
theorem connlaw_SameSegs.L1_sound {R : Bool → World → Prop}  (a_b : Option Addr) (a_l a_c : Nat) (b_b : Option Addr) (b_l b_c : Nat) (i : Int) (w : World) (h : connlaw_SameSegs.L1 a_b a_l a_c b_b b_l b_c i w  R) :
    KW Tryz.prog 71 27 (connlaw_SameSegs.RV R) ([(0, [1, 1, 0, 1, 0, 0]), (2, [1, 1, 0, 1, 0, 0]), (1, [0]), (0, [1, 1, 1])].map (toItem (Tryz.f71.body.getD .skip))) [(0, .slice a_b a_l a_c), (1, .slice b_b b_l b_c), (5, .int .i64 i)] w := by
  obtain ⟨I, m, hBase, hr⟩ := h
  refine KW.loop (fun m σ w => ∃ (a_b : Option Addr) (a_l a_c : Nat) (b_b : Option Addr) (b_l b_c : Nat) (i : Int), σ = [(0, .slice a_b a_l a_c), (1, .slice b_b b_l b_c), (5, .int .i64 i)] ∧ I m a_b a_l a_c b_b b_l b_c i w) ?_ m _ w ⟨a_b, a_l, a_c, b_b, b_l, b_c, i, rfl, hBase⟩
  rintro m ih σ w ⟨a_b, a_l, a_c, b_b, b_l, b_c, i, rfl, hI⟩
  exact connlaw_SameSegs.L1b_sound  (N1 := fun a_b' a_l' a_c' b_b' b_l' b_c' i' w' => ∃ m', m' < m ∧ I m' a_b' a_l' a_c' b_b' b_l' b_c' i' w') (fun a_b' a_l' a_c' b_b' b_l' b_c' i' w' hx => by obtain ⟨m', hlt, hI'⟩ := hx; exact ih m' hlt _ w' ⟨a_b', a_l', a_c', b_b', b_l', b_c', i', rfl, hI'⟩) a_b a_l a_c b_b b_l b_c i w (hr m a_b a_l a_c b_b b_l b_c i w hI)
def connlaw_SameSegs.B0 (a_b : Option Addr) (a_l a_c : Nat) (b_b : Option Addr) (b_l b_c : Nat) (w : World)   (R : Bool → World → Prop) : Prop :=
  Bm (((a_l : Nat) : Int) != ((b_l : Nat) : Int)) (
    R false w) (
    connlaw_SameSegs.L1 a_b a_l a_c b_b b_l b_c (0 : Int) w  R)
theorem connlaw_SameSegs.B0_eq (a_b : Option Addr) (a_l a_c : Nat) (b_b : Option Addr) (b_l b_c : Nat) (w : World)   (R : Bool → World → Prop) (sL1 : Option Addr → Nat → Nat → Option Addr → Nat → Nat → Int → World → Prop) :
    (
  Bm (((a_l : Nat) : Int) != ((b_l : Nat) : Int)) (
    R false w) (
    sL1 a_b a_l a_c b_b b_l b_c (0 : Int) w)) = kstep Tryz.prog 27 Tryz.f71.results.toList (Tryz.f71.body.getD .skip) (connlaw_SameSegs.RV R) (kvc Tryz.prog 27 Tryz.f71.results.toList (Tryz.f71.body.getD .skip) (connlaw_SameSegs.RV R) [([(0, [1, 1, 0, 1, 0, 0]), (2, [1, 1, 0, 1, 0, 0]), (1, [0]), (0, [1, 1, 1])], fun σ w => dL (slotOf σ 0) fun a_b_ a_l_ a_c_ => dL (slotOf σ 1) fun b_b_ b_l_ b_c_ => dI .i64 (slotOf σ 5) fun i_ => sL1 a_b_ a_l_ a_c_ b_b_ b_l_ b_c_ i_ w)] 2000) [(0, [])] [(0, .slice a_b a_l a_c), (1, .slice b_b b_l b_c)] w := by kernel_rfl
theorem connlaw_SameSegs.B0_sound {R : Bool → World → Prop}  (a_b : Option Addr) (a_l a_c : Nat) (b_b : Option Addr) (b_l b_c : Nat) (w : World) (h : connlaw_SameSegs.B0 a_b a_l a_c b_b b_l b_c w   R) :
    KW Tryz.prog 71 27 (connlaw_SameSegs.RV R) ([(0, [])].map (toItem (Tryz.f71.body.getD .skip))) [(0, .slice a_b a_l a_c), (1, .slice b_b b_l b_c)] w := by
  exact block_spec Tryz.func71 Tryz.mixed (stops_cons (fun σ w h => by
      obtain ⟨a_b_, a_l_, a_c_, e0, h⟩ := dL_elim h
      obtain ⟨b_b_, b_l_, b_c_, e1, h⟩ := dL_elim h
      obtain ⟨i_, e2, h⟩ := dI_elim h
      exact (connlaw_SameSegs.L1_sound  a_b_ a_l_ a_c_ b_b_ b_l_ b_c_ i_ w h).weaken (Sub.cons (Sub.cons (Sub.cons (Sub.nil _) e2) e1) e0)) stops_nil) (Eq.mp (connlaw_SameSegs.B0_eq a_b a_l a_c b_b b_l b_c w   R (fun a_b_ a_l_ a_c_ b_b_ b_l_ b_c_ i_ w => connlaw_SameSegs.L1 a_b_ a_l_ a_c_ b_b_ b_l_ b_c_ i_ w  R)) h)
theorem connlaw_SameSegs.sound (a_b : Option Addr) (a_l a_c : Nat) (b_b : Option Addr) (b_l b_c : Nat) (w : World) (R : Bool → World → Prop) (h : connlaw_SameSegs.B0 a_b a_l a_c b_b b_l b_c w R) : connlaw_SameSegs.Call a_b a_l a_c b_b b_l b_c w R := by
  have hc := calls_of_block (args := #[.slice a_b a_l a_c, .slice b_b b_l b_c]) Tryz.func71 (body := (Tryz.f71.body.getD .skip)) (by kernel_rfl) (by kernel_rfl) (args_slot _) (connlaw_SameSegs.B0_sound a_b a_l a_c b_b b_l b_c w h)
  exact hc.mono fun e w' he => by
    obtain ⟨v, rfl, hv⟩ := he
    exact connlaw_SameSegs.RV_elim hv
def conn_Conn_OpenPassive.B0 (c : Option Addr) (iss syn_0 syn_1 syn_2 syn_3 syn_4 syn_5 : Int) (syn_6_b : Option Addr) (syn_6_l syn_6_c : Nat) (w : World)   (R : Option Addr → Nat → Nat → Int → World → Prop) : Prop :=
  New (.cells #[.int .i64 syn_0, .int .i64 syn_1, .int .i64 syn_2, .int .i64 syn_3, .int .i64 syn_4, .int .i64 syn_5, .slice syn_6_b syn_6_l syn_6_c] 45) w fun syn_ w1 =>
  Pn c fun a =>
  LdI .i64 (a.add 2) w1 fun x13 =>
  Bm (x13 != (0 : Int)) (
    R none 0 0 (13 : Int) w1) (
    LdI .i64 ⟨syn_, 4, none⟩ w1 fun x16 =>
    Bm ((IntKind.i64.wrap (BitVec.ofInt IntKind.i64.bits x16 &&& BitVec.ofInt IntKind.i64.bits (15 : Int)).toNat) != (1 : Int)) (
      R none 0 0 (24 : Int) w1) (
      conn_Conn_begin.Call c (2 : Int) iss w1 fun w2 =>
      LdI .i64 ⟨syn_, 2, none⟩ w2 fun x23 =>
      api_SeqAdd.Call x23 (1 : Int) w2 fun r24 w3 =>
      Pn c fun a_1 =>
      LdP (a_1.add 1) w3 fun x28 =>
      seg_RecvBuf_Reset.Call x28 r24 w3 fun w4 =>
      LdI .i64 ⟨syn_, 5, none⟩ w4 fun x33 =>
      conn_window.Call x33 w4 fun r34 w5 =>
      Pn c fun a_2 =>
      Sts [.int .i64 r34] (a_2.add 9) 0 w5 fun w6 =>
      conn_Conn_again.Call c w6 fun r38_0 r38_1 r38_2 r38_3 r38_4 r38_5 r38_6_b r38_6_l r38_6_c w7 =>
      New (.cells #[.int .i64 (0 : Int), .int .i64 (0 : Int), .int .i64 (0 : Int), .int .i64 (0 : Int), .int .i64 (0 : Int), .int .i64 (0 : Int), .slice none 0 0] 45) w7 fun s_ w8 =>
      Sts [.int .i64 r38_0, .int .i64 r38_1, .int .i64 r38_2, .int .i64 r38_3, .int .i64 r38_4, .int .i64 r38_5, .slice r38_6_b r38_6_l r38_6_c] ⟨s_, 0, none⟩ 0 w8 fun w9 =>
      LdI .i64 ⟨s_, 0, none⟩ w9 fun x39_0 =>
      LdI .i64 ⟨s_, 1, none⟩ w9 fun x39_1 =>
      LdI .i64 ⟨s_, 2, none⟩ w9 fun x39_2 =>
      LdI .i64 ⟨s_, 3, none⟩ w9 fun x39_3 =>
      LdI .i64 ⟨s_, 4, none⟩ w9 fun x39_4 =>
      LdI .i64 ⟨s_, 5, none⟩ w9 fun x39_5 =>
      LdL ⟨s_, 6, none⟩ w9 fun x39_6_b x39_6_l x39_6_c =>
      conn_one.Call x39_0 x39_1 x39_2 x39_3 x39_4 x39_5 x39_6_b x39_6_l x39_6_c w9 fun r40_b r40_l r40_c w10 =>
      R r40_b r40_l r40_c (0 : Int) w10))
theorem conn_Conn_OpenPassive.B0_eq (c : Option Addr) (iss syn_0 syn_1 syn_2 syn_3 syn_4 syn_5 : Int) (syn_6_b : Option Addr) (syn_6_l syn_6_c : Nat) (w : World)   (R : Option Addr → Nat → Nat → Int → World → Prop)  :
    (
  New (.cells #[.int .i64 syn_0, .int .i64 syn_1, .int .i64 syn_2, .int .i64 syn_3, .int .i64 syn_4, .int .i64 syn_5, .slice syn_6_b syn_6_l syn_6_c] 45) w fun syn_ w1 =>
  Pn c fun a =>
  LdI .i64 (a.add 2) w1 fun x13 =>
  Bm (x13 != (0 : Int)) (
    R none 0 0 (13 : Int) w1) (
    LdI .i64 ⟨syn_, 4, none⟩ w1 fun x16 =>
    Bm ((IntKind.i64.wrap (BitVec.ofInt IntKind.i64.bits x16 &&& BitVec.ofInt IntKind.i64.bits (15 : Int)).toNat) != (1 : Int)) (
      R none 0 0 (24 : Int) w1) (
      conn_Conn_begin.Call c (2 : Int) iss w1 fun w2 =>
      LdI .i64 ⟨syn_, 2, none⟩ w2 fun x23 =>
      api_SeqAdd.Call x23 (1 : Int) w2 fun r24 w3 =>
      Pn c fun a_1 =>
      LdP (a_1.add 1) w3 fun x28 =>
      seg_RecvBuf_Reset.Call x28 r24 w3 fun w4 =>
      LdI .i64 ⟨syn_, 5, none⟩ w4 fun x33 =>
      conn_window.Call x33 w4 fun r34 w5 =>
      Pn c fun a_2 =>
      Sts [.int .i64 r34] (a_2.add 9) 0 w5 fun w6 =>
      conn_Conn_again.Call c w6 fun r38_0 r38_1 r38_2 r38_3 r38_4 r38_5 r38_6_b r38_6_l r38_6_c w7 =>
      New (.cells #[.int .i64 (0 : Int), .int .i64 (0 : Int), .int .i64 (0 : Int), .int .i64 (0 : Int), .int .i64 (0 : Int), .int .i64 (0 : Int), .slice none 0 0] 45) w7 fun s_ w8 =>
      Sts [.int .i64 r38_0, .int .i64 r38_1, .int .i64 r38_2, .int .i64 r38_3, .int .i64 r38_4, .int .i64 r38_5, .slice r38_6_b r38_6_l r38_6_c] ⟨s_, 0, none⟩ 0 w8 fun w9 =>
      LdI .i64 ⟨s_, 0, none⟩ w9 fun x39_0 =>
      LdI .i64 ⟨s_, 1, none⟩ w9 fun x39_1 =>
      LdI .i64 ⟨s_, 2, none⟩ w9 fun x39_2 =>
      LdI .i64 ⟨s_, 3, none⟩ w9 fun x39_3 =>
      LdI .i64 ⟨s_, 4, none⟩ w9 fun x39_4 =>
      LdI .i64 ⟨s_, 5, none⟩ w9 fun x39_5 =>
      LdL ⟨s_, 6, none⟩ w9 fun x39_6_b x39_6_l x39_6_c =>
      conn_one.Call x39_0 x39_1 x39_2 x39_3 x39_4 x39_5 x39_6_b x39_6_l x39_6_c w9 fun r40_b r40_l r40_c w10 =>
      R r40_b r40_l r40_c (0 : Int) w10))) = kstep Tryz.prog 41 Tryz.f72.results.toList (Tryz.f72.body.getD .skip) (conn_Conn_OpenPassive.RV R) (kvc Tryz.prog 41 Tryz.f72.results.toList (Tryz.f72.body.getD .skip) (conn_Conn_OpenPassive.RV R) [] 2000) [(0, [])] [(0, .pointer c), (1, .int .i64 iss), (2, .agg #[.int .i64 syn_0, .int .i64 syn_1, .int .i64 syn_2, .int .i64 syn_3, .int .i64 syn_4, .int .i64 syn_5, .slice syn_6_b syn_6_l syn_6_c])] w := by kernel_rfl
theorem conn_Conn_OpenPassive.B0_sound {R : Option Addr → Nat → Nat → Int → World → Prop}  (c : Option Addr) (iss syn_0 syn_1 syn_2 syn_3 syn_4 syn_5 : Int) (syn_6_b : Option Addr) (syn_6_l syn_6_c : Nat) (w : World) (h : conn_Conn_OpenPassive.B0 c iss syn_0 syn_1 syn_2 syn_3 syn_4 syn_5 syn_6_b syn_6_l syn_6_c w   R) :
    KW Tryz.prog 72 41 (conn_Conn_OpenPassive.RV R) ([(0, [])].map (toItem (Tryz.f72.body.getD .skip))) [(0, .pointer c), (1, .int .i64 iss), (2, .agg #[.int .i64 syn_0, .int .i64 syn_1, .int .i64 syn_2, .int .i64 syn_3, .int .i64 syn_4, .int .i64 syn_5, .slice syn_6_b syn_6_l syn_6_c])] w := by
  exact block_spec Tryz.func72 Tryz.mixed stops_nil (Eq.mp (conn_Conn_OpenPassive.B0_eq c iss syn_0 syn_1 syn_2 syn_3 syn_4 syn_5 syn_6_b syn_6_l syn_6_c w   R ) h)
theorem conn_Conn_OpenPassive.sound (c : Option Addr) (iss syn_0 syn_1 syn_2 syn_3 syn_4 syn_5 : Int) (syn_6_b : Option Addr) (syn_6_l syn_6_c : Nat) (w : World) (R : Option Addr → Nat → Nat → Int → World → Prop) (h : conn_Conn_OpenPassive.B0 c iss syn_0 syn_1 syn_2 syn_3 syn_4 syn_5 syn_6_b syn_6_l syn_6_c w R) : conn_Conn_OpenPassive.Call c iss syn_0 syn_1 syn_2 syn_3 syn_4 syn_5 syn_6_b syn_6_l syn_6_c w R := by
  have hc := calls_of_block (args := #[.pointer c, .int .i64 iss, .agg #[.int .i64 syn_0, .int .i64 syn_1, .int .i64 syn_2, .int .i64 syn_3, .int .i64 syn_4, .int .i64 syn_5, .slice syn_6_b syn_6_l syn_6_c]]) Tryz.func72 (body := (Tryz.f72.body.getD .skip)) (by kernel_rfl) (by kernel_rfl) (args_slot _) (conn_Conn_OpenPassive.B0_sound c iss syn_0 syn_1 syn_2 syn_3 syn_4 syn_5 syn_6_b syn_6_l syn_6_c w h)
  exact hc.mono fun e w' he => by
    obtain ⟨v, rfl, hv⟩ := he
    exact conn_Conn_OpenPassive.RV_elim hv
def connm_Conn_OpenPassive.B0 (c : Option Addr) (iss syn_0 syn_1 syn_2 syn_3 syn_4 syn_5 : Int) (syn_6_b : Option Addr) (syn_6_l syn_6_c : Nat) (w : World)   (R : Option Addr → Nat → Nat → Int → World → Prop) : Prop :=
  New (.cells #[.int .i64 syn_0, .int .i64 syn_1, .int .i64 syn_2, .int .i64 syn_3, .int .i64 syn_4, .int .i64 syn_5, .slice syn_6_b syn_6_l syn_6_c] 45) w fun syn_ w1 =>
  Pn c fun a =>
  LdI .i64 a w1 fun x14 =>
  Bm (x14 != (0 : Int)) (
    R none 0 0 (13 : Int) w1) (
    LdI .i64 ⟨syn_, 4, none⟩ w1 fun x17 =>
    Bm ((IntKind.i64.wrap (BitVec.ofInt IntKind.i64.bits x17 &&& BitVec.ofInt IntKind.i64.bits (15 : Int)).toNat) != (1 : Int)) (
      R none 0 0 (24 : Int) w1) (
      api_SeqAdd.Call iss (0 : Int) w1 fun r21 w2 =>
      LdI .i64 ⟨syn_, 2, none⟩ w2 fun x23 =>
      api_SeqAdd.Call x23 (1 : Int) w2 fun r24 w3 =>
      LdI .i64 ⟨syn_, 5, none⟩ w3 fun x26 =>
      connm_wnd.Call x26 w3 fun r27 w4 =>
      connm_Conn_wipe.Call c w4 fun w5 =>
      Pn c fun a_1 =>
      Sts [.int .i64 (2 : Int)] a_1 0 w5 fun w6 =>
      Pn c fun a_2 =>
      Sts [.int .i64 r21] (a_2.add 6) 0 w6 fun w7 =>
      Pn c fun a_3 =>
      Sts [.int .i64 r21] (a_3.add 7) 0 w7 fun w8 =>
      Pn c fun a_4 =>
      Sts [.int .i64 (11 : Int)] (a_4.add 47) 0 w8 fun w9 =>
      Pn c fun a_5 =>
      Sts [.int .i64 (2 : Int)] (a_5.add 45) 0 w9 fun w10 =>
      Pn c fun a_6 =>
      Sts [.int .i64 r24] (a_6.add 10) 0 w10 fun w11 =>
      Pn c fun a_7 =>
      Sts [.int .i64 r27] (a_7.add 44) 0 w11 fun w12 =>
      connm_Conn_again.Call c w12 fun r56_0 r56_1 r56_2 r56_3 r56_4 r56_5 r56_6_b r56_6_l r56_6_c w13 =>
      New (.cells #[.int .i64 r56_0, .int .i64 r56_1, .int .i64 r56_2, .int .i64 r56_3, .int .i64 r56_4, .int .i64 r56_5, .slice r56_6_b r56_6_l r56_6_c] 45) w13 fun b57 w14 =>
      R (some ⟨b57, 0, none⟩) 1 1 (0 : Int) w14))
theorem connm_Conn_OpenPassive.B0_eq (c : Option Addr) (iss syn_0 syn_1 syn_2 syn_3 syn_4 syn_5 : Int) (syn_6_b : Option Addr) (syn_6_l syn_6_c : Nat) (w : World)   (R : Option Addr → Nat → Nat → Int → World → Prop)  :
    (
  New (.cells #[.int .i64 syn_0, .int .i64 syn_1, .int .i64 syn_2, .int .i64 syn_3, .int .i64 syn_4, .int .i64 syn_5, .slice syn_6_b syn_6_l syn_6_c] 45) w fun syn_ w1 =>
  Pn c fun a =>
  LdI .i64 a w1 fun x14 =>
  Bm (x14 != (0 : Int)) (
    R none 0 0 (13 : Int) w1) (
    LdI .i64 ⟨syn_, 4, none⟩ w1 fun x17 =>
    Bm ((IntKind.i64.wrap (BitVec.ofInt IntKind.i64.bits x17 &&& BitVec.ofInt IntKind.i64.bits (15 : Int)).toNat) != (1 : Int)) (
      R none 0 0 (24 : Int) w1) (
      api_SeqAdd.Call iss (0 : Int) w1 fun r21 w2 =>
      LdI .i64 ⟨syn_, 2, none⟩ w2 fun x23 =>
      api_SeqAdd.Call x23 (1 : Int) w2 fun r24 w3 =>
      LdI .i64 ⟨syn_, 5, none⟩ w3 fun x26 =>
      connm_wnd.Call x26 w3 fun r27 w4 =>
      connm_Conn_wipe.Call c w4 fun w5 =>
      Pn c fun a_1 =>
      Sts [.int .i64 (2 : Int)] a_1 0 w5 fun w6 =>
      Pn c fun a_2 =>
      Sts [.int .i64 r21] (a_2.add 6) 0 w6 fun w7 =>
      Pn c fun a_3 =>
      Sts [.int .i64 r21] (a_3.add 7) 0 w7 fun w8 =>
      Pn c fun a_4 =>
      Sts [.int .i64 (11 : Int)] (a_4.add 47) 0 w8 fun w9 =>
      Pn c fun a_5 =>
      Sts [.int .i64 (2 : Int)] (a_5.add 45) 0 w9 fun w10 =>
      Pn c fun a_6 =>
      Sts [.int .i64 r24] (a_6.add 10) 0 w10 fun w11 =>
      Pn c fun a_7 =>
      Sts [.int .i64 r27] (a_7.add 44) 0 w11 fun w12 =>
      connm_Conn_again.Call c w12 fun r56_0 r56_1 r56_2 r56_3 r56_4 r56_5 r56_6_b r56_6_l r56_6_c w13 =>
      New (.cells #[.int .i64 r56_0, .int .i64 r56_1, .int .i64 r56_2, .int .i64 r56_3, .int .i64 r56_4, .int .i64 r56_5, .slice r56_6_b r56_6_l r56_6_c] 45) w13 fun b57 w14 =>
      R (some ⟨b57, 0, none⟩) 1 1 (0 : Int) w14))) = kstep Tryz.prog 58 Tryz.f73.results.toList (Tryz.f73.body.getD .skip) (connm_Conn_OpenPassive.RV R) (kvc Tryz.prog 58 Tryz.f73.results.toList (Tryz.f73.body.getD .skip) (connm_Conn_OpenPassive.RV R) [] 2000) [(0, [])] [(0, .pointer c), (1, .int .i64 iss), (2, .agg #[.int .i64 syn_0, .int .i64 syn_1, .int .i64 syn_2, .int .i64 syn_3, .int .i64 syn_4, .int .i64 syn_5, .slice syn_6_b syn_6_l syn_6_c])] w := by kernel_rfl
theorem connm_Conn_OpenPassive.B0_sound {R : Option Addr → Nat → Nat → Int → World → Prop}  (c : Option Addr) (iss syn_0 syn_1 syn_2 syn_3 syn_4 syn_5 : Int) (syn_6_b : Option Addr) (syn_6_l syn_6_c : Nat) (w : World) (h : connm_Conn_OpenPassive.B0 c iss syn_0 syn_1 syn_2 syn_3 syn_4 syn_5 syn_6_b syn_6_l syn_6_c w   R) :
    KW Tryz.prog 73 58 (connm_Conn_OpenPassive.RV R) ([(0, [])].map (toItem (Tryz.f73.body.getD .skip))) [(0, .pointer c), (1, .int .i64 iss), (2, .agg #[.int .i64 syn_0, .int .i64 syn_1, .int .i64 syn_2, .int .i64 syn_3, .int .i64 syn_4, .int .i64 syn_5, .slice syn_6_b syn_6_l syn_6_c])] w := by
  exact block_spec Tryz.func73 Tryz.mixed stops_nil (Eq.mp (connm_Conn_OpenPassive.B0_eq c iss syn_0 syn_1 syn_2 syn_3 syn_4 syn_5 syn_6_b syn_6_l syn_6_c w   R ) h)
theorem connm_Conn_OpenPassive.sound (c : Option Addr) (iss syn_0 syn_1 syn_2 syn_3 syn_4 syn_5 : Int) (syn_6_b : Option Addr) (syn_6_l syn_6_c : Nat) (w : World) (R : Option Addr → Nat → Nat → Int → World → Prop) (h : connm_Conn_OpenPassive.B0 c iss syn_0 syn_1 syn_2 syn_3 syn_4 syn_5 syn_6_b syn_6_l syn_6_c w R) : connm_Conn_OpenPassive.Call c iss syn_0 syn_1 syn_2 syn_3 syn_4 syn_5 syn_6_b syn_6_l syn_6_c w R := by
  have hc := calls_of_block (args := #[.pointer c, .int .i64 iss, .agg #[.int .i64 syn_0, .int .i64 syn_1, .int .i64 syn_2, .int .i64 syn_3, .int .i64 syn_4, .int .i64 syn_5, .slice syn_6_b syn_6_l syn_6_c]]) Tryz.func73 (body := (Tryz.f73.body.getD .skip)) (by kernel_rfl) (by kernel_rfl) (args_slot _) (connm_Conn_OpenPassive.B0_sound c iss syn_0 syn_1 syn_2 syn_3 syn_4 syn_5 syn_6_b syn_6_l syn_6_c w h)
  exact hc.mono fun e w' he => by
    obtain ⟨v, rfl, hv⟩ := he
    exact connm_Conn_OpenPassive.RV_elim hv
def conn_Conn_wipe.B0 (c : Option Addr) (w : World)   (R : World → Prop) : Prop :=
  Pn c fun a =>
  LdP a w fun x5 =>
  seg_SendBuf_Reset.Call x5 (0 : Int) w fun w1 =>
  Pn c fun a_1 =>
  LdP (a_1.add 1) w1 fun x10 =>
  seg_RecvBuf_Reset.Call x10 (0 : Int) w1 fun w2 =>
  Pn c fun a_2 =>
  LdP a_2 w2.drew fun x16 =>
  Pn c fun a_3 =>
  LdP (a_3.add 1) w2.drew fun x20 =>
  Pn c fun a_4 =>
  Sts [.pointer x16, .pointer x20, .int .i64 (0 : Int), .int .i64 (0 : Int), .bool false, .bool false, .bool false, .bool false, .int .i64 (0 : Int), .int .i64 (0 : Int), .int .i64 (0 : Int), .int .i64 (0 : Int), .int .i64 (0 : Int), .int .i64 (0 : Int)] a_4 0 w2.drew fun w3 =>
  R  w3
theorem conn_Conn_wipe.B0_eq (c : Option Addr) (w : World)   (R : World → Prop)  :
    (
  Pn c fun a =>
  LdP a w fun x5 =>
  seg_SendBuf_Reset.Call x5 (0 : Int) w fun w1 =>
  Pn c fun a_1 =>
  LdP (a_1.add 1) w1 fun x10 =>
  seg_RecvBuf_Reset.Call x10 (0 : Int) w1 fun w2 =>
  Pn c fun a_2 =>
  LdP a_2 w2.drew fun x16 =>
  Pn c fun a_3 =>
  LdP (a_3.add 1) w2.drew fun x20 =>
  Pn c fun a_4 =>
  Sts [.pointer x16, .pointer x20, .int .i64 (0 : Int), .int .i64 (0 : Int), .bool false, .bool false, .bool false, .bool false, .int .i64 (0 : Int), .int .i64 (0 : Int), .int .i64 (0 : Int), .int .i64 (0 : Int), .int .i64 (0 : Int), .int .i64 (0 : Int)] a_4 0 w2.drew fun w3 =>
  R  w3) = kstep Tryz.prog 23 Tryz.f74.results.toList (Tryz.f74.body.getD .skip) (conn_Conn_wipe.RV R) (kvc Tryz.prog 23 Tryz.f74.results.toList (Tryz.f74.body.getD .skip) (conn_Conn_wipe.RV R) [] 2000) [(0, [])] [(0, .pointer c)] w := by kernel_rfl
theorem conn_Conn_wipe.B0_sound {R : World → Prop}  (c : Option Addr) (w : World) (h : conn_Conn_wipe.B0 c w   R) :
    KW Tryz.prog 74 23 (conn_Conn_wipe.RV R) ([(0, [])].map (toItem (Tryz.f74.body.getD .skip))) [(0, .pointer c)] w := by
  exact block_spec Tryz.func74 Tryz.mixed stops_nil (Eq.mp (conn_Conn_wipe.B0_eq c w   R ) h)
theorem conn_Conn_wipe.sound (c : Option Addr) (w : World) (R : World → Prop) (h : conn_Conn_wipe.B0 c w R) : conn_Conn_wipe.Call c w R := by
  have hc := calls_of_block (args := #[.pointer c]) Tryz.func74 (body := (Tryz.f74.body.getD .skip)) (by kernel_rfl) (by kernel_rfl) (args_slot _) (conn_Conn_wipe.B0_sound c w h)
  exact hc.mono fun e w' he => by
    obtain ⟨v, rfl, hv⟩ := he
    exact conn_Conn_wipe.RV_elim hv
def conn_Conn_fail.B0 (c : Option Addr) (why : Int) (w : World)   (R : World → Prop) : Prop :=
  conn_Conn_wipe.Call c w fun w1 =>
  Pn c fun a =>
  Sts [.int .i64 (4 : Int)] (a.add 2) 0 w1 fun w2 =>
  Pn c fun a_1 =>
  Sts [.int .i64 why] (a_1.add 3) 0 w2 fun w3 =>
  Pn c fun a_2 =>
  Sts [.int .i64 (10 : Int)] (a_2.add 13) 0 w3 fun w4 =>
  R  w4
theorem conn_Conn_fail.B0_eq (c : Option Addr) (why : Int) (w : World)   (R : World → Prop)  :
    (
  conn_Conn_wipe.Call c w fun w1 =>
  Pn c fun a =>
  Sts [.int .i64 (4 : Int)] (a.add 2) 0 w1 fun w2 =>
  Pn c fun a_1 =>
  Sts [.int .i64 why] (a_1.add 3) 0 w2 fun w3 =>
  Pn c fun a_2 =>
  Sts [.int .i64 (10 : Int)] (a_2.add 13) 0 w3 fun w4 =>
  R  w4) = kstep Tryz.prog 16 Tryz.f75.results.toList (Tryz.f75.body.getD .skip) (conn_Conn_fail.RV R) (kvc Tryz.prog 16 Tryz.f75.results.toList (Tryz.f75.body.getD .skip) (conn_Conn_fail.RV R) [] 2000) [(0, [])] [(0, .pointer c), (1, .int .i64 why)] w := by kernel_rfl
theorem conn_Conn_fail.B0_sound {R : World → Prop}  (c : Option Addr) (why : Int) (w : World) (h : conn_Conn_fail.B0 c why w   R) :
    KW Tryz.prog 75 16 (conn_Conn_fail.RV R) ([(0, [])].map (toItem (Tryz.f75.body.getD .skip))) [(0, .pointer c), (1, .int .i64 why)] w := by
  exact block_spec Tryz.func75 Tryz.mixed stops_nil (Eq.mp (conn_Conn_fail.B0_eq c why w   R ) h)
theorem conn_Conn_fail.sound (c : Option Addr) (why : Int) (w : World) (R : World → Prop) (h : conn_Conn_fail.B0 c why w R) : conn_Conn_fail.Call c why w R := by
  have hc := calls_of_block (args := #[.pointer c, .int .i64 why]) Tryz.func75 (body := (Tryz.f75.body.getD .skip)) (by kernel_rfl) (by kernel_rfl) (args_slot _) (conn_Conn_fail.B0_sound c why w h)
  exact hc.mono fun e w' he => by
    obtain ⟨v, rfl, hv⟩ := he
    exact conn_Conn_fail.RV_elim hv
def conn_Conn_arm.B0 (c : Option Addr) (w : World)   (R : World → Prop) : Prop :=
  Pn c fun a =>
  LdI .i64 (a.add 10) w fun x5 =>
  Bm (x5 == (0 : Int)) (
    Pn c fun a_1 =>
    LdI .i64 (a_1.add 11) w fun x11 =>
    0 ≤ (IntKind.u64.wrap x11) ∧
    Pn c fun a_2 =>
    Sts [.int .i64 (IntKind.i64.wrap ((2 : Int) * 2 ^ (min (IntKind.u64.wrap x11).toNat IntKind.i64.bits)))] (a_2.add 10) 0 w fun w1 =>
    R  w1) (
    R  w)
theorem conn_Conn_arm.B0_eq (c : Option Addr) (w : World)   (R : World → Prop)  :
    (
  Pn c fun a =>
  LdI .i64 (a.add 10) w fun x5 =>
  Bm (x5 == (0 : Int)) (
    Pn c fun a_1 =>
    LdI .i64 (a_1.add 11) w fun x11 =>
    0 ≤ (IntKind.u64.wrap x11) ∧
    Pn c fun a_2 =>
    Sts [.int .i64 (IntKind.i64.wrap ((2 : Int) * 2 ^ (min (IntKind.u64.wrap x11).toNat IntKind.i64.bits)))] (a_2.add 10) 0 w fun w1 =>
    R  w1) (
    R  w)) = kstep Tryz.prog 16 Tryz.f76.results.toList (Tryz.f76.body.getD .skip) (conn_Conn_arm.RV R) (kvc Tryz.prog 16 Tryz.f76.results.toList (Tryz.f76.body.getD .skip) (conn_Conn_arm.RV R) [] 2000) [(0, [])] [(0, .pointer c)] w := by kernel_rfl
theorem conn_Conn_arm.B0_sound {R : World → Prop}  (c : Option Addr) (w : World) (h : conn_Conn_arm.B0 c w   R) :
    KW Tryz.prog 76 16 (conn_Conn_arm.RV R) ([(0, [])].map (toItem (Tryz.f76.body.getD .skip))) [(0, .pointer c)] w := by
  exact block_spec Tryz.func76 Tryz.mixed stops_nil (Eq.mp (conn_Conn_arm.B0_eq c w   R ) h)
theorem conn_Conn_arm.sound (c : Option Addr) (w : World) (R : World → Prop) (h : conn_Conn_arm.B0 c w R) : conn_Conn_arm.Call c w R := by
  have hc := calls_of_block (args := #[.pointer c]) Tryz.func76 (body := (Tryz.f76.body.getD .skip)) (by kernel_rfl) (by kernel_rfl) (args_slot _) (conn_Conn_arm.B0_sound c w h)
  exact hc.mono fun e w' he => by
    obtain ⟨v, rfl, hv⟩ := he
    exact conn_Conn_arm.RV_elim hv
end Go.Proofs.Qxb6500422aGreat
