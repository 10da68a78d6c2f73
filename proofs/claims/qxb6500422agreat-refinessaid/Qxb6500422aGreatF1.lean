import Derived.Test.Qxb6500422aGreatSig
set_option maxRecDepth 100000
set_option linter.unusedVariables false
open Go.Vc
namespace Go.Proofs.Qxb6500422aGreat
def connlaw_Ground.B0  (w : World)   (R : Option Addr → Option Addr → World → Prop) : Prop :=
  New (.cells #[.pointer none, .pointer none] 40) w fun b0 w1 =>
  seg_NewSendBuf.Call  w1 fun r3 w2 =>
  seg_NewRecvBuf.Call  w2 fun r4 w3 =>
  Sts [.pointer r3, .pointer r4] ⟨b0, 0, none⟩ 0 w3 fun w4 =>
  LdP ⟨b0, 0, none⟩ w4 fun r_0 =>
  LdP ⟨b0, 1, none⟩ w4 fun r_1 =>
  R r_0 r_1 w4
theorem connlaw_Ground.B0_eq  (w : World)   (R : Option Addr → Option Addr → World → Prop)  :
    (
  New (.cells #[.pointer none, .pointer none] 40) w fun b0 w1 =>
  seg_NewSendBuf.Call  w1 fun r3 w2 =>
  seg_NewRecvBuf.Call  w2 fun r4 w3 =>
  Sts [.pointer r3, .pointer r4] ⟨b0, 0, none⟩ 0 w3 fun w4 =>
  LdP ⟨b0, 0, none⟩ w4 fun r_0 =>
  LdP ⟨b0, 1, none⟩ w4 fun r_1 =>
  R r_0 r_1 w4) = kstep Tryz.prog 8 Tryz.f12.results.toList (Tryz.f12.body.getD .skip) (connlaw_Ground.RV R) (kvc Tryz.prog 8 Tryz.f12.results.toList (Tryz.f12.body.getD .skip) (connlaw_Ground.RV R) [] 2000) [(0, [])] [] w := by kernel_rfl
theorem connlaw_Ground.B0_sound {R : Option Addr → Option Addr → World → Prop}   (w : World) (h : connlaw_Ground.B0  w   R) :
    KW Tryz.prog 12 8 (connlaw_Ground.RV R) ([(0, [])].map (toItem (Tryz.f12.body.getD .skip))) [] w := by
  exact block_spec Tryz.func12 Tryz.mixed stops_nil (Eq.mp (connlaw_Ground.B0_eq  w   R ) h)
theorem connlaw_Ground.sound  (w : World) (R : Option Addr → Option Addr → World → Prop) (h : connlaw_Ground.B0  w R) : connlaw_Ground.Call  w R := by
  have hc := calls_of_block (args := #[]) Tryz.func12 (body := (Tryz.f12.body.getD .skip)) (by kernel_rfl) (by kernel_rfl) (args_slot _) (connlaw_Ground.B0_sound  w h)
  exact hc.mono fun e w' he => by
    obtain ⟨v, rfl, hv⟩ := he
    exact connlaw_Ground.RV_elim hv
def conn_New.B0 (sb rb : Option Addr) (w : World)   (R : Option Addr → World → Prop) : Prop :=
  New (.cells #[.pointer sb, .pointer rb, .int .i64 (0 : Int), .int .i64 (0 : Int), .bool false, .bool false, .bool false, .bool false, .int .i64 (0 : Int), .int .i64 (0 : Int), .int .i64 (0 : Int), .int .i64 (0 : Int), .int .i64 (0 : Int), .int .i64 (0 : Int)] 61) w fun b8 w1 =>
  R (some ⟨b8, 0, none⟩) w1
theorem conn_New.B0_eq (sb rb : Option Addr) (w : World)   (R : Option Addr → World → Prop)  :
    (
  New (.cells #[.pointer sb, .pointer rb, .int .i64 (0 : Int), .int .i64 (0 : Int), .bool false, .bool false, .bool false, .bool false, .int .i64 (0 : Int), .int .i64 (0 : Int), .int .i64 (0 : Int), .int .i64 (0 : Int), .int .i64 (0 : Int), .int .i64 (0 : Int)] 61) w fun b8 w1 =>
  R (some ⟨b8, 0, none⟩) w1) = kstep Tryz.prog 9 Tryz.f13.results.toList (Tryz.f13.body.getD .skip) (conn_New.RV R) (kvc Tryz.prog 9 Tryz.f13.results.toList (Tryz.f13.body.getD .skip) (conn_New.RV R) [] 2000) [(0, [])] [(0, .pointer sb), (1, .pointer rb)] w := by kernel_rfl
theorem conn_New.B0_sound {R : Option Addr → World → Prop}  (sb rb : Option Addr) (w : World) (h : conn_New.B0 sb rb w   R) :
    KW Tryz.prog 13 9 (conn_New.RV R) ([(0, [])].map (toItem (Tryz.f13.body.getD .skip))) [(0, .pointer sb), (1, .pointer rb)] w := by
  exact block_spec Tryz.func13 Tryz.mixed stops_nil (Eq.mp (conn_New.B0_eq sb rb w   R ) h)
theorem conn_New.sound (sb rb : Option Addr) (w : World) (R : Option Addr → World → Prop) (h : conn_New.B0 sb rb w R) : conn_New.Call sb rb w R := by
  have hc := calls_of_block (args := #[.pointer sb, .pointer rb]) Tryz.func13 (body := (Tryz.f13.body.getD .skip)) (by kernel_rfl) (by kernel_rfl) (args_slot _) (conn_New.B0_sound sb rb w h)
  exact hc.mono fun e w' he => by
    obtain ⟨v, rfl, hv⟩ := he
    exact conn_New.RV_elim hv
def connm_New.B0  (w : World)   (R : Option Addr → World → Prop) : Prop :=
  New (.cells #[.int .i64 (0 : Int), .int .i64 (0 : Int), .bool false, .bool false, .bool false, .bool false, .int .i64 (0 : Int), .int .i64 (0 : Int), .slice none 0 0, .int .i64 (0 : Int), .int .i64 (0 : Int), .slice none 0 0, .bool false, .bool false, .bool false, .bool false, .bool false, .bool false, .bool false, .bool false, .bool false, .bool false, .bool false, .bool false, .bool false, .bool false, .bool false, .bool false, .int .u8 (0 : Int), .int .u8 (0 : Int), .int .u8 (0 : Int), .int .u8 (0 : Int), .int .u8 (0 : Int), .int .u8 (0 : Int), .int .u8 (0 : Int), .int .u8 (0 : Int), .int .u8 (0 : Int), .int .u8 (0 : Int), .int .u8 (0 : Int), .int .u8 (0 : Int), .int .u8 (0 : Int), .int .u8 (0 : Int), .int .u8 (0 : Int), .int .u8 (0 : Int), .int .i64 (0 : Int), .int .i64 (0 : Int), .int .i64 (0 : Int), .int .i64 (0 : Int), .int .i64 (0 : Int)] 65) w fun b2 w1 =>
  R (some ⟨b2, 0, none⟩) w1
theorem connm_New.B0_eq  (w : World)   (R : Option Addr → World → Prop)  :
    (
  New (.cells #[.int .i64 (0 : Int), .int .i64 (0 : Int), .bool false, .bool false, .bool false, .bool false, .int .i64 (0 : Int), .int .i64 (0 : Int), .slice none 0 0, .int .i64 (0 : Int), .int .i64 (0 : Int), .slice none 0 0, .bool false, .bool false, .bool false, .bool false, .bool false, .bool false, .bool false, .bool false, .bool false, .bool false, .bool false, .bool false, .bool false, .bool false, .bool false, .bool false, .int .u8 (0 : Int), .int .u8 (0 : Int), .int .u8 (0 : Int), .int .u8 (0 : Int), .int .u8 (0 : Int), .int .u8 (0 : Int), .int .u8 (0 : Int), .int .u8 (0 : Int), .int .u8 (0 : Int), .int .u8 (0 : Int), .int .u8 (0 : Int), .int .u8 (0 : Int), .int .u8 (0 : Int), .int .u8 (0 : Int), .int .u8 (0 : Int), .int .u8 (0 : Int), .int .i64 (0 : Int), .int .i64 (0 : Int), .int .i64 (0 : Int), .int .i64 (0 : Int), .int .i64 (0 : Int)] 65) w fun b2 w1 =>
  R (some ⟨b2, 0, none⟩) w1) = kstep Tryz.prog 3 Tryz.f14.results.toList (Tryz.f14.body.getD .skip) (connm_New.RV R) (kvc Tryz.prog 3 Tryz.f14.results.toList (Tryz.f14.body.getD .skip) (connm_New.RV R) [] 2000) [(0, [])] [] w := by kernel_rfl
theorem connm_New.B0_sound {R : Option Addr → World → Prop}   (w : World) (h : connm_New.B0  w   R) :
    KW Tryz.prog 14 3 (connm_New.RV R) ([(0, [])].map (toItem (Tryz.f14.body.getD .skip))) [] w := by
  exact block_spec Tryz.func14 Tryz.mixed stops_nil (Eq.mp (connm_New.B0_eq  w   R ) h)
theorem connm_New.sound  (w : World) (R : Option Addr → World → Prop) (h : connm_New.B0  w R) : connm_New.Call  w R := by
  have hc := calls_of_block (args := #[]) Tryz.func14 (body := (Tryz.f14.body.getD .skip)) (by kernel_rfl) (by kernel_rfl) (args_slot _) (connm_New.B0_sound  w h)
  exact hc.mono fun e w' he => by
    obtain ⟨v, rfl, hv⟩ := he
    exact connm_New.RV_elim hv
def connlaw_World_LikeInfo.B0 (w0 : Option Addr) (c : Int) (w : World)   (R : Bool → World → Prop) : Prop :=
  Pn w0 fun a =>
  (0 ≤ c ∧ c < ((2 : Nat) : Int)) ∧
  LdP (Addr.add a (c.toNat * 1)) w fun x12 =>
  conn_Conn_Info.Call x12 w fun r13 w1 =>
  Pn w0 fun a_1 =>
  (0 ≤ c ∧ c < ((2 : Nat) : Int)) ∧
  LdP (Addr.add (a_1.add 2) (c.toNat * 1)) w1 fun x19 =>
  connm_Conn_Info.Call x19 w1 fun r20 w2 =>
  connlaw_SameInfo.Call r13 r20 w2 fun r23 w3 =>
  R r23 w3
theorem connlaw_World_LikeInfo.B0_eq (w0 : Option Addr) (c : Int) (w : World)   (R : Bool → World → Prop)  :
    (
  Pn w0 fun a =>
  (0 ≤ c ∧ c < ((2 : Nat) : Int)) ∧
  LdP (Addr.add a (c.toNat * 1)) w fun x12 =>
  conn_Conn_Info.Call x12 w fun r13 w1 =>
  Pn w0 fun a_1 =>
  (0 ≤ c ∧ c < ((2 : Nat) : Int)) ∧
  LdP (Addr.add (a_1.add 2) (c.toNat * 1)) w1 fun x19 =>
  connm_Conn_Info.Call x19 w1 fun r20 w2 =>
  connlaw_SameInfo.Call r13 r20 w2 fun r23 w3 =>
  R r23 w3) = kstep Tryz.prog 24 Tryz.f15.results.toList (Tryz.f15.body.getD .skip) (connlaw_World_LikeInfo.RV R) (kvc Tryz.prog 24 Tryz.f15.results.toList (Tryz.f15.body.getD .skip) (connlaw_World_LikeInfo.RV R) [] 2000) [(0, [])] [(0, .pointer w0), (1, .int .i64 c)] w := by kernel_rfl
theorem connlaw_World_LikeInfo.B0_sound {R : Bool → World → Prop}  (w0 : Option Addr) (c : Int) (w : World) (h : connlaw_World_LikeInfo.B0 w0 c w   R) :
    KW Tryz.prog 15 24 (connlaw_World_LikeInfo.RV R) ([(0, [])].map (toItem (Tryz.f15.body.getD .skip))) [(0, .pointer w0), (1, .int .i64 c)] w := by
  exact block_spec Tryz.func15 Tryz.mixed stops_nil (Eq.mp (connlaw_World_LikeInfo.B0_eq w0 c w   R ) h)
theorem connlaw_World_LikeInfo.sound (w0 : Option Addr) (c : Int) (w : World) (R : Bool → World → Prop) (h : connlaw_World_LikeInfo.B0 w0 c w R) : connlaw_World_LikeInfo.Call w0 c w R := by
  have hc := calls_of_block (args := #[.pointer w0, .int .i64 c]) Tryz.func15 (body := (Tryz.f15.body.getD .skip)) (by kernel_rfl) (by kernel_rfl) (args_slot _) (connlaw_World_LikeInfo.B0_sound w0 c w h)
  exact hc.mono fun e w' he => by
    obtain ⟨v, rfl, hv⟩ := he
    exact connlaw_World_LikeInfo.RV_elim hv
def connlaw_World_LikePeek.B0 (w0 : Option Addr) (c : Int) (w : World)   (R : Bool → World → Prop) : Prop :=
  Pn w0 fun a =>
  (0 ≤ c ∧ c < ((2 : Nat) : Int)) ∧
  LdP (Addr.add a (c.toNat * 1)) w fun x18 =>
  conn_Conn_Peek.Call x18 w fun r19_0_b r19_0_l r19_0_c r19_1_b r19_1_l r19_1_c r19_2_b r19_2_l r19_2_c w1 =>
  Pn w0 fun a_1 =>
  (0 ≤ c ∧ c < ((2 : Nat) : Int)) ∧
  LdP (Addr.add (a_1.add 2) (c.toNat * 1)) w1 fun x29 =>
  connm_Conn_Peek.Call x29 w1 fun r30_0_b r30_0_l r30_0_c r30_1_b r30_1_l r30_1_c r30_2_b r30_2_l r30_2_c w2 =>
  api_SameBytes.Call r19_0_b r19_0_l r19_0_c r30_0_b r30_0_l r30_0_c w2 fun r36 w3 =>
  Bm (!r36) (
    R false w3) (
    api_SameBytes.Call r19_1_b r19_1_l r19_1_c r30_1_b r30_1_l r30_1_c w3 fun r40 w4 =>
    Bm (!r40) (
      R false w4) (
      connlaw_SameInts.Call r19_2_b r19_2_l r19_2_c r30_2_b r30_2_l r30_2_c w4 fun r44 w5 =>
      connlaw_World_Own.Call w0 r19_0_b r19_0_l r19_0_c w5 fun w6 =>
      connlaw_World_Own.Call w0 r19_1_b r19_1_l r19_1_c w6 fun w7 =>
      connlaw_World_OwnInts.Call w0 r19_2_b r19_2_l r19_2_c w7 fun w8 =>
      R r44 w8))
theorem connlaw_World_LikePeek.B0_eq (w0 : Option Addr) (c : Int) (w : World)   (R : Bool → World → Prop)  :
    (
  Pn w0 fun a =>
  (0 ≤ c ∧ c < ((2 : Nat) : Int)) ∧
  LdP (Addr.add a (c.toNat * 1)) w fun x18 =>
  conn_Conn_Peek.Call x18 w fun r19_0_b r19_0_l r19_0_c r19_1_b r19_1_l r19_1_c r19_2_b r19_2_l r19_2_c w1 =>
  Pn w0 fun a_1 =>
  (0 ≤ c ∧ c < ((2 : Nat) : Int)) ∧
  LdP (Addr.add (a_1.add 2) (c.toNat * 1)) w1 fun x29 =>
  connm_Conn_Peek.Call x29 w1 fun r30_0_b r30_0_l r30_0_c r30_1_b r30_1_l r30_1_c r30_2_b r30_2_l r30_2_c w2 =>
  api_SameBytes.Call r19_0_b r19_0_l r19_0_c r30_0_b r30_0_l r30_0_c w2 fun r36 w3 =>
  Bm (!r36) (
    R false w3) (
    api_SameBytes.Call r19_1_b r19_1_l r19_1_c r30_1_b r30_1_l r30_1_c w3 fun r40 w4 =>
    Bm (!r40) (
      R false w4) (
      connlaw_SameInts.Call r19_2_b r19_2_l r19_2_c r30_2_b r30_2_l r30_2_c w4 fun r44 w5 =>
      connlaw_World_Own.Call w0 r19_0_b r19_0_l r19_0_c w5 fun w6 =>
      connlaw_World_Own.Call w0 r19_1_b r19_1_l r19_1_c w6 fun w7 =>
      connlaw_World_OwnInts.Call w0 r19_2_b r19_2_l r19_2_c w7 fun w8 =>
      R r44 w8))) = kstep Tryz.prog 55 Tryz.f16.results.toList (Tryz.f16.body.getD .skip) (connlaw_World_LikePeek.RV R) (kvc Tryz.prog 55 Tryz.f16.results.toList (Tryz.f16.body.getD .skip) (connlaw_World_LikePeek.RV R) [] 2000) [(0, [])] [(0, .pointer w0), (1, .int .i64 c)] w := by kernel_rfl
theorem connlaw_World_LikePeek.B0_sound {R : Bool → World → Prop}  (w0 : Option Addr) (c : Int) (w : World) (h : connlaw_World_LikePeek.B0 w0 c w   R) :
    KW Tryz.prog 16 55 (connlaw_World_LikePeek.RV R) ([(0, [])].map (toItem (Tryz.f16.body.getD .skip))) [(0, .pointer w0), (1, .int .i64 c)] w := by
  exact block_spec Tryz.func16 Tryz.mixed stops_nil (Eq.mp (connlaw_World_LikePeek.B0_eq w0 c w   R ) h)
theorem connlaw_World_LikePeek.sound (w0 : Option Addr) (c : Int) (w : World) (R : Bool → World → Prop) (h : connlaw_World_LikePeek.B0 w0 c w R) : connlaw_World_LikePeek.Call w0 c w R := by
  have hc := calls_of_block (args := #[.pointer w0, .int .i64 c]) Tryz.func16 (body := (Tryz.f16.body.getD .skip)) (by kernel_rfl) (by kernel_rfl) (args_slot _) (connlaw_World_LikePeek.B0_sound w0 c w h)
  exact hc.mono fun e w' he => by
    obtain ⟨v, rfl, hv⟩ := he
    exact connlaw_World_LikePeek.RV_elim hv
def conn_Conn_Check.B8 (c : Option Addr) (t132 : Bool) (w : World)   (R : Bool → World → Prop) : Prop :=
  Bm t132 (
    R false w) (
    Pn c fun a =>
    LdI .i64 (a.add 2) w fun x136 =>
    Bm (x136 == (0 : Int)) (
      Pn c fun a_1 =>
      LdI .i64 (a_1.add 13) w fun x142 =>
      Bm (x142 == (0 : Int)) (
        Pn c fun a_2 =>
        LdI .i64 (a_2.add 3) w fun x149 =>
        Bm (x149 == (0 : Int)) (
          R true w) (
          Pn c fun a_3 =>
          LdI .i64 (a_3.add 2) w fun x156 =>
          Bm (x156 == (4 : Int)) (
            Pn c fun a_4 =>
            LdI .i64 (a_4.add 13) w fun x162 =>
            Bm (decide (x162 ≥ (0 : Int))) (
              Pn c fun a_5 =>
              LdI .i64 (a_5.add 13) w fun x169 =>
              R (decide (x169 ≤ (10 : Int))) w) (
              R false w)) (
            R false w))) (
        Pn c fun a_6 =>
        LdI .i64 (a_6.add 2) w fun x156_1 =>
        Bm (x156_1 == (4 : Int)) (
          Pn c fun a_7 =>
          LdI .i64 (a_7.add 13) w fun x162_1 =>
          Bm (decide (x162_1 ≥ (0 : Int))) (
            Pn c fun a_8 =>
            LdI .i64 (a_8.add 13) w fun x169_1 =>
            R (decide (x169_1 ≤ (10 : Int))) w) (
            R false w)) (
          R false w))) (
      Pn c fun a_9 =>
      LdI .i64 (a_9.add 2) w fun x156_2 =>
      Bm (x156_2 == (4 : Int)) (
        Pn c fun a_10 =>
        LdI .i64 (a_10.add 13) w fun x162_2 =>
        Bm (decide (x162_2 ≥ (0 : Int))) (
          Pn c fun a_11 =>
          LdI .i64 (a_11.add 13) w fun x169_2 =>
          R (decide (x169_2 ≤ (10 : Int))) w) (
          R false w)) (
        R false w)))
theorem conn_Conn_Check.B8_eq (c : Option Addr) (t132 : Bool) (w : World)   (R : Bool → World → Prop)  :
    (
  Bm t132 (
    R false w) (
    Pn c fun a =>
    LdI .i64 (a.add 2) w fun x136 =>
    Bm (x136 == (0 : Int)) (
      Pn c fun a_1 =>
      LdI .i64 (a_1.add 13) w fun x142 =>
      Bm (x142 == (0 : Int)) (
        Pn c fun a_2 =>
        LdI .i64 (a_2.add 3) w fun x149 =>
        Bm (x149 == (0 : Int)) (
          R true w) (
          Pn c fun a_3 =>
          LdI .i64 (a_3.add 2) w fun x156 =>
          Bm (x156 == (4 : Int)) (
            Pn c fun a_4 =>
            LdI .i64 (a_4.add 13) w fun x162 =>
            Bm (decide (x162 ≥ (0 : Int))) (
              Pn c fun a_5 =>
              LdI .i64 (a_5.add 13) w fun x169 =>
              R (decide (x169 ≤ (10 : Int))) w) (
              R false w)) (
            R false w))) (
        Pn c fun a_6 =>
        LdI .i64 (a_6.add 2) w fun x156_1 =>
        Bm (x156_1 == (4 : Int)) (
          Pn c fun a_7 =>
          LdI .i64 (a_7.add 13) w fun x162_1 =>
          Bm (decide (x162_1 ≥ (0 : Int))) (
            Pn c fun a_8 =>
            LdI .i64 (a_8.add 13) w fun x169_1 =>
            R (decide (x169_1 ≤ (10 : Int))) w) (
            R false w)) (
          R false w))) (
      Pn c fun a_9 =>
      LdI .i64 (a_9.add 2) w fun x156_2 =>
      Bm (x156_2 == (4 : Int)) (
        Pn c fun a_10 =>
        LdI .i64 (a_10.add 13) w fun x162_2 =>
        Bm (decide (x162_2 ≥ (0 : Int))) (
          Pn c fun a_11 =>
          LdI .i64 (a_11.add 13) w fun x169_2 =>
          R (decide (x169_2 ≤ (10 : Int))) w) (
          R false w)) (
        R false w)))) = kstep Tryz.prog 417 Tryz.f17.results.toList (Tryz.f17.body.getD .skip) (conn_Conn_Check.RV R) (kvc Tryz.prog 417 Tryz.f17.results.toList (Tryz.f17.body.getD .skip) (conn_Conn_Check.RV R) [] 2000) [(0, [1, 1, 1, 0, 1, 0, 1, 1, 0, 1]), (0, [1, 1, 1, 0, 1, 0, 1, 1, 1]), (0, [1, 1, 1, 1])] [(0, .pointer c), (132, .bool t132)] w := by kernel_rfl
theorem conn_Conn_Check.B8_sound {R : Bool → World → Prop}  (c : Option Addr) (t132 : Bool) (w : World) (h : conn_Conn_Check.B8 c t132 w   R) :
    KW Tryz.prog 17 417 (conn_Conn_Check.RV R) ([(0, [1, 1, 1, 0, 1, 0, 1, 1, 0, 1]), (0, [1, 1, 1, 0, 1, 0, 1, 1, 1]), (0, [1, 1, 1, 1])].map (toItem (Tryz.f17.body.getD .skip))) [(0, .pointer c), (132, .bool t132)] w := by
  exact block_spec Tryz.func17 Tryz.mixed stops_nil (Eq.mp (conn_Conn_Check.B8_eq c t132 w   R ) h)
def conn_Conn_Check.B6 (c : Option Addr) (t113 : Bool) (w : World)   (R : Bool → World → Prop) : Prop :=
  Bm t113 (
    R false w) (
    Pn c fun a =>
    LdI .i64 (a.add 12) w fun x117 =>
    Bm (x117 != (0 : Int)) (
      conn_Conn_Check.B8 c true w  R) (
      Pn c fun a_1 =>
      LdI .i64 (a_1.add 9) w fun x123 =>
      Bm (x123 != (0 : Int)) (
        conn_Conn_Check.B8 c true w  R) (
        Pn c fun a_2 =>
        LdI .i64 (a_2.add 8) w fun x130 =>
        conn_Conn_Check.B8 c (x130 != (0 : Int)) w  R)))
theorem conn_Conn_Check.B6_eq (c : Option Addr) (t113 : Bool) (w : World)   (R : Bool → World → Prop) (sB8 : Option Addr → Bool → World → Prop) :
    (
  Bm t113 (
    R false w) (
    Pn c fun a =>
    LdI .i64 (a.add 12) w fun x117 =>
    Bm (x117 != (0 : Int)) (
      sB8 c true w) (
      Pn c fun a_1 =>
      LdI .i64 (a_1.add 9) w fun x123 =>
      Bm (x123 != (0 : Int)) (
        sB8 c true w) (
        Pn c fun a_2 =>
        LdI .i64 (a_2.add 8) w fun x130 =>
        sB8 c (x130 != (0 : Int)) w)))) = kstep Tryz.prog 417 Tryz.f17.results.toList (Tryz.f17.body.getD .skip) (conn_Conn_Check.RV R) (kvc Tryz.prog 417 Tryz.f17.results.toList (Tryz.f17.body.getD .skip) (conn_Conn_Check.RV R) [([(0, [1, 1, 1, 0, 1, 0, 1, 1, 0, 1]), (0, [1, 1, 1, 0, 1, 0, 1, 1, 1]), (0, [1, 1, 1, 1])], fun σ w => dP (slotOf σ 0) fun c_ => dB (slotOf σ 132) fun t132_ => sB8 c_ t132_ w)] 2000) [(0, [1, 1, 1, 0, 1, 0, 1, 0, 1]), (0, [1, 1, 1, 0, 1, 0, 1, 1]), (0, [1, 1, 1, 1])] [(0, .pointer c), (113, .bool t113)] w := by kernel_rfl
theorem conn_Conn_Check.B6_sound {R : Bool → World → Prop}  (c : Option Addr) (t113 : Bool) (w : World) (h : conn_Conn_Check.B6 c t113 w   R) :
    KW Tryz.prog 17 417 (conn_Conn_Check.RV R) ([(0, [1, 1, 1, 0, 1, 0, 1, 0, 1]), (0, [1, 1, 1, 0, 1, 0, 1, 1]), (0, [1, 1, 1, 1])].map (toItem (Tryz.f17.body.getD .skip))) [(0, .pointer c), (113, .bool t113)] w := by
  exact block_spec Tryz.func17 Tryz.mixed (stops_cons (fun σ w h => by
      obtain ⟨c_, e0, h⟩ := dP_elim h
      obtain ⟨t132_, e1, h⟩ := dB_elim h
      exact (conn_Conn_Check.B8_sound  c_ t132_ w h).weaken (Sub.cons (Sub.cons (Sub.nil _) e1) e0)) stops_nil) (Eq.mp (conn_Conn_Check.B6_eq c t113 w   R (fun c_ t132_ w => conn_Conn_Check.B8 c_ t132_ w  R)) h)
def conn_Conn_Check.B3 (c : Option Addr) (t77 : Bool) (w : World)   (R : Bool → World → Prop) : Prop :=
  Bm t77 (
    R false w) (
    Pn c fun a =>
    LdB (a.add 4) w fun x81 =>
    Bm x81 (
      conn_Conn_Check.B6 c true w  R) (
      Pn c fun a_1 =>
      LdB (a_1.add 5) w fun x86 =>
      Bm x86 (
        conn_Conn_Check.B6 c true w  R) (
        Pn c fun a_2 =>
        LdB (a_2.add 6) w fun x92 =>
        Bm x92 (
          conn_Conn_Check.B6 c true w  R) (
          Pn c fun a_3 =>
          LdB (a_3.add 7) w fun x98 =>
          Bm x98 (
            conn_Conn_Check.B6 c true w  R) (
            Pn c fun a_4 =>
            LdI .i64 (a_4.add 10) w fun x104 =>
            Bm (x104 != (0 : Int)) (
              conn_Conn_Check.B6 c true w  R) (
              Pn c fun a_5 =>
              LdI .i64 (a_5.add 11) w fun x111 =>
              conn_Conn_Check.B6 c (x111 != (0 : Int)) w  R))))))
theorem conn_Conn_Check.B3_eq (c : Option Addr) (t77 : Bool) (w : World)   (R : Bool → World → Prop) (sB6 : Option Addr → Bool → World → Prop) :
    (
  Bm t77 (
    R false w) (
    Pn c fun a =>
    LdB (a.add 4) w fun x81 =>
    Bm x81 (
      sB6 c true w) (
      Pn c fun a_1 =>
      LdB (a_1.add 5) w fun x86 =>
      Bm x86 (
        sB6 c true w) (
        Pn c fun a_2 =>
        LdB (a_2.add 6) w fun x92 =>
        Bm x92 (
          sB6 c true w) (
          Pn c fun a_3 =>
          LdB (a_3.add 7) w fun x98 =>
          Bm x98 (
            sB6 c true w) (
            Pn c fun a_4 =>
            LdI .i64 (a_4.add 10) w fun x104 =>
            Bm (x104 != (0 : Int)) (
              sB6 c true w) (
              Pn c fun a_5 =>
              LdI .i64 (a_5.add 11) w fun x111 =>
              sB6 c (x111 != (0 : Int)) w))))))) = kstep Tryz.prog 417 Tryz.f17.results.toList (Tryz.f17.body.getD .skip) (conn_Conn_Check.RV R) (kvc Tryz.prog 417 Tryz.f17.results.toList (Tryz.f17.body.getD .skip) (conn_Conn_Check.RV R) [([(0, [1, 1, 1, 0, 1, 0, 1, 0, 1]), (0, [1, 1, 1, 0, 1, 0, 1, 1]), (0, [1, 1, 1, 1])], fun σ w => dP (slotOf σ 0) fun c_ => dB (slotOf σ 113) fun t113_ => sB6 c_ t113_ w)] 2000) [(0, [1, 1, 1, 0, 1, 0, 0, 1]), (0, [1, 1, 1, 0, 1, 0, 1]), (0, [1, 1, 1, 1])] [(0, .pointer c), (77, .bool t77)] w := by kernel_rfl
theorem conn_Conn_Check.B3_sound {R : Bool → World → Prop}  (c : Option Addr) (t77 : Bool) (w : World) (h : conn_Conn_Check.B3 c t77 w   R) :
    KW Tryz.prog 17 417 (conn_Conn_Check.RV R) ([(0, [1, 1, 1, 0, 1, 0, 0, 1]), (0, [1, 1, 1, 0, 1, 0, 1]), (0, [1, 1, 1, 1])].map (toItem (Tryz.f17.body.getD .skip))) [(0, .pointer c), (77, .bool t77)] w := by
  exact block_spec Tryz.func17 Tryz.mixed (stops_cons (fun σ w h => by
      obtain ⟨c_, e0, h⟩ := dP_elim h
      obtain ⟨t113_, e1, h⟩ := dB_elim h
      exact (conn_Conn_Check.B6_sound  c_ t113_ w h).weaken (Sub.cons (Sub.cons (Sub.nil _) e1) e0)) stops_nil) (Eq.mp (conn_Conn_Check.B3_eq c t77 w   R (fun c_ t113_ w => conn_Conn_Check.B6 c_ t113_ w  R)) h)
def conn_Conn_Check.B4 (c : Option Addr) (t210 : Bool) (w : World)   (R : Bool → World → Prop) : Prop :=
  Bm t210 (
    R false w) (
    Pn c fun a =>
    LdI .i64 (a.add 10) w fun x214 =>
    Bm (x214 == (0 : Int)) (
      Pn c fun a_1 =>
      LdI .i64 (a_1.add 11) w fun x220 =>
      Bm (x220 == (0 : Int)) (
        Pn c fun a_2 =>
        LdI .i64 (a_2.add 12) w fun x227 =>
        Bm (x227 == (0 : Int)) (
          Pn c fun a_3 =>
          LdI .i64 (a_3.add 9) w fun x234 =>
          Bm (x234 == (0 : Int)) (
            Pn c fun a_4 =>
            LdI .i64 (a_4.add 13) w fun x241 =>
            Bm (decide (x241 ≥ (0 : Int))) (
              Pn c fun a_5 =>
              LdI .i64 (a_5.add 13) w fun x248 =>
              R (decide (x248 ≤ (10 : Int))) w) (
              R false w)) (
            R false w)) (
          R false w)) (
        R false w)) (
      R false w))
theorem conn_Conn_Check.B4_eq (c : Option Addr) (t210 : Bool) (w : World)   (R : Bool → World → Prop)  :
    (
  Bm t210 (
    R false w) (
    Pn c fun a =>
    LdI .i64 (a.add 10) w fun x214 =>
    Bm (x214 == (0 : Int)) (
      Pn c fun a_1 =>
      LdI .i64 (a_1.add 11) w fun x220 =>
      Bm (x220 == (0 : Int)) (
        Pn c fun a_2 =>
        LdI .i64 (a_2.add 12) w fun x227 =>
        Bm (x227 == (0 : Int)) (
          Pn c fun a_3 =>
          LdI .i64 (a_3.add 9) w fun x234 =>
          Bm (x234 == (0 : Int)) (
            Pn c fun a_4 =>
            LdI .i64 (a_4.add 13) w fun x241 =>
            Bm (decide (x241 ≥ (0 : Int))) (
              Pn c fun a_5 =>
              LdI .i64 (a_5.add 13) w fun x248 =>
              R (decide (x248 ≤ (10 : Int))) w) (
              R false w)) (
            R false w)) (
          R false w)) (
        R false w)) (
      R false w))) = kstep Tryz.prog 417 Tryz.f17.results.toList (Tryz.f17.body.getD .skip) (conn_Conn_Check.RV R) (kvc Tryz.prog 417 Tryz.f17.results.toList (Tryz.f17.body.getD .skip) (conn_Conn_Check.RV R) [] 2000) [(0, [1, 1, 1, 1, 0, 1, 0, 0, 1]), (0, [1, 1, 1, 1, 0, 1, 0, 1]), (0, [1, 1, 1, 1, 1])] [(0, .pointer c), (210, .bool t210)] w := by kernel_rfl
theorem conn_Conn_Check.B4_sound {R : Bool → World → Prop}  (c : Option Addr) (t210 : Bool) (w : World) (h : conn_Conn_Check.B4 c t210 w   R) :
    KW Tryz.prog 17 417 (conn_Conn_Check.RV R) ([(0, [1, 1, 1, 1, 0, 1, 0, 0, 1]), (0, [1, 1, 1, 1, 0, 1, 0, 1]), (0, [1, 1, 1, 1, 1])].map (toItem (Tryz.f17.body.getD .skip))) [(0, .pointer c), (210, .bool t210)] w := by
  exact block_spec Tryz.func17 Tryz.mixed stops_nil (Eq.mp (conn_Conn_Check.B4_eq c t210 w   R ) h)
def conn_Conn_Check.B9 (c : Option Addr) (t405 : Bool) (w : World)   (R : Bool → World → Prop) : Prop :=
  Bm t405 (
    R false w) (
    Pn c fun a =>
    LdB (a.add 6) w fun x409 =>
    Bm x409 (
      Pn c fun a_1 =>
      LdB (a_1.add 7) w fun x414 =>
      R (!x414) w) (
      R true w))
theorem conn_Conn_Check.B9_eq (c : Option Addr) (t405 : Bool) (w : World)   (R : Bool → World → Prop)  :
    (
  Bm t405 (
    R false w) (
    Pn c fun a =>
    LdB (a.add 6) w fun x409 =>
    Bm x409 (
      Pn c fun a_1 =>
      LdB (a_1.add 7) w fun x414 =>
      R (!x414) w) (
      R true w))) = kstep Tryz.prog 417 Tryz.f17.results.toList (Tryz.f17.body.getD .skip) (conn_Conn_Check.RV R) (kvc Tryz.prog 417 Tryz.f17.results.toList (Tryz.f17.body.getD .skip) (conn_Conn_Check.RV R) [] 2000) [(0, [1, 1, 1, 1, 1, 1, 1, 1, 1, 1, 0, 1]), (0, [1, 1, 1, 1, 1, 1, 1, 1, 1, 1, 1])] [(0, .pointer c), (405, .bool t405)] w := by kernel_rfl
theorem conn_Conn_Check.B9_sound {R : Bool → World → Prop}  (c : Option Addr) (t405 : Bool) (w : World) (h : conn_Conn_Check.B9 c t405 w   R) :
    KW Tryz.prog 17 417 (conn_Conn_Check.RV R) ([(0, [1, 1, 1, 1, 1, 1, 1, 1, 1, 1, 0, 1]), (0, [1, 1, 1, 1, 1, 1, 1, 1, 1, 1, 1])].map (toItem (Tryz.f17.body.getD .skip))) [(0, .pointer c), (405, .bool t405)] w := by
  exact block_spec Tryz.func17 Tryz.mixed stops_nil (Eq.mp (conn_Conn_Check.B9_eq c t405 w   R ) h)
def conn_Conn_Check.B7 (c i : Option Addr) (t316 : Bool) (w : World)   (R : Bool → World → Prop) : Prop :=
  Bm t316 (
    R false w) (
    conn_Conn_flying.Call c w fun r318 w1 =>
    Pn c fun a =>
    LdI .i64 (a.add 10) w1 fun x324 =>
    Bm (!((decide (r318 > (0 : Int))) == (decide (x324 > (0 : Int))))) (
      R false w1) (
      Pn c fun a_1 =>
      LdI .i64 (a_1.add 2) w1 fun x330 =>
      Bm (x330 != (3 : Int)) (
        Pn i fun a_2 =>
        LdI .i64 (a_2.add 9) w1.drew fun x335 =>
        Bm (x335 == (0 : Int)) (
          Pn i fun a_3 =>
          LdI .i64 (a_3.add 6) w1.drew fun x341 =>
          Pn c fun a_4 =>
          LdI .i64 (a_4.add 8) w1.drew fun x345 =>
          Bm (x341 == x345) (
            Pn c fun a_5 =>
            LdB (a_5.add 5) w1.drew fun x352 =>
            Bm (!x352) (
              Pn c fun a_6 =>
              LdB (a_6.add 6) w1.drew fun x359 =>
              Bm (!x359) (
                Pn c fun a_7 =>
                LdB (a_7.add 7) w1.drew fun x366 =>
                R (!x366) w1.drew) (
                R false w1.drew)) (
              R false w1.drew)) (
            R false w1.drew)) (
          R false w1.drew)) (
        Pn c fun a_8 =>
        LdB (a_8.add 6) w1 fun x372 =>
        Bm x372 (
          Pn c fun a_9 =>
          LdB (a_9.add 5) w1 fun x377 =>
          Bm (!x377) (
            conn_Conn_Check.B9 c true w1  R) (
            Pn c fun a_10 =>
            LdB (a_10.add 5) w1 fun x384 =>
            Bm x384 (
              Pn c fun a_11 =>
              LdB (a_11.add 4) w1 fun x389 =>
              Bm (!x389) (
                conn_Conn_Check.B9 c true w1  R) (
                Pn c fun a_12 =>
                LdB (a_12.add 5) w1 fun x397 =>
                Bm x397 (
                  Pn i fun a_13 =>
                  LdI .i64 (a_13.add 10) w1 fun x402 =>
                  conn_Conn_Check.B9 c (x402 != (0 : Int)) w1  R) (
                  conn_Conn_Check.B9 c false w1  R))) (
              Pn c fun a_14 =>
              LdB (a_14.add 5) w1 fun x397_1 =>
              Bm x397_1 (
                Pn i fun a_15 =>
                LdI .i64 (a_15.add 10) w1 fun x402_1 =>
                conn_Conn_Check.B9 c (x402_1 != (0 : Int)) w1  R) (
                conn_Conn_Check.B9 c false w1  R)))) (
          Pn c fun a_16 =>
          LdB (a_16.add 5) w1 fun x384_1 =>
          Bm x384_1 (
            Pn c fun a_17 =>
            LdB (a_17.add 4) w1 fun x389_1 =>
            Bm (!x389_1) (
              conn_Conn_Check.B9 c true w1  R) (
              Pn c fun a_18 =>
              LdB (a_18.add 5) w1 fun x397_2 =>
              Bm x397_2 (
                Pn i fun a_19 =>
                LdI .i64 (a_19.add 10) w1 fun x402_2 =>
                conn_Conn_Check.B9 c (x402_2 != (0 : Int)) w1  R) (
                conn_Conn_Check.B9 c false w1  R))) (
            Pn c fun a_20 =>
            LdB (a_20.add 5) w1 fun x397_3 =>
            Bm x397_3 (
              Pn i fun a_21 =>
              LdI .i64 (a_21.add 10) w1 fun x402_3 =>
              conn_Conn_Check.B9 c (x402_3 != (0 : Int)) w1  R) (
              conn_Conn_Check.B9 c false w1  R))))))
theorem conn_Conn_Check.B7_eq (c i : Option Addr) (t316 : Bool) (w : World)   (R : Bool → World → Prop) (sB9 : Option Addr → Bool → World → Prop) :
    (
  Bm t316 (
    R false w) (
    conn_Conn_flying.Call c w fun r318 w1 =>
    Pn c fun a =>
    LdI .i64 (a.add 10) w1 fun x324 =>
    Bm (!((decide (r318 > (0 : Int))) == (decide (x324 > (0 : Int))))) (
      R false w1) (
      Pn c fun a_1 =>
      LdI .i64 (a_1.add 2) w1 fun x330 =>
      Bm (x330 != (3 : Int)) (
        Pn i fun a_2 =>
        LdI .i64 (a_2.add 9) w1.drew fun x335 =>
        Bm (x335 == (0 : Int)) (
          Pn i fun a_3 =>
          LdI .i64 (a_3.add 6) w1.drew fun x341 =>
          Pn c fun a_4 =>
          LdI .i64 (a_4.add 8) w1.drew fun x345 =>
          Bm (x341 == x345) (
            Pn c fun a_5 =>
            LdB (a_5.add 5) w1.drew fun x352 =>
            Bm (!x352) (
              Pn c fun a_6 =>
              LdB (a_6.add 6) w1.drew fun x359 =>
              Bm (!x359) (
                Pn c fun a_7 =>
                LdB (a_7.add 7) w1.drew fun x366 =>
                R (!x366) w1.drew) (
                R false w1.drew)) (
              R false w1.drew)) (
            R false w1.drew)) (
          R false w1.drew)) (
        Pn c fun a_8 =>
        LdB (a_8.add 6) w1 fun x372 =>
        Bm x372 (
          Pn c fun a_9 =>
          LdB (a_9.add 5) w1 fun x377 =>
          Bm (!x377) (
            sB9 c true w1) (
            Pn c fun a_10 =>
            LdB (a_10.add 5) w1 fun x384 =>
            Bm x384 (
              Pn c fun a_11 =>
              LdB (a_11.add 4) w1 fun x389 =>
              Bm (!x389) (
                sB9 c true w1) (
                Pn c fun a_12 =>
                LdB (a_12.add 5) w1 fun x397 =>
                Bm x397 (
                  Pn i fun a_13 =>
                  LdI .i64 (a_13.add 10) w1 fun x402 =>
                  sB9 c (x402 != (0 : Int)) w1) (
                  sB9 c false w1))) (
              Pn c fun a_14 =>
              LdB (a_14.add 5) w1 fun x397_1 =>
              Bm x397_1 (
                Pn i fun a_15 =>
                LdI .i64 (a_15.add 10) w1 fun x402_1 =>
                sB9 c (x402_1 != (0 : Int)) w1) (
                sB9 c false w1)))) (
          Pn c fun a_16 =>
          LdB (a_16.add 5) w1 fun x384_1 =>
          Bm x384_1 (
            Pn c fun a_17 =>
            LdB (a_17.add 4) w1 fun x389_1 =>
            Bm (!x389_1) (
              sB9 c true w1) (
              Pn c fun a_18 =>
              LdB (a_18.add 5) w1 fun x397_2 =>
              Bm x397_2 (
                Pn i fun a_19 =>
                LdI .i64 (a_19.add 10) w1 fun x402_2 =>
                sB9 c (x402_2 != (0 : Int)) w1) (
                sB9 c false w1))) (
            Pn c fun a_20 =>
            LdB (a_20.add 5) w1 fun x397_3 =>
            Bm x397_3 (
              Pn i fun a_21 =>
              LdI .i64 (a_21.add 10) w1 fun x402_3 =>
              sB9 c (x402_3 != (0 : Int)) w1) (
              sB9 c false w1))))))) = kstep Tryz.prog 417 Tryz.f17.results.toList (Tryz.f17.body.getD .skip) (conn_Conn_Check.RV R) (kvc Tryz.prog 417 Tryz.f17.results.toList (Tryz.f17.body.getD .skip) (conn_Conn_Check.RV R) [([(0, [1, 1, 1, 1, 1, 1, 1, 1, 1, 1, 0, 1]), (0, [1, 1, 1, 1, 1, 1, 1, 1, 1, 1, 1])], fun σ w => dP (slotOf σ 0) fun c_ => dB (slotOf σ 405) fun t405_ => sB9 c_ t405_ w)] 2000) [(0, [1, 1, 1, 1, 1, 1, 0, 1]), (0, [1, 1, 1, 1, 1, 1, 1])] [(0, .pointer c), (3, .pointer i), (316, .bool t316)] w := by kernel_rfl
theorem conn_Conn_Check.B7_sound {R : Bool → World → Prop}  (c i : Option Addr) (t316 : Bool) (w : World) (h : conn_Conn_Check.B7 c i t316 w   R) :
    KW Tryz.prog 17 417 (conn_Conn_Check.RV R) ([(0, [1, 1, 1, 1, 1, 1, 0, 1]), (0, [1, 1, 1, 1, 1, 1, 1])].map (toItem (Tryz.f17.body.getD .skip))) [(0, .pointer c), (3, .pointer i), (316, .bool t316)] w := by
  exact block_spec Tryz.func17 Tryz.mixed (stops_cons (fun σ w h => by
      obtain ⟨c_, e0, h⟩ := dP_elim h
      obtain ⟨t405_, e1, h⟩ := dB_elim h
      exact (conn_Conn_Check.B9_sound  c_ t405_ w h).weaken (Sub.cons (Sub.cons (Sub.nil _) e1) e0)) stops_nil) (Eq.mp (conn_Conn_Check.B7_eq c i t316 w   R (fun c_ t405_ w => conn_Conn_Check.B9 c_ t405_ w  R)) h)
def conn_Conn_Check.B5 (c i : Option Addr) (t290 : Bool) (w : World)   (R : Bool → World → Prop) : Prop :=
  Bm t290 (
    R false w) (
    Pn c fun a =>
    LdI .i64 (a.add 10) w fun x294 =>
    Bm (decide (x294 < (0 : Int))) (
      conn_Conn_Check.B7 c i true w  R) (
      Pn c fun a_1 =>
      LdI .i64 (a_1.add 10) w fun x300 =>
      Bm (decide (x300 > (16 : Int))) (
        conn_Conn_Check.B7 c i true w  R) (
        Pn c fun a_2 =>
        LdI .i64 (a_2.add 9) w fun x307 =>
        Bm (decide (x307 < (0 : Int))) (
          conn_Conn_Check.B7 c i true w  R) (
          Pn c fun a_3 =>
          LdI .i64 (a_3.add 9) w fun x314 =>
          conn_Conn_Check.B7 c i (decide (x314 > (255 : Int))) w  R))))
theorem conn_Conn_Check.B5_eq (c i : Option Addr) (t290 : Bool) (w : World)   (R : Bool → World → Prop) (sB7 : Option Addr → Option Addr → Bool → World → Prop) :
    (
  Bm t290 (
    R false w) (
    Pn c fun a =>
    LdI .i64 (a.add 10) w fun x294 =>
    Bm (decide (x294 < (0 : Int))) (
      sB7 c i true w) (
      Pn c fun a_1 =>
      LdI .i64 (a_1.add 10) w fun x300 =>
      Bm (decide (x300 > (16 : Int))) (
        sB7 c i true w) (
        Pn c fun a_2 =>
        LdI .i64 (a_2.add 9) w fun x307 =>
        Bm (decide (x307 < (0 : Int))) (
          sB7 c i true w) (
          Pn c fun a_3 =>
          LdI .i64 (a_3.add 9) w fun x314 =>
          sB7 c i (decide (x314 > (255 : Int))) w))))) = kstep Tryz.prog 417 Tryz.f17.results.toList (Tryz.f17.body.getD .skip) (conn_Conn_Check.RV R) (kvc Tryz.prog 417 Tryz.f17.results.toList (Tryz.f17.body.getD .skip) (conn_Conn_Check.RV R) [([(0, [1, 1, 1, 1, 1, 1, 0, 1]), (0, [1, 1, 1, 1, 1, 1, 1])], fun σ w => dP (slotOf σ 0) fun c_ => dP (slotOf σ 3) fun i_ => dB (slotOf σ 316) fun t316_ => sB7 c_ i_ t316_ w)] 2000) [(0, [1, 1, 1, 1, 1, 0, 1]), (0, [1, 1, 1, 1, 1, 1])] [(0, .pointer c), (3, .pointer i), (290, .bool t290)] w := by kernel_rfl
theorem conn_Conn_Check.B5_sound {R : Bool → World → Prop}  (c i : Option Addr) (t290 : Bool) (w : World) (h : conn_Conn_Check.B5 c i t290 w   R) :
    KW Tryz.prog 17 417 (conn_Conn_Check.RV R) ([(0, [1, 1, 1, 1, 1, 0, 1]), (0, [1, 1, 1, 1, 1, 1])].map (toItem (Tryz.f17.body.getD .skip))) [(0, .pointer c), (3, .pointer i), (290, .bool t290)] w := by
  exact block_spec Tryz.func17 Tryz.mixed (stops_cons (fun σ w h => by
      obtain ⟨c_, e0, h⟩ := dP_elim h
      obtain ⟨i_, e1, h⟩ := dP_elim h
      obtain ⟨t316_, e2, h⟩ := dB_elim h
      exact (conn_Conn_Check.B7_sound  c_ i_ t316_ w h).weaken (Sub.cons (Sub.cons (Sub.cons (Sub.nil _) e2) e1) e0)) stops_nil) (Eq.mp (conn_Conn_Check.B5_eq c i t290 w   R (fun c_ i_ t316_ w => conn_Conn_Check.B7 c_ i_ t316_ w  R)) h)
def conn_Conn_Check.B2 (c i : Option Addr) (t37 : Bool) (w : World)   (R : Bool → World → Prop) : Prop :=
  Bm t37 (
    Pn i fun a =>
    LdI .i64 (a.add 9) w fun x41 =>
    Bm (x41 != (0 : Int)) (
      conn_Conn_Check.B3 c true w  R) (
      Pn i fun a_1 =>
      LdI .i64 (a_1.add 11) w fun x47 =>
      Bm (x47 != (0 : Int)) (
        conn_Conn_Check.B3 c true w  R) (
        Pn i fun a_2 =>
        LdI .i64 (a_2.add 12) w fun x54 =>
        Bm (x54 != (0 : Int)) (
          conn_Conn_Check.B3 c true w  R) (
          Pn i fun a_3 =>
          LdI .i64 (a_3.add 6) w fun x61 =>
          Bm (x61 != (0 : Int)) (
            conn_Conn_Check.B3 c true w  R) (
            Pn i fun a_4 =>
            LdI .i64 (a_4.add 7) w fun x68 =>
            Bm (x68 != (0 : Int)) (
              conn_Conn_Check.B3 c true w  R) (
              Pn i fun a_5 =>
              LdI .i64 (a_5.add 8) w fun x75 =>
              conn_Conn_Check.B3 c (x75 != (0 : Int)) w  R)))))) (
    Pn c fun a_6 =>
    LdI .i64 (a_6.add 2) w fun x176 =>
    Bm (x176 == (4 : Int)) (
      Pn c fun a_7 =>
      LdB (a_7.add 4) w fun x181 =>
      Bm (!x181) (
        conn_Conn_Check.B4 c true w  R) (
        Pn c fun a_8 =>
        LdB (a_8.add 5) w fun x187 =>
        Bm (!x187) (
          conn_Conn_Check.B4 c true w  R) (
          Pn c fun a_9 =>
          LdB (a_9.add 6) w fun x194 =>
          Bm (!x194) (
            conn_Conn_Check.B4 c true w  R) (
            Pn c fun a_10 =>
            LdB (a_10.add 7) w fun x201 =>
            Bm (!x201) (
              conn_Conn_Check.B4 c true w  R) (
              Pn i fun a_11 =>
              LdI .i64 (a_11.add 9) w fun x208 =>
              conn_Conn_Check.B4 c (x208 != (0 : Int)) w  R))))) (
      Pn c fun a_12 =>
      LdI .i64 (a_12.add 3) w fun x254 =>
      Bm (x254 != (0 : Int)) (
        conn_Conn_Check.B5 c i true w  R) (
        Pn c fun a_13 =>
        LdI .i64 (a_13.add 13) w fun x260 =>
        Bm (x260 != (0 : Int)) (
          conn_Conn_Check.B5 c i true w  R) (
          Pn c fun a_14 =>
          LdI .i64 (a_14.add 11) w fun x267 =>
          Bm (decide (x267 < (0 : Int))) (
            conn_Conn_Check.B5 c i true w  R) (
            Pn c fun a_15 =>
            LdI .i64 (a_15.add 11) w fun x274 =>
            Bm (decide (x274 > (3 : Int))) (
              conn_Conn_Check.B5 c i true w  R) (
              Pn c fun a_16 =>
              LdI .i64 (a_16.add 12) w fun x281 =>
              Bm (decide (x281 < (0 : Int))) (
                conn_Conn_Check.B5 c i true w  R) (
                Pn c fun a_17 =>
                LdI .i64 (a_17.add 12) w fun x288 =>
                conn_Conn_Check.B5 c i (decide (x288 > (12 : Int))) w  R)))))))
theorem conn_Conn_Check.B2_eq (c i : Option Addr) (t37 : Bool) (w : World)   (R : Bool → World → Prop) (sB3 : Option Addr → Bool → World → Prop) (sB4 : Option Addr → Bool → World → Prop) (sB5 : Option Addr → Option Addr → Bool → World → Prop) :
    (
  Bm t37 (
    Pn i fun a =>
    LdI .i64 (a.add 9) w fun x41 =>
    Bm (x41 != (0 : Int)) (
      sB3 c true w) (
      Pn i fun a_1 =>
      LdI .i64 (a_1.add 11) w fun x47 =>
      Bm (x47 != (0 : Int)) (
        sB3 c true w) (
        Pn i fun a_2 =>
        LdI .i64 (a_2.add 12) w fun x54 =>
        Bm (x54 != (0 : Int)) (
          sB3 c true w) (
          Pn i fun a_3 =>
          LdI .i64 (a_3.add 6) w fun x61 =>
          Bm (x61 != (0 : Int)) (
            sB3 c true w) (
            Pn i fun a_4 =>
            LdI .i64 (a_4.add 7) w fun x68 =>
            Bm (x68 != (0 : Int)) (
              sB3 c true w) (
              Pn i fun a_5 =>
              LdI .i64 (a_5.add 8) w fun x75 =>
              sB3 c (x75 != (0 : Int)) w)))))) (
    Pn c fun a_6 =>
    LdI .i64 (a_6.add 2) w fun x176 =>
    Bm (x176 == (4 : Int)) (
      Pn c fun a_7 =>
      LdB (a_7.add 4) w fun x181 =>
      Bm (!x181) (
        sB4 c true w) (
        Pn c fun a_8 =>
        LdB (a_8.add 5) w fun x187 =>
        Bm (!x187) (
          sB4 c true w) (
          Pn c fun a_9 =>
          LdB (a_9.add 6) w fun x194 =>
          Bm (!x194) (
            sB4 c true w) (
            Pn c fun a_10 =>
            LdB (a_10.add 7) w fun x201 =>
            Bm (!x201) (
              sB4 c true w) (
              Pn i fun a_11 =>
              LdI .i64 (a_11.add 9) w fun x208 =>
              sB4 c (x208 != (0 : Int)) w))))) (
      Pn c fun a_12 =>
      LdI .i64 (a_12.add 3) w fun x254 =>
      Bm (x254 != (0 : Int)) (
        sB5 c i true w) (
        Pn c fun a_13 =>
        LdI .i64 (a_13.add 13) w fun x260 =>
        Bm (x260 != (0 : Int)) (
          sB5 c i true w) (
          Pn c fun a_14 =>
          LdI .i64 (a_14.add 11) w fun x267 =>
          Bm (decide (x267 < (0 : Int))) (
            sB5 c i true w) (
            Pn c fun a_15 =>
            LdI .i64 (a_15.add 11) w fun x274 =>
            Bm (decide (x274 > (3 : Int))) (
              sB5 c i true w) (
              Pn c fun a_16 =>
              LdI .i64 (a_16.add 12) w fun x281 =>
              Bm (decide (x281 < (0 : Int))) (
                sB5 c i true w) (
                Pn c fun a_17 =>
                LdI .i64 (a_17.add 12) w fun x288 =>
                sB5 c i (decide (x288 > (12 : Int))) w)))))))) = kstep Tryz.prog 417 Tryz.f17.results.toList (Tryz.f17.body.getD .skip) (conn_Conn_Check.RV R) (kvc Tryz.prog 417 Tryz.f17.results.toList (Tryz.f17.body.getD .skip) (conn_Conn_Check.RV R) [([(0, [1, 1, 1, 0, 1, 0, 0, 1]), (0, [1, 1, 1, 0, 1, 0, 1]), (0, [1, 1, 1, 1])], fun σ w => dP (slotOf σ 0) fun c_ => dB (slotOf σ 77) fun t77_ => sB3 c_ t77_ w),
    ([(0, [1, 1, 1, 1, 0, 1, 0, 0, 1]), (0, [1, 1, 1, 1, 0, 1, 0, 1]), (0, [1, 1, 1, 1, 1])], fun σ w => dP (slotOf σ 0) fun c_ => dB (slotOf σ 210) fun t210_ => sB4 c_ t210_ w),
    ([(0, [1, 1, 1, 1, 1, 0, 1]), (0, [1, 1, 1, 1, 1, 1])], fun σ w => dP (slotOf σ 0) fun c_ => dP (slotOf σ 3) fun i_ => dB (slotOf σ 290) fun t290_ => sB5 c_ i_ t290_ w)] 2000) [(0, [1, 1, 1, 0, 1]), (0, [1, 1, 1, 1])] [(0, .pointer c), (3, .pointer i), (37, .bool t37)] w := by kernel_rfl
theorem conn_Conn_Check.B2_sound {R : Bool → World → Prop}  (c i : Option Addr) (t37 : Bool) (w : World) (h : conn_Conn_Check.B2 c i t37 w   R) :
    KW Tryz.prog 17 417 (conn_Conn_Check.RV R) ([(0, [1, 1, 1, 0, 1]), (0, [1, 1, 1, 1])].map (toItem (Tryz.f17.body.getD .skip))) [(0, .pointer c), (3, .pointer i), (37, .bool t37)] w := by
  exact block_spec Tryz.func17 Tryz.mixed (stops_cons (fun σ w h => by
      obtain ⟨c_, e0, h⟩ := dP_elim h
      obtain ⟨t77_, e1, h⟩ := dB_elim h
      exact (conn_Conn_Check.B3_sound  c_ t77_ w h).weaken (Sub.cons (Sub.cons (Sub.nil _) e1) e0)) (stops_cons (fun σ w h => by
      obtain ⟨c_, e0, h⟩ := dP_elim h
      obtain ⟨t210_, e1, h⟩ := dB_elim h
      exact (conn_Conn_Check.B4_sound  c_ t210_ w h).weaken (Sub.cons (Sub.cons (Sub.nil _) e1) e0)) (stops_cons (fun σ w h => by
      obtain ⟨c_, e0, h⟩ := dP_elim h
      obtain ⟨i_, e1, h⟩ := dP_elim h
      obtain ⟨t290_, e2, h⟩ := dB_elim h
      exact (conn_Conn_Check.B5_sound  c_ i_ t290_ w h).weaken (Sub.cons (Sub.cons (Sub.cons (Sub.nil _) e2) e1) e0)) stops_nil))) (Eq.mp (conn_Conn_Check.B2_eq c i t37 w   R (fun c_ t77_ w => conn_Conn_Check.B3 c_ t77_ w  R) (fun c_ t210_ w => conn_Conn_Check.B4 c_ t210_ w  R) (fun c_ i_ t290_ w => conn_Conn_Check.B5 c_ i_ t290_ w  R)) h)
def conn_Conn_Check.B1 (c i : Option Addr) (t18 : Bool) (w : World)   (R : Bool → World → Prop) : Prop :=
  Bm t18 (
    R false w) (
    Pn c fun a =>
    LdI .i64 (a.add 2) w fun x22 =>
    Bm (x22 == (0 : Int)) (
      conn_Conn_Check.B2 c i true w  R) (
      Pn c fun a_1 =>
      LdI .i64 (a_1.add 2) w fun x28 =>
      Bm (x28 == (4 : Int)) (
        Pn c fun a_2 =>
        LdI .i64 (a_2.add 3) w fun x34 =>
        conn_Conn_Check.B2 c i (x34 != (0 : Int)) w  R) (
        conn_Conn_Check.B2 c i false w  R)))
theorem conn_Conn_Check.B1_eq (c i : Option Addr) (t18 : Bool) (w : World)   (R : Bool → World → Prop) (sB2 : Option Addr → Option Addr → Bool → World → Prop) :
    (
  Bm t18 (
    R false w) (
    Pn c fun a =>
    LdI .i64 (a.add 2) w fun x22 =>
    Bm (x22 == (0 : Int)) (
      sB2 c i true w) (
      Pn c fun a_1 =>
      LdI .i64 (a_1.add 2) w fun x28 =>
      Bm (x28 == (4 : Int)) (
        Pn c fun a_2 =>
        LdI .i64 (a_2.add 3) w fun x34 =>
        sB2 c i (x34 != (0 : Int)) w) (
        sB2 c i false w)))) = kstep Tryz.prog 417 Tryz.f17.results.toList (Tryz.f17.body.getD .skip) (conn_Conn_Check.RV R) (kvc Tryz.prog 417 Tryz.f17.results.toList (Tryz.f17.body.getD .skip) (conn_Conn_Check.RV R) [([(0, [1, 1, 1, 0, 1]), (0, [1, 1, 1, 1])], fun σ w => dP (slotOf σ 0) fun c_ => dP (slotOf σ 3) fun i_ => dB (slotOf σ 37) fun t37_ => sB2 c_ i_ t37_ w)] 2000) [(0, [1, 1, 0, 1]), (0, [1, 1, 1])] [(0, .pointer c), (3, .pointer i), (18, .bool t18)] w := by kernel_rfl
theorem conn_Conn_Check.B1_sound {R : Bool → World → Prop}  (c i : Option Addr) (t18 : Bool) (w : World) (h : conn_Conn_Check.B1 c i t18 w   R) :
    KW Tryz.prog 17 417 (conn_Conn_Check.RV R) ([(0, [1, 1, 0, 1]), (0, [1, 1, 1])].map (toItem (Tryz.f17.body.getD .skip))) [(0, .pointer c), (3, .pointer i), (18, .bool t18)] w := by
  exact block_spec Tryz.func17 Tryz.mixed (stops_cons (fun σ w h => by
      obtain ⟨c_, e0, h⟩ := dP_elim h
      obtain ⟨i_, e1, h⟩ := dP_elim h
      obtain ⟨t37_, e2, h⟩ := dB_elim h
      exact (conn_Conn_Check.B2_sound  c_ i_ t37_ w h).weaken (Sub.cons (Sub.cons (Sub.cons (Sub.nil _) e2) e1) e0)) stops_nil) (Eq.mp (conn_Conn_Check.B1_eq c i t18 w   R (fun c_ i_ t37_ w => conn_Conn_Check.B2 c_ i_ t37_ w  R)) h)
def conn_Conn_Check.B0 (c : Option Addr) (w : World)   (R : Bool → World → Prop) : Prop :=
  conn_Conn_Info.Call c w fun r6 w1 =>
  Pn c fun a =>
  LdI .i64 (a.add 2) w1 fun x10 =>
  Bm (decide (x10 < (0 : Int))) (
    conn_Conn_Check.B1 c r6 true w1  R) (
    Pn c fun a_1 =>
    LdI .i64 (a_1.add 2) w1 fun x16 =>
    conn_Conn_Check.B1 c r6 (decide (x16 > (4 : Int))) w1  R)
theorem conn_Conn_Check.B0_eq (c : Option Addr) (w : World)   (R : Bool → World → Prop) (sB1 : Option Addr → Option Addr → Bool → World → Prop) :
    (
  conn_Conn_Info.Call c w fun r6 w1 =>
  Pn c fun a =>
  LdI .i64 (a.add 2) w1 fun x10 =>
  Bm (decide (x10 < (0 : Int))) (
    sB1 c r6 true w1) (
    Pn c fun a_1 =>
    LdI .i64 (a_1.add 2) w1 fun x16 =>
    sB1 c r6 (decide (x16 > (4 : Int))) w1)) = kstep Tryz.prog 417 Tryz.f17.results.toList (Tryz.f17.body.getD .skip) (conn_Conn_Check.RV R) (kvc Tryz.prog 417 Tryz.f17.results.toList (Tryz.f17.body.getD .skip) (conn_Conn_Check.RV R) [([(0, [1, 1, 0, 1]), (0, [1, 1, 1])], fun σ w => dP (slotOf σ 0) fun c_ => dP (slotOf σ 3) fun i_ => dB (slotOf σ 18) fun t18_ => sB1 c_ i_ t18_ w)] 2000) [(0, [])] [(0, .pointer c)] w := by kernel_rfl
theorem conn_Conn_Check.B0_sound {R : Bool → World → Prop}  (c : Option Addr) (w : World) (h : conn_Conn_Check.B0 c w   R) :
    KW Tryz.prog 17 417 (conn_Conn_Check.RV R) ([(0, [])].map (toItem (Tryz.f17.body.getD .skip))) [(0, .pointer c)] w := by
  exact block_spec Tryz.func17 Tryz.mixed (stops_cons (fun σ w h => by
      obtain ⟨c_, e0, h⟩ := dP_elim h
      obtain ⟨i_, e1, h⟩ := dP_elim h
      obtain ⟨t18_, e2, h⟩ := dB_elim h
      exact (conn_Conn_Check.B1_sound  c_ i_ t18_ w h).weaken (Sub.cons (Sub.cons (Sub.cons (Sub.nil _) e2) e1) e0)) stops_nil) (Eq.mp (conn_Conn_Check.B0_eq c w   R (fun c_ i_ t18_ w => conn_Conn_Check.B1 c_ i_ t18_ w  R)) h)
theorem conn_Conn_Check.sound (c : Option Addr) (w : World) (R : Bool → World → Prop) (h : conn_Conn_Check.B0 c w R) : conn_Conn_Check.Call c w R := by
  have hc := calls_of_block (args := #[.pointer c]) Tryz.func17 (body := (Tryz.f17.body.getD .skip)) (by kernel_rfl) (by kernel_rfl) (args_slot _) (conn_Conn_Check.B0_sound c w h)
  exact hc.mono fun e w' he => by
    obtain ⟨v, rfl, hv⟩ := he
    exact conn_Conn_Check.RV_elim hv
def connlaw_World_Play.B2 (w0 : Option Addr) (o : Nat) (c : Int) (t113 : Bool) (w : World)   (R : Bool → World → Prop) : Prop :=
  Bm t113 (
    R true w) (
    Pn w0 fun a =>
    LdL (a.add 8) w.drew fun x119_b x119_l x119_c =>
    LdI .i64 ⟨o, 1, none⟩ w.drew fun x121 =>
    Pn x119_b fun a_1 =>
    (0 ≤ x121 ∧ x121 < ((x119_l : Nat) : Int)) ∧
    LdI .i64 (Addr.add a_1 (x121.toNat * 7)) w.drew fun x123_0 =>
    LdI .i64 ((Addr.add a_1 (x121.toNat * 7)).add 1) w.drew fun x123_1 =>
    LdI .i64 ((Addr.add a_1 (x121.toNat * 7)).add 2) w.drew fun x123_2 =>
    LdI .i64 ((Addr.add a_1 (x121.toNat * 7)).add 3) w.drew fun x123_3 =>
    LdI .i64 ((Addr.add a_1 (x121.toNat * 7)).add 4) w.drew fun x123_4 =>
    LdI .i64 ((Addr.add a_1 (x121.toNat * 7)).add 5) w.drew fun x123_5 =>
    LdL ((Addr.add a_1 (x121.toNat * 7)).add 6) w.drew fun x123_6_b x123_6_l x123_6_c =>
    connlaw_World_Feed.Call w0 c x123_0 x123_1 x123_2 x123_3 x123_4 x123_5 x123_6_b x123_6_l x123_6_c w.drew fun r124 w1 =>
    R r124 w1)
theorem connlaw_World_Play.B2_eq (w0 : Option Addr) (o : Nat) (c : Int) (t113 : Bool) (w : World)   (R : Bool → World → Prop)  :
    (
  Bm t113 (
    R true w) (
    Pn w0 fun a =>
    LdL (a.add 8) w.drew fun x119_b x119_l x119_c =>
    LdI .i64 ⟨o, 1, none⟩ w.drew fun x121 =>
    Pn x119_b fun a_1 =>
    (0 ≤ x121 ∧ x121 < ((x119_l : Nat) : Int)) ∧
    LdI .i64 (Addr.add a_1 (x121.toNat * 7)) w.drew fun x123_0 =>
    LdI .i64 ((Addr.add a_1 (x121.toNat * 7)).add 1) w.drew fun x123_1 =>
    LdI .i64 ((Addr.add a_1 (x121.toNat * 7)).add 2) w.drew fun x123_2 =>
    LdI .i64 ((Addr.add a_1 (x121.toNat * 7)).add 3) w.drew fun x123_3 =>
    LdI .i64 ((Addr.add a_1 (x121.toNat * 7)).add 4) w.drew fun x123_4 =>
    LdI .i64 ((Addr.add a_1 (x121.toNat * 7)).add 5) w.drew fun x123_5 =>
    LdL ((Addr.add a_1 (x121.toNat * 7)).add 6) w.drew fun x123_6_b x123_6_l x123_6_c =>
    connlaw_World_Feed.Call w0 c x123_0 x123_1 x123_2 x123_3 x123_4 x123_5 x123_6_b x123_6_l x123_6_c w.drew fun r124 w1 =>
    R r124 w1)) = kstep Tryz.prog 392 Tryz.f18.results.toList (Tryz.f18.body.getD .skip) (connlaw_World_Play.RV R) (kvc Tryz.prog 392 Tryz.f18.results.toList (Tryz.f18.body.getD .skip) (connlaw_World_Play.RV R) [] 2000) [(0, [1, 1, 1, 1, 0, 1, 0, 1, 1, 1, 0, 0, 1]), (0, [1, 1, 1, 1, 0, 1, 0, 1, 1, 1, 0, 1]), (1, [1]), (0, [1, 1, 1, 1, 1])] [(0, .pointer w0), (3, .pointer (some ⟨o, 0, none⟩)), (5, .int .i64 c), (113, .bool t113)] w := by kernel_rfl
theorem connlaw_World_Play.B2_sound {R : Bool → World → Prop}  (w0 : Option Addr) (o : Nat) (c : Int) (t113 : Bool) (w : World) (h : connlaw_World_Play.B2 w0 o c t113 w   R) :
    KW Tryz.prog 18 392 (connlaw_World_Play.RV R) ([(0, [1, 1, 1, 1, 0, 1, 0, 1, 1, 1, 0, 0, 1]), (0, [1, 1, 1, 1, 0, 1, 0, 1, 1, 1, 0, 1]), (1, [1]), (0, [1, 1, 1, 1, 1])].map (toItem (Tryz.f18.body.getD .skip))) [(0, .pointer w0), (3, .pointer (some ⟨o, 0, none⟩)), (5, .int .i64 c), (113, .bool t113)] w := by
  exact block_spec Tryz.func18 Tryz.mixed stops_nil (Eq.mp (connlaw_World_Play.B2_eq w0 o c t113 w   R ) h)
def connlaw_World_Play.B3 (w0 : Option Addr) (o : Nat) (c : Int) (t172 : Bool) (w : World)   (R : Bool → World → Prop) : Prop :=
  Bm t172 (
    R true w) (
    LdI .i64 ⟨o, 1, none⟩ w.drew fun x176 =>
    Pn w0 fun a =>
    LdL (a.add 8) w.drew fun x180_b x180_l x180_c =>
    LdI .i64 ⟨o, 2, none⟩ w.drew fun x182 =>
    Pn x180_b fun a_1 =>
    (0 ≤ x182 ∧ x182 < ((x180_l : Nat) : Int)) ∧
    LdI .i64 (Addr.add a_1 (x182.toNat * 7)) w.drew fun x184_0 =>
    LdI .i64 ((Addr.add a_1 (x182.toNat * 7)).add 1) w.drew fun x184_1 =>
    LdI .i64 ((Addr.add a_1 (x182.toNat * 7)).add 2) w.drew fun x184_2 =>
    LdI .i64 ((Addr.add a_1 (x182.toNat * 7)).add 3) w.drew fun x184_3 =>
    LdI .i64 ((Addr.add a_1 (x182.toNat * 7)).add 4) w.drew fun x184_4 =>
    LdI .i64 ((Addr.add a_1 (x182.toNat * 7)).add 5) w.drew fun x184_5 =>
    LdL ((Addr.add a_1 (x182.toNat * 7)).add 6) w.drew fun x184_6_b x184_6_l x184_6_c =>
    connlaw_World_Passive.Call w0 c x176 x184_0 x184_1 x184_2 x184_3 x184_4 x184_5 x184_6_b x184_6_l x184_6_c w.drew fun r185 w1 =>
    R r185 w1)
theorem connlaw_World_Play.B3_eq (w0 : Option Addr) (o : Nat) (c : Int) (t172 : Bool) (w : World)   (R : Bool → World → Prop)  :
    (
  Bm t172 (
    R true w) (
    LdI .i64 ⟨o, 1, none⟩ w.drew fun x176 =>
    Pn w0 fun a =>
    LdL (a.add 8) w.drew fun x180_b x180_l x180_c =>
    LdI .i64 ⟨o, 2, none⟩ w.drew fun x182 =>
    Pn x180_b fun a_1 =>
    (0 ≤ x182 ∧ x182 < ((x180_l : Nat) : Int)) ∧
    LdI .i64 (Addr.add a_1 (x182.toNat * 7)) w.drew fun x184_0 =>
    LdI .i64 ((Addr.add a_1 (x182.toNat * 7)).add 1) w.drew fun x184_1 =>
    LdI .i64 ((Addr.add a_1 (x182.toNat * 7)).add 2) w.drew fun x184_2 =>
    LdI .i64 ((Addr.add a_1 (x182.toNat * 7)).add 3) w.drew fun x184_3 =>
    LdI .i64 ((Addr.add a_1 (x182.toNat * 7)).add 4) w.drew fun x184_4 =>
    LdI .i64 ((Addr.add a_1 (x182.toNat * 7)).add 5) w.drew fun x184_5 =>
    LdL ((Addr.add a_1 (x182.toNat * 7)).add 6) w.drew fun x184_6_b x184_6_l x184_6_c =>
    connlaw_World_Passive.Call w0 c x176 x184_0 x184_1 x184_2 x184_3 x184_4 x184_5 x184_6_b x184_6_l x184_6_c w.drew fun r185 w1 =>
    R r185 w1)) = kstep Tryz.prog 392 Tryz.f18.results.toList (Tryz.f18.body.getD .skip) (connlaw_World_Play.RV R) (kvc Tryz.prog 392 Tryz.f18.results.toList (Tryz.f18.body.getD .skip) (connlaw_World_Play.RV R) [] 2000) [(0, [1, 1, 1, 1, 0, 1, 0, 1, 1, 1, 1, 1, 1, 1, 0, 0, 1]), (0, [1, 1, 1, 1, 0, 1, 0, 1, 1, 1, 1, 1, 1, 1, 0, 1]), (1, [1]), (0, [1, 1, 1, 1, 1])] [(0, .pointer w0), (3, .pointer (some ⟨o, 0, none⟩)), (5, .int .i64 c), (172, .bool t172)] w := by kernel_rfl
theorem connlaw_World_Play.B3_sound {R : Bool → World → Prop}  (w0 : Option Addr) (o : Nat) (c : Int) (t172 : Bool) (w : World) (h : connlaw_World_Play.B3 w0 o c t172 w   R) :
    KW Tryz.prog 18 392 (connlaw_World_Play.RV R) ([(0, [1, 1, 1, 1, 0, 1, 0, 1, 1, 1, 1, 1, 1, 1, 0, 0, 1]), (0, [1, 1, 1, 1, 0, 1, 0, 1, 1, 1, 1, 1, 1, 1, 0, 1]), (1, [1]), (0, [1, 1, 1, 1, 1])].map (toItem (Tryz.f18.body.getD .skip))) [(0, .pointer w0), (3, .pointer (some ⟨o, 0, none⟩)), (5, .int .i64 c), (172, .bool t172)] w := by
  exact block_spec Tryz.func18 Tryz.mixed stops_nil (Eq.mp (connlaw_World_Play.B3_eq w0 o c t172 w   R ) h)
def connlaw_World_Play.B4 (w0 a_b : Option Addr) (a_l a_c : Nat) (b_b : Option Addr) (b_l b_c : Nat) (t295 : Bool) (w : World)   (R : Bool → World → Prop) : Prop :=
  Bm t295 (
    R false w) (
    connlaw_World_Out.Call w0 a_b a_l a_c b_b b_l b_c w fun r299 w1 =>
    R r299 w1)
theorem connlaw_World_Play.B4_eq (w0 a_b : Option Addr) (a_l a_c : Nat) (b_b : Option Addr) (b_l b_c : Nat) (t295 : Bool) (w : World)   (R : Bool → World → Prop)  :
    (
  Bm t295 (
    R false w) (
    connlaw_World_Out.Call w0 a_b a_l a_c b_b b_l b_c w fun r299 w1 =>
    R r299 w1)) = kstep Tryz.prog 392 Tryz.f18.results.toList (Tryz.f18.body.getD .skip) (connlaw_World_Play.RV R) (kvc Tryz.prog 392 Tryz.f18.results.toList (Tryz.f18.body.getD .skip) (connlaw_World_Play.RV R) [] 2000) [(0, [1, 1, 1, 1, 0, 1, 0, 1, 1, 1, 1, 1, 1, 1, 1, 1, 1, 1, 1, 1, 1, 1, 0, 1, 1, 1, 1, 1, 0, 1]), (0, [1, 1, 1, 1, 0, 1, 0, 1, 1, 1, 1, 1, 1, 1, 1, 1, 1, 1, 1, 1, 1, 1, 0, 1, 1, 1, 1, 1, 1]), (1, [1]), (0, [1, 1, 1, 1, 1])] [(0, .pointer w0), (21, .slice a_b a_l a_c), (24, .slice b_b b_l b_c), (295, .bool t295)] w := by kernel_rfl
theorem connlaw_World_Play.B4_sound {R : Bool → World → Prop}  (w0 a_b : Option Addr) (a_l a_c : Nat) (b_b : Option Addr) (b_l b_c : Nat) (t295 : Bool) (w : World) (h : connlaw_World_Play.B4 w0 a_b a_l a_c b_b b_l b_c t295 w   R) :
    KW Tryz.prog 18 392 (connlaw_World_Play.RV R) ([(0, [1, 1, 1, 1, 0, 1, 0, 1, 1, 1, 1, 1, 1, 1, 1, 1, 1, 1, 1, 1, 1, 1, 0, 1, 1, 1, 1, 1, 0, 1]), (0, [1, 1, 1, 1, 0, 1, 0, 1, 1, 1, 1, 1, 1, 1, 1, 1, 1, 1, 1, 1, 1, 1, 0, 1, 1, 1, 1, 1, 1]), (1, [1]), (0, [1, 1, 1, 1, 1])].map (toItem (Tryz.f18.body.getD .skip))) [(0, .pointer w0), (21, .slice a_b a_l a_c), (24, .slice b_b b_l b_c), (295, .bool t295)] w := by
  exact block_spec Tryz.func18 Tryz.mixed stops_nil (Eq.mp (connlaw_World_Play.B4_eq w0 a_b a_l a_c b_b b_l b_c t295 w   R ) h)
def connlaw_World_Play.B5 (w0 g_b : Option Addr) (g_l g_c : Nat) (a_b : Option Addr) (a_l a_c : Nat) (b_b : Option Addr) (b_l b_c : Nat) (t336 : Bool) (w : World)   (R : Bool → World → Prop) : Prop :=
  Bm t336 (
    R false w) (
    connlaw_World_Own.Call w0 g_b g_l g_c w fun w1 =>
    connlaw_World_Out.Call w0 a_b a_l a_c b_b b_l b_c w1 fun r343 w2 =>
    R r343 w2)
theorem connlaw_World_Play.B5_eq (w0 g_b : Option Addr) (g_l g_c : Nat) (a_b : Option Addr) (a_l a_c : Nat) (b_b : Option Addr) (b_l b_c : Nat) (t336 : Bool) (w : World)   (R : Bool → World → Prop)  :
    (
  Bm t336 (
    R false w) (
    connlaw_World_Own.Call w0 g_b g_l g_c w fun w1 =>
    connlaw_World_Out.Call w0 a_b a_l a_c b_b b_l b_c w1 fun r343 w2 =>
    R r343 w2)) = kstep Tryz.prog 392 Tryz.f18.results.toList (Tryz.f18.body.getD .skip) (connlaw_World_Play.RV R) (kvc Tryz.prog 392 Tryz.f18.results.toList (Tryz.f18.body.getD .skip) (connlaw_World_Play.RV R) [] 2000) [(0, [1, 1, 1, 1, 0, 1, 0, 1, 1, 1, 1, 1, 1, 1, 1, 1, 1, 1, 1, 1, 1, 1, 1, 1, 0, 1, 1, 0, 1]), (0, [1, 1, 1, 1, 0, 1, 0, 1, 1, 1, 1, 1, 1, 1, 1, 1, 1, 1, 1, 1, 1, 1, 1, 1, 0, 1, 1, 1]), (1, [1]), (0, [1, 1, 1, 1, 1])] [(0, .pointer w0), (26, .slice g_b g_l g_c), (27, .slice a_b a_l a_c), (30, .slice b_b b_l b_c), (336, .bool t336)] w := by kernel_rfl
theorem connlaw_World_Play.B5_sound {R : Bool → World → Prop}  (w0 g_b : Option Addr) (g_l g_c : Nat) (a_b : Option Addr) (a_l a_c : Nat) (b_b : Option Addr) (b_l b_c : Nat) (t336 : Bool) (w : World) (h : connlaw_World_Play.B5 w0 g_b g_l g_c a_b a_l a_c b_b b_l b_c t336 w   R) :
    KW Tryz.prog 18 392 (connlaw_World_Play.RV R) ([(0, [1, 1, 1, 1, 0, 1, 0, 1, 1, 1, 1, 1, 1, 1, 1, 1, 1, 1, 1, 1, 1, 1, 1, 1, 0, 1, 1, 0, 1]), (0, [1, 1, 1, 1, 0, 1, 0, 1, 1, 1, 1, 1, 1, 1, 1, 1, 1, 1, 1, 1, 1, 1, 1, 1, 0, 1, 1, 1]), (1, [1]), (0, [1, 1, 1, 1, 1])].map (toItem (Tryz.f18.body.getD .skip))) [(0, .pointer w0), (26, .slice g_b g_l g_c), (27, .slice a_b a_l a_c), (30, .slice b_b b_l b_c), (336, .bool t336)] w := by
  exact block_spec Tryz.func18 Tryz.mixed stops_nil (Eq.mp (connlaw_World_Play.B5_eq w0 g_b g_l g_c a_b a_l a_c b_b b_l b_c t336 w   R ) h)
def connlaw_World_Play.B1 (w0 : Option Addr) (o : Nat) (c : Int) (t79 : Bool) (w : World)   (R : Bool → World → Prop) : Prop :=
  Bm t79 (
    R true w) (
    LdI .i64 ⟨o, 0, none⟩ w fun x81 =>
    Bm (x81 == (3 : Int)) (
      Pn w0 fun a =>
      LdI .i64 (a.add 9) w fun x87_0 =>
      LdI .i64 ((a.add 9).add 1) w fun x87_1 =>
      LdI .i64 ((a.add 9).add 2) w fun x87_2 =>
      LdI .i64 ((a.add 9).add 3) w fun x87_3 =>
      LdI .i64 ((a.add 9).add 4) w fun x87_4 =>
      LdI .i64 ((a.add 9).add 5) w fun x87_5 =>
      LdL ((a.add 9).add 6) w fun x87_6_b x87_6_l x87_6_c =>
      New (.cells #[.int .i64 (0 : Int), .int .i64 (0 : Int), .int .i64 (0 : Int), .int .i64 (0 : Int), .int .i64 (0 : Int), .int .i64 (0 : Int), .slice none 0 0] 45) w fun s_ w1 =>
      Sts [.int .i64 x87_0, .int .i64 x87_1, .int .i64 x87_2, .int .i64 x87_3, .int .i64 x87_4, .int .i64 x87_5, .slice x87_6_b x87_6_l x87_6_c] ⟨s_, 0, none⟩ 0 w1 fun w2 =>
      LdI .i64 ⟨o, 1, none⟩ w2 fun x89 =>
      Sts [.int .i64 x89] ⟨s_, 4, none⟩ 0 w2 fun w3 =>
      LdS ⟨o, 4, none⟩ w3 fun x92 =>
      ToBytes 5 x92 w3 fun b93 c93 w4 =>
      Sts [.slice (some ⟨b93, 0, none⟩) x92.size c93] ⟨s_, 6, none⟩ 0 w4 fun w5 =>
      LdI .i64 ⟨s_, 0, none⟩ w5 fun x97_0 =>
      LdI .i64 ⟨s_, 1, none⟩ w5 fun x97_1 =>
      LdI .i64 ⟨s_, 2, none⟩ w5 fun x97_2 =>
      LdI .i64 ⟨s_, 3, none⟩ w5 fun x97_3 =>
      LdI .i64 ⟨s_, 4, none⟩ w5 fun x97_4 =>
      LdI .i64 ⟨s_, 5, none⟩ w5 fun x97_5 =>
      LdL ⟨s_, 6, none⟩ w5 fun x97_6_b x97_6_l x97_6_c =>
      connlaw_World_Feed.Call w0 c x97_0 x97_1 x97_2 x97_3 x97_4 x97_5 x97_6_b x97_6_l x97_6_c w5 fun r98 w6 =>
      R r98 w6) (
      Bm (x81 == (4 : Int)) (
        LdI .i64 ⟨o, 1, none⟩ w.drew fun x102 =>
        Bm (decide (x102 < (0 : Int))) (
          connlaw_World_Play.B2 w0 o c true w.drew  R) (
          LdI .i64 ⟨o, 1, none⟩ w.drew fun x106 =>
          Pn w0 fun a_1 =>
          LdL (a_1.add 8) w.drew fun x110_b x110_l x110_c =>
          connlaw_World_Play.B2 w0 o c (decide (x106 ≥ ((x110_l : Nat) : Int))) w.drew  R)) (
        Bm (x81 == (5 : Int)) (
          Pn w0 fun a_2 =>
          (0 ≤ c ∧ c < ((2 : Nat) : Int)) ∧
          LdP (Addr.add a_2 (c.toNat * 1)) w.drew fun x133 =>
          LdI .i64 ⟨o, 1, none⟩ w.drew fun x135 =>
          conn_Conn_OpenActive.Call x133 x135 w.drew fun r136_0_b r136_0_l r136_0_c r136_1 w7 =>
          Pn w0 fun a_3 =>
          (0 ≤ c ∧ c < ((2 : Nat) : Int)) ∧
          LdP (Addr.add (a_3.add 2) (c.toNat * 1)) w7.drew fun x145 =>
          LdI .i64 ⟨o, 1, none⟩ w7.drew fun x147 =>
          connm_Conn_OpenActive.Call x145 x147 w7.drew fun r148_0_b r148_0_l r148_0_c r148_1 w8 =>
          Bm (r136_1 != r148_1) (
            R false w8) (
            connlaw_World_Out.Call w0 r136_0_b r136_0_l r136_0_c r148_0_b r148_0_l r148_0_c w8 fun r157 w9 =>
            R r157 w9)) (
          Bm (x81 == (6 : Int)) (
            LdI .i64 ⟨o, 2, none⟩ w.drew fun x161 =>
            Bm (decide (x161 < (0 : Int))) (
              connlaw_World_Play.B3 w0 o c true w.drew  R) (
              LdI .i64 ⟨o, 2, none⟩ w.drew fun x165 =>
              Pn w0 fun a_4 =>
              LdL (a_4.add 8) w.drew fun x169_b x169_l x169_c =>
              connlaw_World_Play.B3 w0 o c (decide (x165 ≥ ((x169_l : Nat) : Int))) w.drew  R)) (
            Bm (x81 == (7 : Int)) (
              Pn w0 fun a_5 =>
              LdI .i64 (a_5.add 9) w fun x191_0 =>
              LdI .i64 ((a_5.add 9).add 1) w fun x191_1 =>
              LdI .i64 ((a_5.add 9).add 2) w fun x191_2 =>
              LdI .i64 ((a_5.add 9).add 3) w fun x191_3 =>
              LdI .i64 ((a_5.add 9).add 4) w fun x191_4 =>
              LdI .i64 ((a_5.add 9).add 5) w fun x191_5 =>
              LdL ((a_5.add 9).add 6) w fun x191_6_b x191_6_l x191_6_c =>
              New (.cells #[.int .i64 (0 : Int), .int .i64 (0 : Int), .int .i64 (0 : Int), .int .i64 (0 : Int), .int .i64 (0 : Int), .int .i64 (0 : Int), .slice none 0 0] 45) w fun s__1 w10 =>
              Sts [.int .i64 x191_0, .int .i64 x191_1, .int .i64 x191_2, .int .i64 x191_3, .int .i64 x191_4, .int .i64 x191_5, .slice x191_6_b x191_6_l x191_6_c] ⟨s__1, 0, none⟩ 0 w10 fun w11 =>
              LdI .i64 ⟨o, 2, none⟩ w11 fun x193 =>
              Sts [.int .i64 x193] ⟨s__1, 4, none⟩ 0 w11 fun w12 =>
              LdS ⟨o, 4, none⟩ w12 fun x196 =>
              ToBytes 5 x196 w12 fun b197 c197 w13 =>
              Sts [.slice (some ⟨b197, 0, none⟩) x196.size c197] ⟨s__1, 6, none⟩ 0 w13 fun w14 =>
              LdI .i64 ⟨o, 1, none⟩ w14 fun x202 =>
              LdI .i64 ⟨s__1, 0, none⟩ w14 fun x203_0 =>
              LdI .i64 ⟨s__1, 1, none⟩ w14 fun x203_1 =>
              LdI .i64 ⟨s__1, 2, none⟩ w14 fun x203_2 =>
              LdI .i64 ⟨s__1, 3, none⟩ w14 fun x203_3 =>
              LdI .i64 ⟨s__1, 4, none⟩ w14 fun x203_4 =>
              LdI .i64 ⟨s__1, 5, none⟩ w14 fun x203_5 =>
              LdL ⟨s__1, 6, none⟩ w14 fun x203_6_b x203_6_l x203_6_c =>
              connlaw_World_Passive.Call w0 c x202 x203_0 x203_1 x203_2 x203_3 x203_4 x203_5 x203_6_b x203_6_l x203_6_c w14 fun r204 w15 =>
              R r204 w15) (
              Bm (x81 == (8 : Int)) (
                Pn w0 fun a_6 =>
                (0 ≤ c ∧ c < ((2 : Nat) : Int)) ∧
                LdP (Addr.add a_6 (c.toNat * 1)) w fun x212 =>
                conn_Conn_Tick.Call x212 w fun r213_b r213_l r213_c w16 =>
                Pn w0 fun a_7 =>
                (0 ≤ c ∧ c < ((2 : Nat) : Int)) ∧
                LdP (Addr.add (a_7.add 2) (c.toNat * 1)) w16 fun x219 =>
                connm_Conn_Tick.Call x219 w16 fun r220_b r220_l r220_c w17 =>
                connlaw_World_Out.Call w0 r213_b r213_l r213_c r220_b r220_l r220_c w17 fun r224 w18 =>
                R r224 w18) (
                Bm (x81 == (9 : Int)) (
                  Pn w0 fun a_8 =>
                  (0 ≤ c ∧ c < ((2 : Nat) : Int)) ∧
                  LdP (Addr.add a_8 (c.toNat * 1)) w fun x233 =>
                  conn_Conn_Close.Call x233 w fun r234_0_b r234_0_l r234_0_c r234_1 w19 =>
                  Pn w0 fun a_9 =>
                  (0 ≤ c ∧ c < ((2 : Nat) : Int)) ∧
                  LdP (Addr.add (a_9.add 2) (c.toNat * 1)) w19 fun x243 =>
                  connm_Conn_Close.Call x243 w19 fun r244_0_b r244_0_l r244_0_c r244_1 w20 =>
                  Bm (r234_1 != r244_1) (
                    R false w20) (
                    connlaw_World_Out.Call w0 r234_0_b r234_0_l r234_0_c r244_0_b r244_0_l r244_0_c w20 fun r253 w21 =>
                    R r253 w21)) (
                  Bm (x81 == (10 : Int)) (
                    LdS ⟨o, 4, none⟩ w fun x257 =>
                    ToBytes 5 x257 w fun b258 c258 w22 =>
                    LdS ⟨o, 4, none⟩ w22 fun x260 =>
                    ToBytes 5 x260 w22 fun b261 c261 w23 =>
                    Pn w0 fun a_10 =>
                    (0 ≤ c ∧ c < ((2 : Nat) : Int)) ∧
                    LdP (Addr.add a_10 (c.toNat * 1)) w23 fun x268 =>
                    conn_Conn_Send.Call x268 (some ⟨b258, 0, none⟩) x257.size c258 w23 fun r270_0 r270_1_b r270_1_l r270_1_c r270_2 w24 =>
                    Pn w0 fun a_11 =>
                    (0 ≤ c ∧ c < ((2 : Nat) : Int)) ∧
                    LdP (Addr.add (a_11.add 2) (c.toNat * 1)) w24 fun x280 =>
                    connm_Conn_Send.Call x280 (some ⟨b261, 0, none⟩) x260.size c261 w24 fun r282_0 r282_1_b r282_1_l r282_1_c r282_2 w25 =>
                    connlaw_Scribble.Call (some ⟨b258, 0, none⟩) x257.size c258 w25 fun w26 =>
                    Bm (r270_0 != r282_0) (
                      connlaw_World_Play.B4 w0 r270_1_b r270_1_l r270_1_c r282_1_b r282_1_l r282_1_c true w26  R) (
                      connlaw_World_Play.B4 w0 r270_1_b r270_1_l r270_1_c r282_1_b r282_1_l r282_1_c (r270_2 != r282_2) w26  R)) (
                    Bm (x81 == (11 : Int)) (
                      Pn w0 fun a_12 =>
                      (0 ≤ c ∧ c < ((2 : Nat) : Int)) ∧
                      LdP (Addr.add a_12 (c.toNat * 1)) w.drew fun x308 =>
                      LdI .i64 ⟨o, 1, none⟩ w.drew fun x310 =>
                      conn_Conn_Recv.Call x308 x310 w.drew fun r311_0_b r311_0_l r311_0_c r311_1_b r311_1_l r311_1_c r311_2 w27 =>
                      Pn w0 fun a_13 =>
                      (0 ≤ c ∧ c < ((2 : Nat) : Int)) ∧
                      LdP (Addr.add (a_13.add 2) (c.toNat * 1)) w27.drew fun x321 =>
                      LdI .i64 ⟨o, 1, none⟩ w27.drew fun x323 =>
                      connm_Conn_Recv.Call x321 x323 w27.drew fun r324_0_b r324_0_l r324_0_c r324_1_b r324_1_l r324_1_c r324_2 w28 =>
                      Bm (r311_2 != r324_2) (
                        connlaw_World_Play.B5 w0 r311_0_b r311_0_l r311_0_c r311_1_b r311_1_l r311_1_c r324_1_b r324_1_l r324_1_c true w28  R) (
                        api_SameBytes.Call r311_0_b r311_0_l r311_0_c r324_0_b r324_0_l r324_0_c w28 fun r334 w29 =>
                        connlaw_World_Play.B5 w0 r311_0_b r311_0_l r311_0_c r311_1_b r311_1_l r311_1_c r324_1_b r324_1_l r324_1_c (!r334) w29  R)) (
                      Bm (x81 == (12 : Int)) (
                        Pn w0 fun a_14 =>
                        (0 ≤ c ∧ c < ((2 : Nat) : Int)) ∧
                        LdP (Addr.add a_14 (c.toNat * 1)) w fun x352 =>
                        conn_Conn_Abort.Call x352 w fun r353_0_b r353_0_l r353_0_c r353_1 w30 =>
                        Pn w0 fun a_15 =>
                        (0 ≤ c ∧ c < ((2 : Nat) : Int)) ∧
                        LdP (Addr.add (a_15.add 2) (c.toNat * 1)) w30 fun x362 =>
                        connm_Conn_Abort.Call x362 w30 fun r363_0_b r363_0_l r363_0_c r363_1 w31 =>
                        Bm (r353_1 != r363_1) (
                          R false w31) (
                          connlaw_World_Out.Call w0 r353_0_b r353_0_l r353_0_c r363_0_b r363_0_l r363_0_c w31 fun r372 w32 =>
                          R r372 w32)) (
                        Bm (x81 == (13 : Int)) (
                          connlaw_World_LikeInfo.Call w0 c w fun r377 w33 =>
                          R r377 w33) (
                          Bm (x81 == (14 : Int)) (
                            connlaw_World_LikePeek.Call w0 c w fun r382 w34 =>
                            R r382 w34) (
                            Bm (x81 == (15 : Int)) (
                              Pn w0 fun a_16 =>
                              (0 ≤ c ∧ c < ((2 : Nat) : Int)) ∧
                              LdP (Addr.add a_16 (c.toNat * 1)) w fun x390 =>
                              conn_Conn_Check.Call x390 w fun r391 w35 =>
                              R r391 w35) (
                              R true w))))))))))))))
theorem connlaw_World_Play.B1_eq (w0 : Option Addr) (o : Nat) (c : Int) (t79 : Bool) (w : World)   (R : Bool → World → Prop) (sB2 : Option Addr → Nat → Int → Bool → World → Prop) (sB3 : Option Addr → Nat → Int → Bool → World → Prop) (sB4 : Option Addr → Option Addr → Nat → Nat → Option Addr → Nat → Nat → Bool → World → Prop) (sB5 : Option Addr → Option Addr → Nat → Nat → Option Addr → Nat → Nat → Option Addr → Nat → Nat → Bool → World → Prop) :
    (
  Bm t79 (
    R true w) (
    LdI .i64 ⟨o, 0, none⟩ w fun x81 =>
    Bm (x81 == (3 : Int)) (
      Pn w0 fun a =>
      LdI .i64 (a.add 9) w fun x87_0 =>
      LdI .i64 ((a.add 9).add 1) w fun x87_1 =>
      LdI .i64 ((a.add 9).add 2) w fun x87_2 =>
      LdI .i64 ((a.add 9).add 3) w fun x87_3 =>
      LdI .i64 ((a.add 9).add 4) w fun x87_4 =>
      LdI .i64 ((a.add 9).add 5) w fun x87_5 =>
      LdL ((a.add 9).add 6) w fun x87_6_b x87_6_l x87_6_c =>
      New (.cells #[.int .i64 (0 : Int), .int .i64 (0 : Int), .int .i64 (0 : Int), .int .i64 (0 : Int), .int .i64 (0 : Int), .int .i64 (0 : Int), .slice none 0 0] 45) w fun s_ w1 =>
      Sts [.int .i64 x87_0, .int .i64 x87_1, .int .i64 x87_2, .int .i64 x87_3, .int .i64 x87_4, .int .i64 x87_5, .slice x87_6_b x87_6_l x87_6_c] ⟨s_, 0, none⟩ 0 w1 fun w2 =>
      LdI .i64 ⟨o, 1, none⟩ w2 fun x89 =>
      Sts [.int .i64 x89] ⟨s_, 4, none⟩ 0 w2 fun w3 =>
      LdS ⟨o, 4, none⟩ w3 fun x92 =>
      ToBytes 5 x92 w3 fun b93 c93 w4 =>
      Sts [.slice (some ⟨b93, 0, none⟩) x92.size c93] ⟨s_, 6, none⟩ 0 w4 fun w5 =>
      LdI .i64 ⟨s_, 0, none⟩ w5 fun x97_0 =>
      LdI .i64 ⟨s_, 1, none⟩ w5 fun x97_1 =>
      LdI .i64 ⟨s_, 2, none⟩ w5 fun x97_2 =>
      LdI .i64 ⟨s_, 3, none⟩ w5 fun x97_3 =>
      LdI .i64 ⟨s_, 4, none⟩ w5 fun x97_4 =>
      LdI .i64 ⟨s_, 5, none⟩ w5 fun x97_5 =>
      LdL ⟨s_, 6, none⟩ w5 fun x97_6_b x97_6_l x97_6_c =>
      connlaw_World_Feed.Call w0 c x97_0 x97_1 x97_2 x97_3 x97_4 x97_5 x97_6_b x97_6_l x97_6_c w5 fun r98 w6 =>
      R r98 w6) (
      Bm (x81 == (4 : Int)) (
        LdI .i64 ⟨o, 1, none⟩ w.drew fun x102 =>
        Bm (decide (x102 < (0 : Int))) (
          sB2 w0 o c true w.drew) (
          LdI .i64 ⟨o, 1, none⟩ w.drew fun x106 =>
          Pn w0 fun a_1 =>
          LdL (a_1.add 8) w.drew fun x110_b x110_l x110_c =>
          sB2 w0 o c (decide (x106 ≥ ((x110_l : Nat) : Int))) w.drew)) (
        Bm (x81 == (5 : Int)) (
          Pn w0 fun a_2 =>
          (0 ≤ c ∧ c < ((2 : Nat) : Int)) ∧
          LdP (Addr.add a_2 (c.toNat * 1)) w.drew fun x133 =>
          LdI .i64 ⟨o, 1, none⟩ w.drew fun x135 =>
          conn_Conn_OpenActive.Call x133 x135 w.drew fun r136_0_b r136_0_l r136_0_c r136_1 w7 =>
          Pn w0 fun a_3 =>
          (0 ≤ c ∧ c < ((2 : Nat) : Int)) ∧
          LdP (Addr.add (a_3.add 2) (c.toNat * 1)) w7.drew fun x145 =>
          LdI .i64 ⟨o, 1, none⟩ w7.drew fun x147 =>
          connm_Conn_OpenActive.Call x145 x147 w7.drew fun r148_0_b r148_0_l r148_0_c r148_1 w8 =>
          Bm (r136_1 != r148_1) (
            R false w8) (
            connlaw_World_Out.Call w0 r136_0_b r136_0_l r136_0_c r148_0_b r148_0_l r148_0_c w8 fun r157 w9 =>
            R r157 w9)) (
          Bm (x81 == (6 : Int)) (
            LdI .i64 ⟨o, 2, none⟩ w.drew fun x161 =>
            Bm (decide (x161 < (0 : Int))) (
              sB3 w0 o c true w.drew) (
              LdI .i64 ⟨o, 2, none⟩ w.drew fun x165 =>
              Pn w0 fun a_4 =>
              LdL (a_4.add 8) w.drew fun x169_b x169_l x169_c =>
              sB3 w0 o c (decide (x165 ≥ ((x169_l : Nat) : Int))) w.drew)) (
            Bm (x81 == (7 : Int)) (
              Pn w0 fun a_5 =>
              LdI .i64 (a_5.add 9) w fun x191_0 =>
              LdI .i64 ((a_5.add 9).add 1) w fun x191_1 =>
              LdI .i64 ((a_5.add 9).add 2) w fun x191_2 =>
              LdI .i64 ((a_5.add 9).add 3) w fun x191_3 =>
              LdI .i64 ((a_5.add 9).add 4) w fun x191_4 =>
              LdI .i64 ((a_5.add 9).add 5) w fun x191_5 =>
              LdL ((a_5.add 9).add 6) w fun x191_6_b x191_6_l x191_6_c =>
              New (.cells #[.int .i64 (0 : Int), .int .i64 (0 : Int), .int .i64 (0 : Int), .int .i64 (0 : Int), .int .i64 (0 : Int), .int .i64 (0 : Int), .slice none 0 0] 45) w fun s__1 w10 =>
              Sts [.int .i64 x191_0, .int .i64 x191_1, .int .i64 x191_2, .int .i64 x191_3, .int .i64 x191_4, .int .i64 x191_5, .slice x191_6_b x191_6_l x191_6_c] ⟨s__1, 0, none⟩ 0 w10 fun w11 =>
              LdI .i64 ⟨o, 2, none⟩ w11 fun x193 =>
              Sts [.int .i64 x193] ⟨s__1, 4, none⟩ 0 w11 fun w12 =>
              LdS ⟨o, 4, none⟩ w12 fun x196 =>
              ToBytes 5 x196 w12 fun b197 c197 w13 =>
              Sts [.slice (some ⟨b197, 0, none⟩) x196.size c197] ⟨s__1, 6, none⟩ 0 w13 fun w14 =>
              LdI .i64 ⟨o, 1, none⟩ w14 fun x202 =>
              LdI .i64 ⟨s__1, 0, none⟩ w14 fun x203_0 =>
              LdI .i64 ⟨s__1, 1, none⟩ w14 fun x203_1 =>
              LdI .i64 ⟨s__1, 2, none⟩ w14 fun x203_2 =>
              LdI .i64 ⟨s__1, 3, none⟩ w14 fun x203_3 =>
              LdI .i64 ⟨s__1, 4, none⟩ w14 fun x203_4 =>
              LdI .i64 ⟨s__1, 5, none⟩ w14 fun x203_5 =>
              LdL ⟨s__1, 6, none⟩ w14 fun x203_6_b x203_6_l x203_6_c =>
              connlaw_World_Passive.Call w0 c x202 x203_0 x203_1 x203_2 x203_3 x203_4 x203_5 x203_6_b x203_6_l x203_6_c w14 fun r204 w15 =>
              R r204 w15) (
              Bm (x81 == (8 : Int)) (
                Pn w0 fun a_6 =>
                (0 ≤ c ∧ c < ((2 : Nat) : Int)) ∧
                LdP (Addr.add a_6 (c.toNat * 1)) w fun x212 =>
                conn_Conn_Tick.Call x212 w fun r213_b r213_l r213_c w16 =>
                Pn w0 fun a_7 =>
                (0 ≤ c ∧ c < ((2 : Nat) : Int)) ∧
                LdP (Addr.add (a_7.add 2) (c.toNat * 1)) w16 fun x219 =>
                connm_Conn_Tick.Call x219 w16 fun r220_b r220_l r220_c w17 =>
                connlaw_World_Out.Call w0 r213_b r213_l r213_c r220_b r220_l r220_c w17 fun r224 w18 =>
                R r224 w18) (
                Bm (x81 == (9 : Int)) (
                  Pn w0 fun a_8 =>
                  (0 ≤ c ∧ c < ((2 : Nat) : Int)) ∧
                  LdP (Addr.add a_8 (c.toNat * 1)) w fun x233 =>
                  conn_Conn_Close.Call x233 w fun r234_0_b r234_0_l r234_0_c r234_1 w19 =>
                  Pn w0 fun a_9 =>
                  (0 ≤ c ∧ c < ((2 : Nat) : Int)) ∧
                  LdP (Addr.add (a_9.add 2) (c.toNat * 1)) w19 fun x243 =>
                  connm_Conn_Close.Call x243 w19 fun r244_0_b r244_0_l r244_0_c r244_1 w20 =>
                  Bm (r234_1 != r244_1) (
                    R false w20) (
                    connlaw_World_Out.Call w0 r234_0_b r234_0_l r234_0_c r244_0_b r244_0_l r244_0_c w20 fun r253 w21 =>
                    R r253 w21)) (
                  Bm (x81 == (10 : Int)) (
                    LdS ⟨o, 4, none⟩ w fun x257 =>
                    ToBytes 5 x257 w fun b258 c258 w22 =>
                    LdS ⟨o, 4, none⟩ w22 fun x260 =>
                    ToBytes 5 x260 w22 fun b261 c261 w23 =>
                    Pn w0 fun a_10 =>
                    (0 ≤ c ∧ c < ((2 : Nat) : Int)) ∧
                    LdP (Addr.add a_10 (c.toNat * 1)) w23 fun x268 =>
                    conn_Conn_Send.Call x268 (some ⟨b258, 0, none⟩) x257.size c258 w23 fun r270_0 r270_1_b r270_1_l r270_1_c r270_2 w24 =>
                    Pn w0 fun a_11 =>
                    (0 ≤ c ∧ c < ((2 : Nat) : Int)) ∧
                    LdP (Addr.add (a_11.add 2) (c.toNat * 1)) w24 fun x280 =>
                    connm_Conn_Send.Call x280 (some ⟨b261, 0, none⟩) x260.size c261 w24 fun r282_0 r282_1_b r282_1_l r282_1_c r282_2 w25 =>
                    connlaw_Scribble.Call (some ⟨b258, 0, none⟩) x257.size c258 w25 fun w26 =>
                    Bm (r270_0 != r282_0) (
                      sB4 w0 r270_1_b r270_1_l r270_1_c r282_1_b r282_1_l r282_1_c true w26) (
                      sB4 w0 r270_1_b r270_1_l r270_1_c r282_1_b r282_1_l r282_1_c (r270_2 != r282_2) w26)) (
                    Bm (x81 == (11 : Int)) (
                      Pn w0 fun a_12 =>
                      (0 ≤ c ∧ c < ((2 : Nat) : Int)) ∧
                      LdP (Addr.add a_12 (c.toNat * 1)) w.drew fun x308 =>
                      LdI .i64 ⟨o, 1, none⟩ w.drew fun x310 =>
                      conn_Conn_Recv.Call x308 x310 w.drew fun r311_0_b r311_0_l r311_0_c r311_1_b r311_1_l r311_1_c r311_2 w27 =>
                      Pn w0 fun a_13 =>
                      (0 ≤ c ∧ c < ((2 : Nat) : Int)) ∧
                      LdP (Addr.add (a_13.add 2) (c.toNat * 1)) w27.drew fun x321 =>
                      LdI .i64 ⟨o, 1, none⟩ w27.drew fun x323 =>
                      connm_Conn_Recv.Call x321 x323 w27.drew fun r324_0_b r324_0_l r324_0_c r324_1_b r324_1_l r324_1_c r324_2 w28 =>
                      Bm (r311_2 != r324_2) (
                        sB5 w0 r311_0_b r311_0_l r311_0_c r311_1_b r311_1_l r311_1_c r324_1_b r324_1_l r324_1_c true w28) (
                        api_SameBytes.Call r311_0_b r311_0_l r311_0_c r324_0_b r324_0_l r324_0_c w28 fun r334 w29 =>
                        sB5 w0 r311_0_b r311_0_l r311_0_c r311_1_b r311_1_l r311_1_c r324_1_b r324_1_l r324_1_c (!r334) w29)) (
                      Bm (x81 == (12 : Int)) (
                        Pn w0 fun a_14 =>
                        (0 ≤ c ∧ c < ((2 : Nat) : Int)) ∧
                        LdP (Addr.add a_14 (c.toNat * 1)) w fun x352 =>
                        conn_Conn_Abort.Call x352 w fun r353_0_b r353_0_l r353_0_c r353_1 w30 =>
                        Pn w0 fun a_15 =>
                        (0 ≤ c ∧ c < ((2 : Nat) : Int)) ∧
                        LdP (Addr.add (a_15.add 2) (c.toNat * 1)) w30 fun x362 =>
                        connm_Conn_Abort.Call x362 w30 fun r363_0_b r363_0_l r363_0_c r363_1 w31 =>
                        Bm (r353_1 != r363_1) (
                          R false w31) (
                          connlaw_World_Out.Call w0 r353_0_b r353_0_l r353_0_c r363_0_b r363_0_l r363_0_c w31 fun r372 w32 =>
                          R r372 w32)) (
                        Bm (x81 == (13 : Int)) (
                          connlaw_World_LikeInfo.Call w0 c w fun r377 w33 =>
                          R r377 w33) (
                          Bm (x81 == (14 : Int)) (
                            connlaw_World_LikePeek.Call w0 c w fun r382 w34 =>
                            R r382 w34) (
                            Bm (x81 == (15 : Int)) (
                              Pn w0 fun a_16 =>
                              (0 ≤ c ∧ c < ((2 : Nat) : Int)) ∧
                              LdP (Addr.add a_16 (c.toNat * 1)) w fun x390 =>
                              conn_Conn_Check.Call x390 w fun r391 w35 =>
                              R r391 w35) (
                              R true w))))))))))))))) = kstep Tryz.prog 392 Tryz.f18.results.toList (Tryz.f18.body.getD .skip) (connlaw_World_Play.RV R) (kvc Tryz.prog 392 Tryz.f18.results.toList (Tryz.f18.body.getD .skip) (connlaw_World_Play.RV R) [([(0, [1, 1, 1, 1, 0, 1, 0, 1, 1, 1, 0, 0, 1]), (0, [1, 1, 1, 1, 0, 1, 0, 1, 1, 1, 0, 1]), (1, [1]), (0, [1, 1, 1, 1, 1])], fun σ w => dP (slotOf σ 0) fun w0_ => dK (slotOf σ 3) fun o_ => dI .i64 (slotOf σ 5) fun c_ => dB (slotOf σ 113) fun t113_ => sB2 w0_ o_ c_ t113_ w),
    ([(0, [1, 1, 1, 1, 0, 1, 0, 1, 1, 1, 1, 1, 1, 1, 0, 0, 1]), (0, [1, 1, 1, 1, 0, 1, 0, 1, 1, 1, 1, 1, 1, 1, 0, 1]), (1, [1]), (0, [1, 1, 1, 1, 1])], fun σ w => dP (slotOf σ 0) fun w0_ => dK (slotOf σ 3) fun o_ => dI .i64 (slotOf σ 5) fun c_ => dB (slotOf σ 172) fun t172_ => sB3 w0_ o_ c_ t172_ w),
    ([(0, [1, 1, 1, 1, 0, 1, 0, 1, 1, 1, 1, 1, 1, 1, 1, 1, 1, 1, 1, 1, 1, 1, 0, 1, 1, 1, 1, 1, 0, 1]), (0, [1, 1, 1, 1, 0, 1, 0, 1, 1, 1, 1, 1, 1, 1, 1, 1, 1, 1, 1, 1, 1, 1, 0, 1, 1, 1, 1, 1, 1]), (1, [1]), (0, [1, 1, 1, 1, 1])], fun σ w => dP (slotOf σ 0) fun w0_ => dL (slotOf σ 21) fun a_b_ a_l_ a_c_ => dL (slotOf σ 24) fun b_b_ b_l_ b_c_ => dB (slotOf σ 295) fun t295_ => sB4 w0_ a_b_ a_l_ a_c_ b_b_ b_l_ b_c_ t295_ w),
    ([(0, [1, 1, 1, 1, 0, 1, 0, 1, 1, 1, 1, 1, 1, 1, 1, 1, 1, 1, 1, 1, 1, 1, 1, 1, 0, 1, 1, 0, 1]), (0, [1, 1, 1, 1, 0, 1, 0, 1, 1, 1, 1, 1, 1, 1, 1, 1, 1, 1, 1, 1, 1, 1, 1, 1, 0, 1, 1, 1]), (1, [1]), (0, [1, 1, 1, 1, 1])], fun σ w => dP (slotOf σ 0) fun w0_ => dL (slotOf σ 26) fun g_b_ g_l_ g_c_ => dL (slotOf σ 27) fun a_b_ a_l_ a_c_ => dL (slotOf σ 30) fun b_b_ b_l_ b_c_ => dB (slotOf σ 336) fun t336_ => sB5 w0_ g_b_ g_l_ g_c_ a_b_ a_l_ a_c_ b_b_ b_l_ b_c_ t336_ w)] 2000) [(0, [1, 1, 1, 0, 1]), (0, [1, 1, 1, 1])] [(0, .pointer w0), (3, .pointer (some ⟨o, 0, none⟩)), (5, .int .i64 c), (79, .bool t79)] w := by kernel_rfl
theorem connlaw_World_Play.B1_sound {R : Bool → World → Prop}  (w0 : Option Addr) (o : Nat) (c : Int) (t79 : Bool) (w : World) (h : connlaw_World_Play.B1 w0 o c t79 w   R) :
    KW Tryz.prog 18 392 (connlaw_World_Play.RV R) ([(0, [1, 1, 1, 0, 1]), (0, [1, 1, 1, 1])].map (toItem (Tryz.f18.body.getD .skip))) [(0, .pointer w0), (3, .pointer (some ⟨o, 0, none⟩)), (5, .int .i64 c), (79, .bool t79)] w := by
  exact block_spec Tryz.func18 Tryz.mixed (stops_cons (fun σ w h => by
      obtain ⟨w0_, e0, h⟩ := dP_elim h
      obtain ⟨o_, e1, h⟩ := dK_elim h
      obtain ⟨c_, e2, h⟩ := dI_elim h
      obtain ⟨t113_, e3, h⟩ := dB_elim h
      exact (connlaw_World_Play.B2_sound  w0_ o_ c_ t113_ w h).weaken (Sub.cons (Sub.cons (Sub.cons (Sub.cons (Sub.nil _) e3) e2) e1) e0)) (stops_cons (fun σ w h => by
      obtain ⟨w0_, e0, h⟩ := dP_elim h
      obtain ⟨o_, e1, h⟩ := dK_elim h
      obtain ⟨c_, e2, h⟩ := dI_elim h
      obtain ⟨t172_, e3, h⟩ := dB_elim h
      exact (connlaw_World_Play.B3_sound  w0_ o_ c_ t172_ w h).weaken (Sub.cons (Sub.cons (Sub.cons (Sub.cons (Sub.nil _) e3) e2) e1) e0)) (stops_cons (fun σ w h => by
      obtain ⟨w0_, e0, h⟩ := dP_elim h
      obtain ⟨a_b_, a_l_, a_c_, e1, h⟩ := dL_elim h
      obtain ⟨b_b_, b_l_, b_c_, e2, h⟩ := dL_elim h
      obtain ⟨t295_, e3, h⟩ := dB_elim h
      exact (connlaw_World_Play.B4_sound  w0_ a_b_ a_l_ a_c_ b_b_ b_l_ b_c_ t295_ w h).weaken (Sub.cons (Sub.cons (Sub.cons (Sub.cons (Sub.nil _) e3) e2) e1) e0)) (stops_cons (fun σ w h => by
      obtain ⟨w0_, e0, h⟩ := dP_elim h
      obtain ⟨g_b_, g_l_, g_c_, e1, h⟩ := dL_elim h
      obtain ⟨a_b_, a_l_, a_c_, e2, h⟩ := dL_elim h
      obtain ⟨b_b_, b_l_, b_c_, e3, h⟩ := dL_elim h
      obtain ⟨t336_, e4, h⟩ := dB_elim h
      exact (connlaw_World_Play.B5_sound  w0_ g_b_ g_l_ g_c_ a_b_ a_l_ a_c_ b_b_ b_l_ b_c_ t336_ w h).weaken (Sub.cons (Sub.cons (Sub.cons (Sub.cons (Sub.cons (Sub.nil _) e4) e3) e2) e1) e0)) stops_nil)))) (Eq.mp (connlaw_World_Play.B1_eq w0 o c t79 w   R (fun w0_ o_ c_ t113_ w => connlaw_World_Play.B2 w0_ o_ c_ t113_ w  R) (fun w0_ o_ c_ t172_ w => connlaw_World_Play.B3 w0_ o_ c_ t172_ w  R) (fun w0_ a_b_ a_l_ a_c_ b_b_ b_l_ b_c_ t295_ w => connlaw_World_Play.B4 w0_ a_b_ a_l_ a_c_ b_b_ b_l_ b_c_ t295_ w  R) (fun w0_ g_b_ g_l_ g_c_ a_b_ a_l_ a_c_ b_b_ b_l_ b_c_ t336_ w => connlaw_World_Play.B5 w0_ g_b_ g_l_ g_c_ a_b_ a_l_ a_c_ b_b_ b_l_ b_c_ t336_ w  R)) h)
def connlaw_World_Play.B0 (w0 : Option Addr) (o_0 o_1 o_2 o_3 : Int) (o_4 o_5 : ByteArray) (w : World)   (R : Bool → World → Prop) : Prop :=
  New (.cells #[.int .i64 o_0, .int .i64 o_1, .int .i64 o_2, .int .i64 o_3, .string o_4, .string o_5] 32) w fun o_ w1 =>
  LdI .i64 ⟨o_, 0, none⟩ w1 fun x37 =>
  Bm (x37 == (1 : Int)) (
    LdI .i64 ⟨o_, 1, none⟩ w1.drew fun x44 =>
    LdI .i64 ⟨o_, 2, none⟩ w1.drew fun x46 =>
    LdI .i64 ⟨o_, 3, none⟩ w1.drew fun x48 =>
    Pn w0 fun a =>
    Sts [.int .i64 x44] ((a.add 9).add 2) 0 w1.drew fun w2 =>
    w2.cell? ⟨o_, 3, none⟩ = some (.int .i64 x48) ∧
    w2.cell? ⟨o_, 2, none⟩ = some (.int .i64 x46) ∧
    Pn w0 fun a_1 =>
    Sts [.int .i64 x46] ((a_1.add 9).add 3) 0 w2 fun w3 =>
    w3.cell? ⟨o_, 3, none⟩ = some (.int .i64 x48) ∧
    Pn w0 fun a_2 =>
    Sts [.int .i64 x48] ((a_2.add 9).add 5) 0 w3 fun w4 =>
    R true w4) (
    Bm (x37 == (2 : Int)) (
      LdI .i64 ⟨o_, 1, none⟩ w1.drew fun x63 =>
      LdI .i64 ⟨o_, 2, none⟩ w1.drew fun x65 =>
      Pn w0 fun a_3 =>
      Sts [.int .i64 x63] (a_3.add 9) 0 w1.drew fun w5 =>
      w5.cell? ⟨o_, 2, none⟩ = some (.int .i64 x65) ∧
      Pn w0 fun a_4 =>
      Sts [.int .i64 x65] ((a_4.add 9).add 1) 0 w5 fun w6 =>
      R true w6) (
      LdI .i64 ⟨o_, 3, none⟩ w1 fun x73 =>
      Bm (decide (x73 < (0 : Int))) (
        connlaw_World_Play.B1 w0 o_ x73 true w1  R) (
        connlaw_World_Play.B1 w0 o_ x73 (decide (x73 > (1 : Int))) w1  R)))
theorem connlaw_World_Play.B0_eq (w0 : Option Addr) (o_0 o_1 o_2 o_3 : Int) (o_4 o_5 : ByteArray) (w : World)   (R : Bool → World → Prop) (sB1 : Option Addr → Nat → Int → Bool → World → Prop) :
    (
  New (.cells #[.int .i64 o_0, .int .i64 o_1, .int .i64 o_2, .int .i64 o_3, .string o_4, .string o_5] 32) w fun o_ w1 =>
  LdI .i64 ⟨o_, 0, none⟩ w1 fun x37 =>
  Bm (x37 == (1 : Int)) (
    LdI .i64 ⟨o_, 1, none⟩ w1.drew fun x44 =>
    LdI .i64 ⟨o_, 2, none⟩ w1.drew fun x46 =>
    LdI .i64 ⟨o_, 3, none⟩ w1.drew fun x48 =>
    Pn w0 fun a =>
    Sts [.int .i64 x44] ((a.add 9).add 2) 0 w1.drew fun w2 =>
    w2.cell? ⟨o_, 3, none⟩ = some (.int .i64 x48) ∧
    w2.cell? ⟨o_, 2, none⟩ = some (.int .i64 x46) ∧
    Pn w0 fun a_1 =>
    Sts [.int .i64 x46] ((a_1.add 9).add 3) 0 w2 fun w3 =>
    w3.cell? ⟨o_, 3, none⟩ = some (.int .i64 x48) ∧
    Pn w0 fun a_2 =>
    Sts [.int .i64 x48] ((a_2.add 9).add 5) 0 w3 fun w4 =>
    R true w4) (
    Bm (x37 == (2 : Int)) (
      LdI .i64 ⟨o_, 1, none⟩ w1.drew fun x63 =>
      LdI .i64 ⟨o_, 2, none⟩ w1.drew fun x65 =>
      Pn w0 fun a_3 =>
      Sts [.int .i64 x63] (a_3.add 9) 0 w1.drew fun w5 =>
      w5.cell? ⟨o_, 2, none⟩ = some (.int .i64 x65) ∧
      Pn w0 fun a_4 =>
      Sts [.int .i64 x65] ((a_4.add 9).add 1) 0 w5 fun w6 =>
      R true w6) (
      LdI .i64 ⟨o_, 3, none⟩ w1 fun x73 =>
      Bm (decide (x73 < (0 : Int))) (
        sB1 w0 o_ x73 true w1) (
        sB1 w0 o_ x73 (decide (x73 > (1 : Int))) w1)))) = kstep Tryz.prog 392 Tryz.f18.results.toList (Tryz.f18.body.getD .skip) (connlaw_World_Play.RV R) (kvc Tryz.prog 392 Tryz.f18.results.toList (Tryz.f18.body.getD .skip) (connlaw_World_Play.RV R) [([(0, [1, 1, 1, 0, 1]), (0, [1, 1, 1, 1])], fun σ w => dP (slotOf σ 0) fun w0_ => dK (slotOf σ 3) fun o_ => dI .i64 (slotOf σ 5) fun c_ => dB (slotOf σ 79) fun t79_ => sB1 w0_ o_ c_ t79_ w)] 2000) [(0, [])] [(0, .pointer w0), (1, .agg #[.int .i64 o_0, .int .i64 o_1, .int .i64 o_2, .int .i64 o_3, .string o_4, .string o_5])] w := by kernel_rfl
theorem connlaw_World_Play.B0_sound {R : Bool → World → Prop}  (w0 : Option Addr) (o_0 o_1 o_2 o_3 : Int) (o_4 o_5 : ByteArray) (w : World) (h : connlaw_World_Play.B0 w0 o_0 o_1 o_2 o_3 o_4 o_5 w   R) :
    KW Tryz.prog 18 392 (connlaw_World_Play.RV R) ([(0, [])].map (toItem (Tryz.f18.body.getD .skip))) [(0, .pointer w0), (1, .agg #[.int .i64 o_0, .int .i64 o_1, .int .i64 o_2, .int .i64 o_3, .string o_4, .string o_5])] w := by
  exact block_spec Tryz.func18 Tryz.mixed (stops_cons (fun σ w h => by
      obtain ⟨w0_, e0, h⟩ := dP_elim h
      obtain ⟨o_, e1, h⟩ := dK_elim h
      obtain ⟨c_, e2, h⟩ := dI_elim h
      obtain ⟨t79_, e3, h⟩ := dB_elim h
      exact (connlaw_World_Play.B1_sound  w0_ o_ c_ t79_ w h).weaken (Sub.cons (Sub.cons (Sub.cons (Sub.cons (Sub.nil _) e3) e2) e1) e0)) stops_nil) (Eq.mp (connlaw_World_Play.B0_eq w0 o_0 o_1 o_2 o_3 o_4 o_5 w   R (fun w0_ o_ c_ t79_ w => connlaw_World_Play.B1 w0_ o_ c_ t79_ w  R)) h)
theorem connlaw_World_Play.sound (w0 : Option Addr) (o_0 o_1 o_2 o_3 : Int) (o_4 o_5 : ByteArray) (w : World) (R : Bool → World → Prop) (h : connlaw_World_Play.B0 w0 o_0 o_1 o_2 o_3 o_4 o_5 w R) : connlaw_World_Play.Call w0 o_0 o_1 o_2 o_3 o_4 o_5 w R := by
  have hc := calls_of_block (args := #[.pointer w0, .agg #[.int .i64 o_0, .int .i64 o_1, .int .i64 o_2, .int .i64 o_3, .string o_4, .string o_5]]) Tryz.func18 (body := (Tryz.f18.body.getD .skip)) (by kernel_rfl) (by kernel_rfl) (args_slot _) (connlaw_World_Play.B0_sound w0 o_0 o_1 o_2 o_3 o_4 o_5 w h)
  exact hc.mono fun e w' he => by
    obtain ⟨v, rfl, hv⟩ := he
    exact connlaw_World_Play.RV_elim hv
end Go.Proofs.Qxb6500422aGreat
