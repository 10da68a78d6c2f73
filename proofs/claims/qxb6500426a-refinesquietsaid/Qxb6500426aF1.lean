import Derived.Test.Qxb6500426aSig
set_option maxRecDepth 100000
set_option linter.unusedVariables false
open Go.Vc
namespace Go.Proofs.Qxb6500426a
def segm_NewSendBuf.B0  (w : World)   (R : Option Addr → World → Prop) : Prop :=
  New (.cells #[.int .i64 (0 : Int), .slice none 0 0, .int .i64 (0 : Int)] 55) w fun b2 w1 =>
  R (some ⟨b2, 0, none⟩) w1
theorem segm_NewSendBuf.B0_eq  (w : World)   (R : Option Addr → World → Prop)  :
    (
  New (.cells #[.int .i64 (0 : Int), .slice none 0 0, .int .i64 (0 : Int)] 55) w fun b2 w1 =>
  R (some ⟨b2, 0, none⟩) w1) = kstep Try.prog 3 Try.f13.results.toList (Try.f13.body.getD .skip) (segm_NewSendBuf.RV R) (kvc Try.prog 3 Try.f13.results.toList (Try.f13.body.getD .skip) (segm_NewSendBuf.RV R) [] 2000) [(0, [])] [] w := by kernel_rfl
theorem segm_NewSendBuf.B0_sound {R : Option Addr → World → Prop}   (w : World) (h : segm_NewSendBuf.B0  w   R) :
    KW Try.prog 13 3 (segm_NewSendBuf.RV R) ([(0, [])].map (toItem (Try.f13.body.getD .skip))) [] w := by
  exact block_spec Try.func13 Try.mixed stops_nil (Eq.mp (segm_NewSendBuf.B0_eq  w   R ) h)
theorem segm_NewSendBuf.sound  (w : World) (R : Option Addr → World → Prop) (h : segm_NewSendBuf.B0  w R) : segm_NewSendBuf.Call  w R := by
  have hc := calls_of_block (args := #[]) Try.func13 (body := (Try.f13.body.getD .skip)) (by kernel_rfl) (by kernel_rfl) (args_slot _) (segm_NewSendBuf.B0_sound  w h)
  exact hc.mono fun e w' he => by
    obtain ⟨v, rfl, hv⟩ := he
    exact segm_NewSendBuf.RV_elim hv
def seg_NewRecvBuf.B0  (w : World)   (R : Option Addr → World → Prop) : Prop :=
  New (.cells #[.int .u8 (0 : Int), .int .u8 (0 : Int), .int .u8 (0 : Int), .int .u8 (0 : Int), .int .u8 (0 : Int), .int .u8 (0 : Int), .int .u8 (0 : Int), .int .u8 (0 : Int), .int .u8 (0 : Int), .int .u8 (0 : Int), .int .u8 (0 : Int), .int .u8 (0 : Int), .int .u8 (0 : Int), .int .u8 (0 : Int), .int .u8 (0 : Int), .int .u8 (0 : Int), .int .u8 (0 : Int), .int .i64 (0 : Int), .int .u16 (0 : Int)] 58) w fun b2 w1 =>
  R (some ⟨b2, 0, none⟩) w1
theorem seg_NewRecvBuf.B0_eq  (w : World)   (R : Option Addr → World → Prop)  :
    (
  New (.cells #[.int .u8 (0 : Int), .int .u8 (0 : Int), .int .u8 (0 : Int), .int .u8 (0 : Int), .int .u8 (0 : Int), .int .u8 (0 : Int), .int .u8 (0 : Int), .int .u8 (0 : Int), .int .u8 (0 : Int), .int .u8 (0 : Int), .int .u8 (0 : Int), .int .u8 (0 : Int), .int .u8 (0 : Int), .int .u8 (0 : Int), .int .u8 (0 : Int), .int .u8 (0 : Int), .int .u8 (0 : Int), .int .i64 (0 : Int), .int .u16 (0 : Int)] 58) w fun b2 w1 =>
  R (some ⟨b2, 0, none⟩) w1) = kstep Try.prog 3 Try.f14.results.toList (Try.f14.body.getD .skip) (seg_NewRecvBuf.RV R) (kvc Try.prog 3 Try.f14.results.toList (Try.f14.body.getD .skip) (seg_NewRecvBuf.RV R) [] 2000) [(0, [])] [] w := by kernel_rfl
theorem seg_NewRecvBuf.B0_sound {R : Option Addr → World → Prop}   (w : World) (h : seg_NewRecvBuf.B0  w   R) :
    KW Try.prog 14 3 (seg_NewRecvBuf.RV R) ([(0, [])].map (toItem (Try.f14.body.getD .skip))) [] w := by
  exact block_spec Try.func14 Try.mixed stops_nil (Eq.mp (seg_NewRecvBuf.B0_eq  w   R ) h)
theorem seg_NewRecvBuf.sound  (w : World) (R : Option Addr → World → Prop) (h : seg_NewRecvBuf.B0  w R) : seg_NewRecvBuf.Call  w R := by
  have hc := calls_of_block (args := #[]) Try.func14 (body := (Try.f14.body.getD .skip)) (by kernel_rfl) (by kernel_rfl) (args_slot _) (seg_NewRecvBuf.B0_sound  w h)
  exact hc.mono fun e w' he => by
    obtain ⟨v, rfl, hv⟩ := he
    exact seg_NewRecvBuf.RV_elim hv
def segm_NewRecvBuf.B0  (w : World)   (R : Option Addr → World → Prop) : Prop :=
  New (.cells #[.int .i64 (0 : Int), .slice none 0 0, .bool false, .bool false, .bool false, .bool false, .bool false, .bool false, .bool false, .bool false, .bool false, .bool false, .bool false, .bool false, .bool false, .bool false, .bool false, .bool false, .int .u8 (0 : Int), .int .u8 (0 : Int), .int .u8 (0 : Int), .int .u8 (0 : Int), .int .u8 (0 : Int), .int .u8 (0 : Int), .int .u8 (0 : Int), .int .u8 (0 : Int), .int .u8 (0 : Int), .int .u8 (0 : Int), .int .u8 (0 : Int), .int .u8 (0 : Int), .int .u8 (0 : Int), .int .u8 (0 : Int), .int .u8 (0 : Int), .int .u8 (0 : Int)] 61) w fun b2 w1 =>
  R (some ⟨b2, 0, none⟩) w1
theorem segm_NewRecvBuf.B0_eq  (w : World)   (R : Option Addr → World → Prop)  :
    (
  New (.cells #[.int .i64 (0 : Int), .slice none 0 0, .bool false, .bool false, .bool false, .bool false, .bool false, .bool false, .bool false, .bool false, .bool false, .bool false, .bool false, .bool false, .bool false, .bool false, .bool false, .bool false, .int .u8 (0 : Int), .int .u8 (0 : Int), .int .u8 (0 : Int), .int .u8 (0 : Int), .int .u8 (0 : Int), .int .u8 (0 : Int), .int .u8 (0 : Int), .int .u8 (0 : Int), .int .u8 (0 : Int), .int .u8 (0 : Int), .int .u8 (0 : Int), .int .u8 (0 : Int), .int .u8 (0 : Int), .int .u8 (0 : Int), .int .u8 (0 : Int), .int .u8 (0 : Int)] 61) w fun b2 w1 =>
  R (some ⟨b2, 0, none⟩) w1) = kstep Try.prog 3 Try.f15.results.toList (Try.f15.body.getD .skip) (segm_NewRecvBuf.RV R) (kvc Try.prog 3 Try.f15.results.toList (Try.f15.body.getD .skip) (segm_NewRecvBuf.RV R) [] 2000) [(0, [])] [] w := by kernel_rfl
theorem segm_NewRecvBuf.B0_sound {R : Option Addr → World → Prop}   (w : World) (h : segm_NewRecvBuf.B0  w   R) :
    KW Try.prog 15 3 (segm_NewRecvBuf.RV R) ([(0, [])].map (toItem (Try.f15.body.getD .skip))) [] w := by
  exact block_spec Try.func15 Try.mixed stops_nil (Eq.mp (segm_NewRecvBuf.B0_eq  w   R ) h)
theorem segm_NewRecvBuf.sound  (w : World) (R : Option Addr → World → Prop) (h : segm_NewRecvBuf.B0  w R) : segm_NewRecvBuf.Call  w R := by
  have hc := calls_of_block (args := #[]) Try.func15 (body := (Try.f15.body.getD .skip)) (by kernel_rfl) (by kernel_rfl) (args_slot _) (segm_NewRecvBuf.B0_sound  w h)
  exact hc.mono fun e w' he => by
    obtain ⟨v, rfl, hv⟩ := he
    exact segm_NewRecvBuf.RV_elim hv
def seglaw_World_See.B0 (w0 : Option Addr) (kind : Int) (w : World)   (R : Bool → World → Prop) : Prop :=
  Bm (kind == (15 : Int)) (
    Pn w0 fun a =>
    LdP a w fun x28 =>
    seg_SendBuf_Una.Call x28 w fun r29 w1 =>
    Pn w0 fun a_1 =>
    LdP (a_1.add 1) w1 fun x34 =>
    segm_SendBuf_Una.Call x34 w1 fun r35 w2 =>
    R (r29 == r35) w2) (
    Bm (kind == (16 : Int)) (
      Pn w0 fun a_2 =>
      LdP a_2 w fun x42 =>
      seg_SendBuf_Nxt.Call x42 w fun r43 w3 =>
      Pn w0 fun a_3 =>
      LdP (a_3.add 1) w3 fun x48 =>
      segm_SendBuf_Nxt.Call x48 w3 fun r49 w4 =>
      R (r43 == r49) w4) (
      Bm (kind == (17 : Int)) (
        Pn w0 fun a_4 =>
        LdP a_4 w fun x56 =>
        seg_SendBuf_Len.Call x56 w fun r57 w5 =>
        Pn w0 fun a_5 =>
        LdP (a_5.add 1) w5 fun x62 =>
        segm_SendBuf_Len.Call x62 w5 fun r63 w6 =>
        R (r57 == r63) w6) (
        Bm (kind == (18 : Int)) (
          Pn w0 fun a_6 =>
          LdP a_6 w fun x70 =>
          seg_SendBuf_Unsent.Call x70 w fun r71 w7 =>
          Pn w0 fun a_7 =>
          LdP (a_7.add 1) w7 fun x76 =>
          segm_SendBuf_Unsent.Call x76 w7 fun r77 w8 =>
          R (r71 == r77) w8) (
          Bm (kind == (19 : Int)) (
            Pn w0 fun a_8 =>
            LdP a_8 w fun x84 =>
            seg_SendBuf_Bytes.Call x84 w fun r85_b r85_l r85_c w9 =>
            Pn w0 fun a_9 =>
            LdP (a_9.add 1) w9 fun x89 =>
            segm_SendBuf_Bytes.Call x89 w9 fun r90_b r90_l r90_c w10 =>
            api_SameBytes.Call r85_b r85_l r85_c r90_b r90_l r90_c w10 fun r93 w11 =>
            seglaw_World_Own.Call w0 r85_b r85_l r85_c w11 fun w12 =>
            R r93 w12) (
            Bm (kind == (23 : Int)) (
              Pn w0 fun a_10 =>
              LdP (a_10.add 2) w fun x103 =>
              seg_RecvBuf_Nxt.Call x103 w fun r104 w13 =>
              Pn w0 fun a_11 =>
              LdP (a_11.add 3) w13 fun x109 =>
              segm_RecvBuf_Nxt.Call x109 w13 fun r110 w14 =>
              R (r104 == r110) w14) (
              Bm (kind == (24 : Int)) (
                Pn w0 fun a_12 =>
                LdP (a_12.add 2) w fun x117 =>
                seg_RecvBuf_Avail.Call x117 w fun r118 w15 =>
                Pn w0 fun a_13 =>
                LdP (a_13.add 3) w15 fun x123 =>
                segm_RecvBuf_Avail.Call x123 w15 fun r124 w16 =>
                R (r118 == r124) w16) (
                Bm (kind == (25 : Int)) (
                  Pn w0 fun a_14 =>
                  LdP (a_14.add 2) w fun x131 =>
                  seg_RecvBuf_Window.Call x131 w fun r132 w17 =>
                  Pn w0 fun a_15 =>
                  LdP (a_15.add 3) w17 fun x137 =>
                  segm_RecvBuf_Window.Call x137 w17 fun r138 w18 =>
                  R (r132 == r138) w18) (
                  Bm (kind == (26 : Int)) (
                    Pn w0 fun a_16 =>
                    LdP (a_16.add 2) w fun x145 =>
                    seg_RecvBuf_Held.Call x145 w fun r146 w19 =>
                    Pn w0 fun a_17 =>
                    LdP (a_17.add 3) w19 fun x151 =>
                    segm_RecvBuf_Held.Call x151 w19 fun r152 w20 =>
                    R (r146 == r152) w20) (
                    Bm (kind == (27 : Int)) (
                      Pn w0 fun a_18 =>
                      LdP (a_18.add 2) w fun x159 =>
                      seg_RecvBuf_Bytes.Call x159 w fun r160_b r160_l r160_c w21 =>
                      Pn w0 fun a_19 =>
                      LdP (a_19.add 3) w21 fun x164 =>
                      segm_RecvBuf_Bytes.Call x164 w21 fun r165_b r165_l r165_c w22 =>
                      api_SameBytes.Call r160_b r160_l r160_c r165_b r165_l r165_c w22 fun r168 w23 =>
                      seglaw_World_Own.Call w0 r160_b r160_l r160_c w23 fun w24 =>
                      R r168 w24) (
                      Bm (kind == (28 : Int)) (
                        Pn w0 fun a_20 =>
                        LdP (a_20.add 2) w fun x178 =>
                        seg_RecvBuf_Ahead.Call x178 w fun r179_b r179_l r179_c w25 =>
                        Pn w0 fun a_21 =>
                        LdP (a_21.add 3) w25 fun x183 =>
                        segm_RecvBuf_Ahead.Call x183 w25 fun r184_b r184_l r184_c w26 =>
                        seglaw_SameInts.Call r179_b r179_l r179_c r184_b r184_l r184_c w26 fun r187 w27 =>
                        seglaw_World_OwnInts.Call w0 r179_b r179_l r179_c w27 fun w28 =>
                        R r187 w28) (
                        Bm (kind == (40 : Int)) (
                          Pn w0 fun a_22 =>
                          LdP a_22 w fun x197 =>
                          seg_SendBuf_Check.Call x197 w fun r198 w29 =>
                          R r198 w29) (
                          Bm (kind == (41 : Int)) (
                            Pn w0 fun a_23 =>
                            LdP (a_23.add 2) w fun x204 =>
                            seg_RecvBuf_Check.Call x204 w fun r205 w30 =>
                            R r205 w30) (
                            R true w)))))))))))))
theorem seglaw_World_See.B0_eq (w0 : Option Addr) (kind : Int) (w : World)   (R : Bool → World → Prop)  :
    (
  Bm (kind == (15 : Int)) (
    Pn w0 fun a =>
    LdP a w fun x28 =>
    seg_SendBuf_Una.Call x28 w fun r29 w1 =>
    Pn w0 fun a_1 =>
    LdP (a_1.add 1) w1 fun x34 =>
    segm_SendBuf_Una.Call x34 w1 fun r35 w2 =>
    R (r29 == r35) w2) (
    Bm (kind == (16 : Int)) (
      Pn w0 fun a_2 =>
      LdP a_2 w fun x42 =>
      seg_SendBuf_Nxt.Call x42 w fun r43 w3 =>
      Pn w0 fun a_3 =>
      LdP (a_3.add 1) w3 fun x48 =>
      segm_SendBuf_Nxt.Call x48 w3 fun r49 w4 =>
      R (r43 == r49) w4) (
      Bm (kind == (17 : Int)) (
        Pn w0 fun a_4 =>
        LdP a_4 w fun x56 =>
        seg_SendBuf_Len.Call x56 w fun r57 w5 =>
        Pn w0 fun a_5 =>
        LdP (a_5.add 1) w5 fun x62 =>
        segm_SendBuf_Len.Call x62 w5 fun r63 w6 =>
        R (r57 == r63) w6) (
        Bm (kind == (18 : Int)) (
          Pn w0 fun a_6 =>
          LdP a_6 w fun x70 =>
          seg_SendBuf_Unsent.Call x70 w fun r71 w7 =>
          Pn w0 fun a_7 =>
          LdP (a_7.add 1) w7 fun x76 =>
          segm_SendBuf_Unsent.Call x76 w7 fun r77 w8 =>
          R (r71 == r77) w8) (
          Bm (kind == (19 : Int)) (
            Pn w0 fun a_8 =>
            LdP a_8 w fun x84 =>
            seg_SendBuf_Bytes.Call x84 w fun r85_b r85_l r85_c w9 =>
            Pn w0 fun a_9 =>
            LdP (a_9.add 1) w9 fun x89 =>
            segm_SendBuf_Bytes.Call x89 w9 fun r90_b r90_l r90_c w10 =>
            api_SameBytes.Call r85_b r85_l r85_c r90_b r90_l r90_c w10 fun r93 w11 =>
            seglaw_World_Own.Call w0 r85_b r85_l r85_c w11 fun w12 =>
            R r93 w12) (
            Bm (kind == (23 : Int)) (
              Pn w0 fun a_10 =>
              LdP (a_10.add 2) w fun x103 =>
              seg_RecvBuf_Nxt.Call x103 w fun r104 w13 =>
              Pn w0 fun a_11 =>
              LdP (a_11.add 3) w13 fun x109 =>
              segm_RecvBuf_Nxt.Call x109 w13 fun r110 w14 =>
              R (r104 == r110) w14) (
              Bm (kind == (24 : Int)) (
                Pn w0 fun a_12 =>
                LdP (a_12.add 2) w fun x117 =>
                seg_RecvBuf_Avail.Call x117 w fun r118 w15 =>
                Pn w0 fun a_13 =>
                LdP (a_13.add 3) w15 fun x123 =>
                segm_RecvBuf_Avail.Call x123 w15 fun r124 w16 =>
                R (r118 == r124) w16) (
                Bm (kind == (25 : Int)) (
                  Pn w0 fun a_14 =>
                  LdP (a_14.add 2) w fun x131 =>
                  seg_RecvBuf_Window.Call x131 w fun r132 w17 =>
                  Pn w0 fun a_15 =>
                  LdP (a_15.add 3) w17 fun x137 =>
                  segm_RecvBuf_Window.Call x137 w17 fun r138 w18 =>
                  R (r132 == r138) w18) (
                  Bm (kind == (26 : Int)) (
                    Pn w0 fun a_16 =>
                    LdP (a_16.add 2) w fun x145 =>
                    seg_RecvBuf_Held.Call x145 w fun r146 w19 =>
                    Pn w0 fun a_17 =>
                    LdP (a_17.add 3) w19 fun x151 =>
                    segm_RecvBuf_Held.Call x151 w19 fun r152 w20 =>
                    R (r146 == r152) w20) (
                    Bm (kind == (27 : Int)) (
                      Pn w0 fun a_18 =>
                      LdP (a_18.add 2) w fun x159 =>
                      seg_RecvBuf_Bytes.Call x159 w fun r160_b r160_l r160_c w21 =>
                      Pn w0 fun a_19 =>
                      LdP (a_19.add 3) w21 fun x164 =>
                      segm_RecvBuf_Bytes.Call x164 w21 fun r165_b r165_l r165_c w22 =>
                      api_SameBytes.Call r160_b r160_l r160_c r165_b r165_l r165_c w22 fun r168 w23 =>
                      seglaw_World_Own.Call w0 r160_b r160_l r160_c w23 fun w24 =>
                      R r168 w24) (
                      Bm (kind == (28 : Int)) (
                        Pn w0 fun a_20 =>
                        LdP (a_20.add 2) w fun x178 =>
                        seg_RecvBuf_Ahead.Call x178 w fun r179_b r179_l r179_c w25 =>
                        Pn w0 fun a_21 =>
                        LdP (a_21.add 3) w25 fun x183 =>
                        segm_RecvBuf_Ahead.Call x183 w25 fun r184_b r184_l r184_c w26 =>
                        seglaw_SameInts.Call r179_b r179_l r179_c r184_b r184_l r184_c w26 fun r187 w27 =>
                        seglaw_World_OwnInts.Call w0 r179_b r179_l r179_c w27 fun w28 =>
                        R r187 w28) (
                        Bm (kind == (40 : Int)) (
                          Pn w0 fun a_22 =>
                          LdP a_22 w fun x197 =>
                          seg_SendBuf_Check.Call x197 w fun r198 w29 =>
                          R r198 w29) (
                          Bm (kind == (41 : Int)) (
                            Pn w0 fun a_23 =>
                            LdP (a_23.add 2) w fun x204 =>
                            seg_RecvBuf_Check.Call x204 w fun r205 w30 =>
                            R r205 w30) (
                            R true w)))))))))))))) = kstep Try.prog 206 Try.f16.results.toList (Try.f16.body.getD .skip) (seglaw_World_See.RV R) (kvc Try.prog 206 Try.f16.results.toList (Try.f16.body.getD .skip) (seglaw_World_See.RV R) [] 2000) [(0, [])] [(0, .pointer w0), (1, .int .i64 kind)] w := by kernel_rfl
theorem seglaw_World_See.B0_sound {R : Bool → World → Prop}  (w0 : Option Addr) (kind : Int) (w : World) (h : seglaw_World_See.B0 w0 kind w   R) :
    KW Try.prog 16 206 (seglaw_World_See.RV R) ([(0, [])].map (toItem (Try.f16.body.getD .skip))) [(0, .pointer w0), (1, .int .i64 kind)] w := by
  exact block_spec Try.func16 Try.mixed stops_nil (Eq.mp (seglaw_World_See.B0_eq w0 kind w   R ) h)
theorem seglaw_World_See.sound (w0 : Option Addr) (kind : Int) (w : World) (R : Bool → World → Prop) (h : seglaw_World_See.B0 w0 kind w R) : seglaw_World_See.Call w0 kind w R := by
  have hc := calls_of_block (args := #[.pointer w0, .int .i64 kind]) Try.func16 (body := (Try.f16.body.getD .skip)) (by kernel_rfl) (by kernel_rfl) (args_slot _) (seglaw_World_See.B0_sound w0 kind w h)
  exact hc.mono fun e w' he => by
    obtain ⟨v, rfl, hv⟩ := he
    exact seglaw_World_See.RV_elim hv
def seglaw_World_LikeAgain.B0 (w0 : Option Addr) (max : Int) (w : World)   (R : Bool → World → Prop) : Prop :=
  Pn w0 fun a =>
  LdP a w fun x14 =>
  seg_SendBuf_Again.Call x14 max w fun r16_0 r16_1_b r16_1_l r16_1_c w1 =>
  Pn w0 fun a_1 =>
  LdP (a_1.add 1) w1 fun x23 =>
  segm_SendBuf_Again.Call x23 max w1 fun r25_0 r25_1_b r25_1_l r25_1_c w2 =>
  Bm (r16_0 != r25_0) (
    R false w2) (
    api_SameBytes.Call r16_1_b r16_1_l r16_1_c r25_1_b r25_1_l r25_1_c w2 fun r33 w3 =>
    seglaw_World_Own.Call w0 r16_1_b r16_1_l r16_1_c w3 fun w4 =>
    R r33 w4)
theorem seglaw_World_LikeAgain.B0_eq (w0 : Option Addr) (max : Int) (w : World)   (R : Bool → World → Prop)  :
    (
  Pn w0 fun a =>
  LdP a w fun x14 =>
  seg_SendBuf_Again.Call x14 max w fun r16_0 r16_1_b r16_1_l r16_1_c w1 =>
  Pn w0 fun a_1 =>
  LdP (a_1.add 1) w1 fun x23 =>
  segm_SendBuf_Again.Call x23 max w1 fun r25_0 r25_1_b r25_1_l r25_1_c w2 =>
  Bm (r16_0 != r25_0) (
    R false w2) (
    api_SameBytes.Call r16_1_b r16_1_l r16_1_c r25_1_b r25_1_l r25_1_c w2 fun r33 w3 =>
    seglaw_World_Own.Call w0 r16_1_b r16_1_l r16_1_c w3 fun w4 =>
    R r33 w4)) = kstep Try.prog 38 Try.f17.results.toList (Try.f17.body.getD .skip) (seglaw_World_LikeAgain.RV R) (kvc Try.prog 38 Try.f17.results.toList (Try.f17.body.getD .skip) (seglaw_World_LikeAgain.RV R) [] 2000) [(0, [])] [(0, .pointer w0), (1, .int .i64 max)] w := by kernel_rfl
theorem seglaw_World_LikeAgain.B0_sound {R : Bool → World → Prop}  (w0 : Option Addr) (max : Int) (w : World) (h : seglaw_World_LikeAgain.B0 w0 max w   R) :
    KW Try.prog 17 38 (seglaw_World_LikeAgain.RV R) ([(0, [])].map (toItem (Try.f17.body.getD .skip))) [(0, .pointer w0), (1, .int .i64 max)] w := by
  exact block_spec Try.func17 Try.mixed stops_nil (Eq.mp (seglaw_World_LikeAgain.B0_eq w0 max w   R ) h)
theorem seglaw_World_LikeAgain.sound (w0 : Option Addr) (max : Int) (w : World) (R : Bool → World → Prop) (h : seglaw_World_LikeAgain.B0 w0 max w R) : seglaw_World_LikeAgain.Call w0 max w R := by
  have hc := calls_of_block (args := #[.pointer w0, .int .i64 max]) Try.func17 (body := (Try.f17.body.getD .skip)) (by kernel_rfl) (by kernel_rfl) (args_slot _) (seglaw_World_LikeAgain.B0_sound w0 max w h)
  exact hc.mono fun e w' he => by
    obtain ⟨v, rfl, hv⟩ := he
    exact seglaw_World_LikeAgain.RV_elim hv
def seglaw_World_Play.B5 (w0 a_b : Option Addr) (a_l a_c : Nat) (w : World)   (R : Bool → World → Prop) : Prop :=
  seglaw_World_Own.Call w0 a_b a_l a_c w fun w1 =>
  R true w1
theorem seglaw_World_Play.B5_eq (w0 a_b : Option Addr) (a_l a_c : Nat) (w : World)   (R : Bool → World → Prop)  :
    (
  seglaw_World_Own.Call w0 a_b a_l a_c w fun w1 =>
  R true w1) = kstep Try.prog 452 Try.f18.results.toList (Try.f18.body.getD .skip) (seglaw_World_Play.RV R) (kvc Try.prog 452 Try.f18.results.toList (Try.f18.body.getD .skip) (seglaw_World_Play.RV R) [] 2000) [(0, [1, 0, 1, 0, 1, 1, 1, 1, 1, 1, 1, 0, 1, 1, 1, 1, 1, 1, 1, 1, 1]), (1, [0]), (0, [1, 1])] [(0, .pointer w0), (7, .slice a_b a_l a_c)] w := by kernel_rfl
theorem seglaw_World_Play.B5_sound {R : Bool → World → Prop}  (w0 a_b : Option Addr) (a_l a_c : Nat) (w : World) (h : seglaw_World_Play.B5 w0 a_b a_l a_c w   R) :
    KW Try.prog 18 452 (seglaw_World_Play.RV R) ([(0, [1, 0, 1, 0, 1, 1, 1, 1, 1, 1, 1, 0, 1, 1, 1, 1, 1, 1, 1, 1, 1]), (1, [0]), (0, [1, 1])].map (toItem (Try.f18.body.getD .skip))) [(0, .pointer w0), (7, .slice a_b a_l a_c)] w := by
  exact block_spec Try.func18 Try.mixed stops_nil (Eq.mp (seglaw_World_Play.B5_eq w0 a_b a_l a_c w   R ) h)
def seglaw_World_Play.B1 (w0 : Option Addr) (o s2 : Nat) (a_b : Option Addr) (a_l a_c : Nat) (e : Int) (b_b : Option Addr) (b_l b_c : Nat) (t129 : Bool) (w : World)   (R : Bool → World → Prop) : Prop :=
  Bm t129 (
    R false w) (
    Bm (e == (0 : Int)) (
      LdI .i64 ⟨s2, 0, none⟩ w.drew fun x137_0 =>
      LdI .i64 ⟨s2, 1, none⟩ w.drew fun x137_1 =>
      LdI .i64 ⟨s2, 2, none⟩ w.drew fun x137_2 =>
      LdI .i64 ⟨s2, 3, none⟩ w.drew fun x137_3 =>
      LdI .i64 ⟨s2, 4, none⟩ w.drew fun x137_4 =>
      LdI .i64 ⟨s2, 5, none⟩ w.drew fun x137_5 =>
      LdL ⟨s2, 6, none⟩ w.drew fun x137_6_b x137_6_l x137_6_c =>
      LdI .i64 ⟨o, 1, none⟩ w.drew fun x139 =>
      LdI .i64 ⟨o, 2, none⟩ w.drew fun x141 =>
      Pn w0 fun a =>
      Sts [.slice b_b b_l b_c] (a.add 11) 0 w.drew fun w1 =>
      w1.cell? ⟨o, 2, none⟩ = some (.int .i64 x141) ∧
      w1.cell? ⟨o, 1, none⟩ = some (.int .i64 x139) ∧
      w1.cell? ⟨s2, 0, none⟩ = some (.int .i64 x137_0) ∧
      w1.cell? ⟨s2, 1, none⟩ = some (.int .i64 x137_1) ∧
      w1.cell? ⟨s2, 2, none⟩ = some (.int .i64 x137_2) ∧
      w1.cell? ⟨s2, 3, none⟩ = some (.int .i64 x137_3) ∧
      w1.cell? ⟨s2, 4, none⟩ = some (.int .i64 x137_4) ∧
      w1.cell? ⟨s2, 5, none⟩ = some (.int .i64 x137_5) ∧
      w1.cell? ⟨s2, 6, none⟩ = some (.slice x137_6_b x137_6_l x137_6_c) ∧
      Pn w0 fun a_1 =>
      Sts [.int .i64 x137_0, .int .i64 x137_1, .int .i64 x137_2, .int .i64 x137_3, .int .i64 x137_4, .int .i64 x137_5, .slice x137_6_b x137_6_l x137_6_c] (a_1.add 12) 0 w1 fun w2 =>
      w2.cell? ⟨o, 2, none⟩ = some (.int .i64 x141) ∧
      w2.cell? ⟨o, 1, none⟩ = some (.int .i64 x139) ∧
      Pn w0 fun a_2 =>
      Sts [.int .i64 x139] (a_2.add 19) 0 w2 fun w3 =>
      w3.cell? ⟨o, 2, none⟩ = some (.int .i64 x141) ∧
      Pn w0 fun a_3 =>
      Sts [.int .i64 x141] (a_3.add 20) 0 w3 fun w4 =>
      seglaw_World_Play.B5 w0 a_b a_l a_c w4  R) (
      seglaw_World_Play.B5 w0 a_b a_l a_c w  R))
theorem seglaw_World_Play.B1_eq (w0 : Option Addr) (o s2 : Nat) (a_b : Option Addr) (a_l a_c : Nat) (e : Int) (b_b : Option Addr) (b_l b_c : Nat) (t129 : Bool) (w : World)   (R : Bool → World → Prop) (sB5 : Option Addr → Option Addr → Nat → Nat → World → Prop) :
    (
  Bm t129 (
    R false w) (
    Bm (e == (0 : Int)) (
      LdI .i64 ⟨s2, 0, none⟩ w.drew fun x137_0 =>
      LdI .i64 ⟨s2, 1, none⟩ w.drew fun x137_1 =>
      LdI .i64 ⟨s2, 2, none⟩ w.drew fun x137_2 =>
      LdI .i64 ⟨s2, 3, none⟩ w.drew fun x137_3 =>
      LdI .i64 ⟨s2, 4, none⟩ w.drew fun x137_4 =>
      LdI .i64 ⟨s2, 5, none⟩ w.drew fun x137_5 =>
      LdL ⟨s2, 6, none⟩ w.drew fun x137_6_b x137_6_l x137_6_c =>
      LdI .i64 ⟨o, 1, none⟩ w.drew fun x139 =>
      LdI .i64 ⟨o, 2, none⟩ w.drew fun x141 =>
      Pn w0 fun a =>
      Sts [.slice b_b b_l b_c] (a.add 11) 0 w.drew fun w1 =>
      w1.cell? ⟨o, 2, none⟩ = some (.int .i64 x141) ∧
      w1.cell? ⟨o, 1, none⟩ = some (.int .i64 x139) ∧
      w1.cell? ⟨s2, 0, none⟩ = some (.int .i64 x137_0) ∧
      w1.cell? ⟨s2, 1, none⟩ = some (.int .i64 x137_1) ∧
      w1.cell? ⟨s2, 2, none⟩ = some (.int .i64 x137_2) ∧
      w1.cell? ⟨s2, 3, none⟩ = some (.int .i64 x137_3) ∧
      w1.cell? ⟨s2, 4, none⟩ = some (.int .i64 x137_4) ∧
      w1.cell? ⟨s2, 5, none⟩ = some (.int .i64 x137_5) ∧
      w1.cell? ⟨s2, 6, none⟩ = some (.slice x137_6_b x137_6_l x137_6_c) ∧
      Pn w0 fun a_1 =>
      Sts [.int .i64 x137_0, .int .i64 x137_1, .int .i64 x137_2, .int .i64 x137_3, .int .i64 x137_4, .int .i64 x137_5, .slice x137_6_b x137_6_l x137_6_c] (a_1.add 12) 0 w1 fun w2 =>
      w2.cell? ⟨o, 2, none⟩ = some (.int .i64 x141) ∧
      w2.cell? ⟨o, 1, none⟩ = some (.int .i64 x139) ∧
      Pn w0 fun a_2 =>
      Sts [.int .i64 x139] (a_2.add 19) 0 w2 fun w3 =>
      w3.cell? ⟨o, 2, none⟩ = some (.int .i64 x141) ∧
      Pn w0 fun a_3 =>
      Sts [.int .i64 x141] (a_3.add 20) 0 w3 fun w4 =>
      sB5 w0 a_b a_l a_c w4) (
      sB5 w0 a_b a_l a_c w))) = kstep Try.prog 452 Try.f18.results.toList (Try.f18.body.getD .skip) (seglaw_World_Play.RV R) (kvc Try.prog 452 Try.f18.results.toList (Try.f18.body.getD .skip) (seglaw_World_Play.RV R) [([(0, [1, 0, 1, 0, 1, 1, 1, 1, 1, 1, 1, 0, 1, 1, 1, 1, 1, 1, 1, 1, 1]), (1, [0]), (0, [1, 1])], fun σ w => dP (slotOf σ 0) fun w0_ => dL (slotOf σ 7) fun a_b_ a_l_ a_c_ => sB5 w0_ a_b_ a_l_ a_c_ w)] 2000) [(0, [1, 0, 1, 0, 1, 1, 1, 1, 1, 1, 1, 0, 1, 1, 1, 1, 1, 1, 1, 0, 1]), (0, [1, 0, 1, 0, 1, 1, 1, 1, 1, 1, 1, 0, 1, 1, 1, 1, 1, 1, 1, 1]), (1, [0]), (0, [1, 1])] [(0, .pointer w0), (3, .pointer (some ⟨o, 0, none⟩)), (6, .pointer (some ⟨s2, 0, none⟩)), (7, .slice a_b a_l a_c), (8, .int .i64 e), (9, .slice b_b b_l b_c), (129, .bool t129)] w := by kernel_rfl
theorem seglaw_World_Play.B1_sound {R : Bool → World → Prop}  (w0 : Option Addr) (o s2 : Nat) (a_b : Option Addr) (a_l a_c : Nat) (e : Int) (b_b : Option Addr) (b_l b_c : Nat) (t129 : Bool) (w : World) (h : seglaw_World_Play.B1 w0 o s2 a_b a_l a_c e b_b b_l b_c t129 w   R) :
    KW Try.prog 18 452 (seglaw_World_Play.RV R) ([(0, [1, 0, 1, 0, 1, 1, 1, 1, 1, 1, 1, 0, 1, 1, 1, 1, 1, 1, 1, 0, 1]), (0, [1, 0, 1, 0, 1, 1, 1, 1, 1, 1, 1, 0, 1, 1, 1, 1, 1, 1, 1, 1]), (1, [0]), (0, [1, 1])].map (toItem (Try.f18.body.getD .skip))) [(0, .pointer w0), (3, .pointer (some ⟨o, 0, none⟩)), (6, .pointer (some ⟨s2, 0, none⟩)), (7, .slice a_b a_l a_c), (8, .int .i64 e), (9, .slice b_b b_l b_c), (129, .bool t129)] w := by
  exact block_spec Try.func18 Try.mixed (stops_cons (fun σ w h => by
      obtain ⟨w0_, e0, h⟩ := dP_elim h
      obtain ⟨a_b_, a_l_, a_c_, e1, h⟩ := dL_elim h
      exact (seglaw_World_Play.B5_sound  w0_ a_b_ a_l_ a_c_ w h).weaken (Sub.cons (Sub.cons (Sub.nil _) e1) e0)) stops_nil) (Eq.mp (seglaw_World_Play.B1_eq w0 o s2 a_b a_l a_c e b_b b_l b_c t129 w   R (fun w0_ a_b_ a_l_ a_c_ w => seglaw_World_Play.B5 w0_ a_b_ a_l_ a_c_ w  R)) h)
def seglaw_World_Play.B6 (w0 : Option Addr) (s : Nat) (e : Int) (t210 : Bool) (w : World)   (R : Bool → World → Prop) : Prop :=
  Bm t210 (
    Bm (e == (0 : Int)) (
      LdI .i64 ⟨s, 0, none⟩ w.drew fun x214_0 =>
      LdI .i64 ⟨s, 1, none⟩ w.drew fun x214_1 =>
      LdI .i64 ⟨s, 2, none⟩ w.drew fun x214_2 =>
      LdI .i64 ⟨s, 3, none⟩ w.drew fun x214_3 =>
      LdI .i64 ⟨s, 4, none⟩ w.drew fun x214_4 =>
      LdI .i64 ⟨s, 5, none⟩ w.drew fun x214_5 =>
      LdL ⟨s, 6, none⟩ w.drew fun x214_6_b x214_6_l x214_6_c =>
      Pn w0 fun a =>
      LdI .i64 (a.add 12) w.drew fun x218_0 =>
      LdI .i64 ((a.add 12).add 1) w.drew fun x218_1 =>
      LdI .i64 ((a.add 12).add 2) w.drew fun x218_2 =>
      LdI .i64 ((a.add 12).add 3) w.drew fun x218_3 =>
      LdI .i64 ((a.add 12).add 4) w.drew fun x218_4 =>
      LdI .i64 ((a.add 12).add 5) w.drew fun x218_5 =>
      LdL ((a.add 12).add 6) w.drew fun x218_6_b x218_6_l x218_6_c =>
      seglaw_SameSeg.Call x214_0 x214_1 x214_2 x214_3 x214_4 x214_5 x214_6_b x214_6_l x214_6_c x218_0 x218_1 x218_2 x218_3 x218_4 x218_5 x218_6_b x218_6_l x218_6_c w.drew fun r219 w1 =>
      R r219 w1) (
      R false w.drew)) (
    Pn w0 fun a_1 =>
    LdL (a_1.add 11) w fun x224_b x224_l x224_c =>
    Bm (decide (((x224_l : Nat) : Int) > (0 : Int))) (
      Bm (e == (4 : Int)) (
        R true w) (
        R (e == (5 : Int)) w)) (
      R true w))
theorem seglaw_World_Play.B6_eq (w0 : Option Addr) (s : Nat) (e : Int) (t210 : Bool) (w : World)   (R : Bool → World → Prop)  :
    (
  Bm t210 (
    Bm (e == (0 : Int)) (
      LdI .i64 ⟨s, 0, none⟩ w.drew fun x214_0 =>
      LdI .i64 ⟨s, 1, none⟩ w.drew fun x214_1 =>
      LdI .i64 ⟨s, 2, none⟩ w.drew fun x214_2 =>
      LdI .i64 ⟨s, 3, none⟩ w.drew fun x214_3 =>
      LdI .i64 ⟨s, 4, none⟩ w.drew fun x214_4 =>
      LdI .i64 ⟨s, 5, none⟩ w.drew fun x214_5 =>
      LdL ⟨s, 6, none⟩ w.drew fun x214_6_b x214_6_l x214_6_c =>
      Pn w0 fun a =>
      LdI .i64 (a.add 12) w.drew fun x218_0 =>
      LdI .i64 ((a.add 12).add 1) w.drew fun x218_1 =>
      LdI .i64 ((a.add 12).add 2) w.drew fun x218_2 =>
      LdI .i64 ((a.add 12).add 3) w.drew fun x218_3 =>
      LdI .i64 ((a.add 12).add 4) w.drew fun x218_4 =>
      LdI .i64 ((a.add 12).add 5) w.drew fun x218_5 =>
      LdL ((a.add 12).add 6) w.drew fun x218_6_b x218_6_l x218_6_c =>
      seglaw_SameSeg.Call x214_0 x214_1 x214_2 x214_3 x214_4 x214_5 x214_6_b x214_6_l x214_6_c x218_0 x218_1 x218_2 x218_3 x218_4 x218_5 x218_6_b x218_6_l x218_6_c w.drew fun r219 w1 =>
      R r219 w1) (
      R false w.drew)) (
    Pn w0 fun a_1 =>
    LdL (a_1.add 11) w fun x224_b x224_l x224_c =>
    Bm (decide (((x224_l : Nat) : Int) > (0 : Int))) (
      Bm (e == (4 : Int)) (
        R true w) (
        R (e == (5 : Int)) w)) (
      R true w))) = kstep Try.prog 452 Try.f18.results.toList (Try.f18.body.getD .skip) (seglaw_World_Play.RV R) (kvc Try.prog 452 Try.f18.results.toList (Try.f18.body.getD .skip) (seglaw_World_Play.RV R) [] 2000) [(0, [1, 0, 1, 0, 1, 1, 1, 1, 1, 1, 1, 1, 1, 1, 1, 0, 1, 1, 0, 1]), (0, [1, 0, 1, 0, 1, 1, 1, 1, 1, 1, 1, 1, 1, 1, 1, 0, 1, 1, 1]), (1, [0]), (0, [1, 1])] [(0, .pointer w0), (14, .pointer (some ⟨s, 0, none⟩)), (15, .int .i64 e), (210, .bool t210)] w := by kernel_rfl
theorem seglaw_World_Play.B6_sound {R : Bool → World → Prop}  (w0 : Option Addr) (s : Nat) (e : Int) (t210 : Bool) (w : World) (h : seglaw_World_Play.B6 w0 s e t210 w   R) :
    KW Try.prog 18 452 (seglaw_World_Play.RV R) ([(0, [1, 0, 1, 0, 1, 1, 1, 1, 1, 1, 1, 1, 1, 1, 1, 0, 1, 1, 0, 1]), (0, [1, 0, 1, 0, 1, 1, 1, 1, 1, 1, 1, 1, 1, 1, 1, 0, 1, 1, 1]), (1, [0]), (0, [1, 1])].map (toItem (Try.f18.body.getD .skip))) [(0, .pointer w0), (14, .pointer (some ⟨s, 0, none⟩)), (15, .int .i64 e), (210, .bool t210)] w := by
  exact block_spec Try.func18 Try.mixed stops_nil (Eq.mp (seglaw_World_Play.B6_eq w0 s e t210 w   R ) h)
def seglaw_World_Play.B2 (w0 : Option Addr) (o s : Nat) (e : Int) (same : Bool) (w : World)   (R : Bool → World → Prop) : Prop :=
  Bm (!same) (
    R false w) (
    Pn w0 fun a =>
    LdL (a.add 11) w.drew fun x190_b x190_l x190_c =>
    Bm (decide (((x190_l : Nat) : Int) > (0 : Int))) (
      LdI .i64 ⟨o, 1, none⟩ w.drew fun x195 =>
      Pn w0 fun a_1 =>
      LdI .i64 (a_1.add 19) w.drew fun x199 =>
      Bm (x195 == x199) (
        LdI .i64 ⟨o, 2, none⟩ w.drew fun x204 =>
        Pn w0 fun a_2 =>
        LdI .i64 (a_2.add 20) w.drew fun x208 =>
        seglaw_World_Play.B6 w0 s e (x204 == x208) w.drew  R) (
        seglaw_World_Play.B6 w0 s e false w.drew  R)) (
      seglaw_World_Play.B6 w0 s e false w.drew  R))
theorem seglaw_World_Play.B2_eq (w0 : Option Addr) (o s : Nat) (e : Int) (same : Bool) (w : World)   (R : Bool → World → Prop) (sB6 : Option Addr → Nat → Int → Bool → World → Prop) :
    (
  Bm (!same) (
    R false w) (
    Pn w0 fun a =>
    LdL (a.add 11) w.drew fun x190_b x190_l x190_c =>
    Bm (decide (((x190_l : Nat) : Int) > (0 : Int))) (
      LdI .i64 ⟨o, 1, none⟩ w.drew fun x195 =>
      Pn w0 fun a_1 =>
      LdI .i64 (a_1.add 19) w.drew fun x199 =>
      Bm (x195 == x199) (
        LdI .i64 ⟨o, 2, none⟩ w.drew fun x204 =>
        Pn w0 fun a_2 =>
        LdI .i64 (a_2.add 20) w.drew fun x208 =>
        sB6 w0 s e (x204 == x208) w.drew) (
        sB6 w0 s e false w.drew)) (
      sB6 w0 s e false w.drew))) = kstep Try.prog 452 Try.f18.results.toList (Try.f18.body.getD .skip) (seglaw_World_Play.RV R) (kvc Try.prog 452 Try.f18.results.toList (Try.f18.body.getD .skip) (seglaw_World_Play.RV R) [([(0, [1, 0, 1, 0, 1, 1, 1, 1, 1, 1, 1, 1, 1, 1, 1, 0, 1, 1, 0, 1]), (0, [1, 0, 1, 0, 1, 1, 1, 1, 1, 1, 1, 1, 1, 1, 1, 0, 1, 1, 1]), (1, [0]), (0, [1, 1])], fun σ w => dP (slotOf σ 0) fun w0_ => dK (slotOf σ 14) fun s_ => dI .i64 (slotOf σ 15) fun e_ => dB (slotOf σ 210) fun t210_ => sB6 w0_ s_ e_ t210_ w)] 2000) [(0, [1, 0, 1, 0, 1, 1, 1, 1, 1, 1, 1, 1, 1, 1, 1, 0, 1]), (1, [0]), (0, [1, 1])] [(0, .pointer w0), (3, .pointer (some ⟨o, 0, none⟩)), (14, .pointer (some ⟨s, 0, none⟩)), (15, .int .i64 e), (16, .bool same)] w := by kernel_rfl
theorem seglaw_World_Play.B2_sound {R : Bool → World → Prop}  (w0 : Option Addr) (o s : Nat) (e : Int) (same : Bool) (w : World) (h : seglaw_World_Play.B2 w0 o s e same w   R) :
    KW Try.prog 18 452 (seglaw_World_Play.RV R) ([(0, [1, 0, 1, 0, 1, 1, 1, 1, 1, 1, 1, 1, 1, 1, 1, 0, 1]), (1, [0]), (0, [1, 1])].map (toItem (Try.f18.body.getD .skip))) [(0, .pointer w0), (3, .pointer (some ⟨o, 0, none⟩)), (14, .pointer (some ⟨s, 0, none⟩)), (15, .int .i64 e), (16, .bool same)] w := by
  exact block_spec Try.func18 Try.mixed (stops_cons (fun σ w h => by
      obtain ⟨w0_, e0, h⟩ := dP_elim h
      obtain ⟨s_, e1, h⟩ := dK_elim h
      obtain ⟨e_, e2, h⟩ := dI_elim h
      obtain ⟨t210_, e3, h⟩ := dB_elim h
      exact (seglaw_World_Play.B6_sound  w0_ s_ e_ t210_ w h).weaken (Sub.cons (Sub.cons (Sub.cons (Sub.cons (Sub.nil _) e3) e2) e1) e0)) stops_nil) (Eq.mp (seglaw_World_Play.B2_eq w0 o s e same w   R (fun w0_ s_ e_ t210_ w => seglaw_World_Play.B6 w0_ s_ e_ t210_ w  R)) h)
def seglaw_World_Play.B7 (e : Int) (same : Bool) (w : World)   (R : Bool → World → Prop) : Prop :=
  Bm same (
    R (e == (4 : Int)) w) (
    R false w)
theorem seglaw_World_Play.B7_eq (e : Int) (same : Bool) (w : World)   (R : Bool → World → Prop)  :
    (
  Bm same (
    R (e == (4 : Int)) w) (
    R false w)) = kstep Try.prog 452 Try.f18.results.toList (Try.f18.body.getD .skip) (seglaw_World_Play.RV R) (kvc Try.prog 452 Try.f18.results.toList (Try.f18.body.getD .skip) (seglaw_World_Play.RV R) [] 2000) [(0, [1, 0, 1, 0, 1, 1, 1, 1, 1, 1, 1, 1, 1, 1, 1, 1, 1, 0, 1, 1, 1, 1]), (1, [0]), (0, [1, 1])] [(19, .int .i64 e), (20, .bool same)] w := by kernel_rfl
theorem seglaw_World_Play.B7_sound {R : Bool → World → Prop}  (e : Int) (same : Bool) (w : World) (h : seglaw_World_Play.B7 e same w   R) :
    KW Try.prog 18 452 (seglaw_World_Play.RV R) ([(0, [1, 0, 1, 0, 1, 1, 1, 1, 1, 1, 1, 1, 1, 1, 1, 1, 1, 0, 1, 1, 1, 1]), (1, [0]), (0, [1, 1])].map (toItem (Try.f18.body.getD .skip))) [(19, .int .i64 e), (20, .bool same)] w := by
  exact block_spec Try.func18 Try.mixed stops_nil (Eq.mp (seglaw_World_Play.B7_eq e same w   R ) h)
def seglaw_World_Play.B3 (w0 : Option Addr) (o : Nat) (t248 : Bool) (w : World)   (R : Bool → World → Prop) : Prop :=
  Bm t248 (
    R true w) (
    Pn w0 fun a =>
    LdL (a.add 11) w fun x252_b x252_l x252_c =>
    api_CopyBytes.Call x252_b x252_l x252_c w fun r253_b r253_l r253_c w1 =>
    LdI .i64 ⟨o, 3, none⟩ w1.drew fun x256 =>
    (8 : Int) ≠ 0 ∧
    Pn r253_b fun a_1 =>
    (0 ≤ (IntKind.i64.wrap (x256.tdiv (8 : Int))) ∧ (IntKind.i64.wrap (x256.tdiv (8 : Int))) < ((r253_l : Nat) : Int)) ∧
    LdI .u8 (Addr.add a_1 ((IntKind.i64.wrap (x256.tdiv (8 : Int))).toNat * 1)) w1.drew fun x259 =>
    LdI .i64 ⟨o, 3, none⟩ w1.drew fun x261 =>
    (8 : Int) ≠ 0 ∧
    0 ≤ (IntKind.u64.wrap (x261.tmod (8 : Int))) ∧
    Pn r253_b fun a_2 =>
    (0 ≤ (IntKind.i64.wrap (x256.tdiv (8 : Int))) ∧ (IntKind.i64.wrap (x256.tdiv (8 : Int))) < ((r253_l : Nat) : Int)) ∧
    Sts [.int .u8 (IntKind.u8.wrap (BitVec.ofInt IntKind.u8.bits x259 ^^^ BitVec.ofInt IntKind.u8.bits (IntKind.u8.wrap ((1 : Int) * 2 ^ (min (IntKind.u64.wrap (x261.tmod (8 : Int))).toNat IntKind.u8.bits)))).toNat)] (Addr.add a_2 ((IntKind.i64.wrap (x256.tdiv (8 : Int))).toNat * 1)) 0 w1.drew fun w2 =>
    Pn w0 fun a_3 =>
    LdI .i64 (a_3.add 19) w2.drew fun x272 =>
    Pn w0 fun a_4 =>
    LdI .i64 (a_4.add 20) w2.drew fun x276 =>
    ((
      seglaw_World_Decode.Call w0 x272 x276 r253_b r253_l r253_c w2.drew fun r278_0_0 r278_0_1 r278_0_2 r278_0_3 r278_0_4 r278_0_5 r278_0_6_b r278_0_6_l r278_0_6_c r278_1 r278_2 w3 =>
      New (.cells #[.int .i64 (0 : Int), .int .i64 (0 : Int), .int .i64 (0 : Int), .int .i64 (0 : Int), .int .i64 (0 : Int), .int .i64 (0 : Int), .slice none 0 0] 39) w3 fun v__ w4 =>
      Sts [.int .i64 r278_0_0, .int .i64 r278_0_1, .int .i64 r278_0_2, .int .i64 r278_0_3, .int .i64 r278_0_4, .int .i64 r278_0_5, .slice r278_0_6_b r278_0_6_l r278_0_6_c] ⟨v__, 0, none⟩ 0 w4 fun w5 =>
      seglaw_World_Play.B7 r278_1 r278_2 w5  R) ∧ (
      New (.cells #[.int .i64 (0 : Int), .int .i64 (0 : Int), .int .i64 (0 : Int), .int .i64 (0 : Int), .int .i64 (0 : Int), .int .i64 (0 : Int), .slice none 0 0] 39) w2.drew fun v___1 w6 =>
      w6.cell? (a_4.add 20) = some (.int .i64 x276) ∧
      w6.cell? (a_3.add 19) = some (.int .i64 x272) ∧
      seglaw_World_Decode.Call w0 x272 x276 r253_b r253_l r253_c w6 fun r278_0_0_1 r278_0_1_1 r278_0_2_1 r278_0_3_1 r278_0_4_1 r278_0_5_1 r278_0_6_b_1 r278_0_6_l_1 r278_0_6_c_1 r278_1_1 r278_2_1 w7 =>
      Sts [.int .i64 r278_0_0_1, .int .i64 r278_0_1_1, .int .i64 r278_0_2_1, .int .i64 r278_0_3_1, .int .i64 r278_0_4_1, .int .i64 r278_0_5_1, .slice r278_0_6_b_1 r278_0_6_l_1 r278_0_6_c_1] ⟨v___1, 0, none⟩ 0 w7 fun w8 =>
      seglaw_World_Play.B7 r278_1_1 r278_2_1 w8  R)))
theorem seglaw_World_Play.B3_eq (w0 : Option Addr) (o : Nat) (t248 : Bool) (w : World)   (R : Bool → World → Prop) (sB7 : Int → Bool → World → Prop) :
    (
  Bm t248 (
    R true w) (
    Pn w0 fun a =>
    LdL (a.add 11) w fun x252_b x252_l x252_c =>
    api_CopyBytes.Call x252_b x252_l x252_c w fun r253_b r253_l r253_c w1 =>
    LdI .i64 ⟨o, 3, none⟩ w1.drew fun x256 =>
    (8 : Int) ≠ 0 ∧
    Pn r253_b fun a_1 =>
    (0 ≤ (IntKind.i64.wrap (x256.tdiv (8 : Int))) ∧ (IntKind.i64.wrap (x256.tdiv (8 : Int))) < ((r253_l : Nat) : Int)) ∧
    LdI .u8 (Addr.add a_1 ((IntKind.i64.wrap (x256.tdiv (8 : Int))).toNat * 1)) w1.drew fun x259 =>
    LdI .i64 ⟨o, 3, none⟩ w1.drew fun x261 =>
    (8 : Int) ≠ 0 ∧
    0 ≤ (IntKind.u64.wrap (x261.tmod (8 : Int))) ∧
    Pn r253_b fun a_2 =>
    (0 ≤ (IntKind.i64.wrap (x256.tdiv (8 : Int))) ∧ (IntKind.i64.wrap (x256.tdiv (8 : Int))) < ((r253_l : Nat) : Int)) ∧
    Sts [.int .u8 (IntKind.u8.wrap (BitVec.ofInt IntKind.u8.bits x259 ^^^ BitVec.ofInt IntKind.u8.bits (IntKind.u8.wrap ((1 : Int) * 2 ^ (min (IntKind.u64.wrap (x261.tmod (8 : Int))).toNat IntKind.u8.bits)))).toNat)] (Addr.add a_2 ((IntKind.i64.wrap (x256.tdiv (8 : Int))).toNat * 1)) 0 w1.drew fun w2 =>
    Pn w0 fun a_3 =>
    LdI .i64 (a_3.add 19) w2.drew fun x272 =>
    Pn w0 fun a_4 =>
    LdI .i64 (a_4.add 20) w2.drew fun x276 =>
    ((
      seglaw_World_Decode.Call w0 x272 x276 r253_b r253_l r253_c w2.drew fun r278_0_0 r278_0_1 r278_0_2 r278_0_3 r278_0_4 r278_0_5 r278_0_6_b r278_0_6_l r278_0_6_c r278_1 r278_2 w3 =>
      New (.cells #[.int .i64 (0 : Int), .int .i64 (0 : Int), .int .i64 (0 : Int), .int .i64 (0 : Int), .int .i64 (0 : Int), .int .i64 (0 : Int), .slice none 0 0] 39) w3 fun v__ w4 =>
      Sts [.int .i64 r278_0_0, .int .i64 r278_0_1, .int .i64 r278_0_2, .int .i64 r278_0_3, .int .i64 r278_0_4, .int .i64 r278_0_5, .slice r278_0_6_b r278_0_6_l r278_0_6_c] ⟨v__, 0, none⟩ 0 w4 fun w5 =>
      sB7 r278_1 r278_2 w5) ∧ (
      New (.cells #[.int .i64 (0 : Int), .int .i64 (0 : Int), .int .i64 (0 : Int), .int .i64 (0 : Int), .int .i64 (0 : Int), .int .i64 (0 : Int), .slice none 0 0] 39) w2.drew fun v___1 w6 =>
      w6.cell? (a_4.add 20) = some (.int .i64 x276) ∧
      w6.cell? (a_3.add 19) = some (.int .i64 x272) ∧
      seglaw_World_Decode.Call w0 x272 x276 r253_b r253_l r253_c w6 fun r278_0_0_1 r278_0_1_1 r278_0_2_1 r278_0_3_1 r278_0_4_1 r278_0_5_1 r278_0_6_b_1 r278_0_6_l_1 r278_0_6_c_1 r278_1_1 r278_2_1 w7 =>
      Sts [.int .i64 r278_0_0_1, .int .i64 r278_0_1_1, .int .i64 r278_0_2_1, .int .i64 r278_0_3_1, .int .i64 r278_0_4_1, .int .i64 r278_0_5_1, .slice r278_0_6_b_1 r278_0_6_l_1 r278_0_6_c_1] ⟨v___1, 0, none⟩ 0 w7 fun w8 =>
      sB7 r278_1_1 r278_2_1 w8)))) = kstep Try.prog 452 Try.f18.results.toList (Try.f18.body.getD .skip) (seglaw_World_Play.RV R) (kvc Try.prog 452 Try.f18.results.toList (Try.f18.body.getD .skip) (seglaw_World_Play.RV R) [([(0, [1, 0, 1, 0, 1, 1, 1, 1, 1, 1, 1, 1, 1, 1, 1, 1, 1, 0, 1, 1, 1, 1]), (1, [0]), (0, [1, 1])], fun σ w => dI .i64 (slotOf σ 19) fun e_ => dB (slotOf σ 20) fun same_ => sB7 e_ same_ w)] 2000) [(0, [1, 0, 1, 0, 1, 1, 1, 1, 1, 1, 1, 1, 1, 1, 1, 1, 1, 0, 0, 1]), (0, [1, 0, 1, 0, 1, 1, 1, 1, 1, 1, 1, 1, 1, 1, 1, 1, 1, 0, 1]), (1, [0]), (0, [1, 1])] [(0, .pointer w0), (3, .pointer (some ⟨o, 0, none⟩)), (248, .bool t248)] w := by kernel_rfl
theorem seglaw_World_Play.B3_sound {R : Bool → World → Prop}  (w0 : Option Addr) (o : Nat) (t248 : Bool) (w : World) (h : seglaw_World_Play.B3 w0 o t248 w   R) :
    KW Try.prog 18 452 (seglaw_World_Play.RV R) ([(0, [1, 0, 1, 0, 1, 1, 1, 1, 1, 1, 1, 1, 1, 1, 1, 1, 1, 0, 0, 1]), (0, [1, 0, 1, 0, 1, 1, 1, 1, 1, 1, 1, 1, 1, 1, 1, 1, 1, 0, 1]), (1, [0]), (0, [1, 1])].map (toItem (Try.f18.body.getD .skip))) [(0, .pointer w0), (3, .pointer (some ⟨o, 0, none⟩)), (248, .bool t248)] w := by
  exact block_spec Try.func18 Try.mixed (stops_cons (fun σ w h => by
      obtain ⟨e_, e0, h⟩ := dI_elim h
      obtain ⟨same_, e1, h⟩ := dB_elim h
      exact (seglaw_World_Play.B7_sound  e_ same_ w h).weaken (Sub.cons (Sub.cons (Sub.nil _) e1) e0)) stops_nil) (Eq.mp (seglaw_World_Play.B3_eq w0 o t248 w   R (fun e_ same_ w => seglaw_World_Play.B7 e_ same_ w  R)) h)
def seglaw_World_Play.B4 (w0 b_b : Option Addr) (b_l b_c : Nat) (t358 : Bool) (w : World)   (R : Bool → World → Prop) : Prop :=
  Bm t358 (
    R false w) (
    seglaw_World_Own.Call w0 b_b b_l b_c w fun w1 =>
    R true w1)
theorem seglaw_World_Play.B4_eq (w0 b_b : Option Addr) (b_l b_c : Nat) (t358 : Bool) (w : World)   (R : Bool → World → Prop)  :
    (
  Bm t358 (
    R false w) (
    seglaw_World_Own.Call w0 b_b b_l b_c w fun w1 =>
    R true w1)) = kstep Try.prog 452 Try.f18.results.toList (Try.f18.body.getD .skip) (seglaw_World_Play.RV R) (kvc Try.prog 452 Try.f18.results.toList (Try.f18.body.getD .skip) (seglaw_World_Play.RV R) [] 2000) [(0, [1, 0, 1, 0, 1, 1, 1, 1, 1, 1, 1, 1, 1, 1, 1, 1, 1, 1, 1, 1, 1, 1, 1, 0, 1, 1, 0, 1]), (0, [1, 0, 1, 0, 1, 1, 1, 1, 1, 1, 1, 1, 1, 1, 1, 1, 1, 1, 1, 1, 1, 1, 1, 0, 1, 1, 1]), (1, [0]), (0, [1, 1])] [(0, .pointer w0), (26, .slice b_b b_l b_c), (358, .bool t358)] w := by kernel_rfl
theorem seglaw_World_Play.B4_sound {R : Bool → World → Prop}  (w0 b_b : Option Addr) (b_l b_c : Nat) (t358 : Bool) (w : World) (h : seglaw_World_Play.B4 w0 b_b b_l b_c t358 w   R) :
    KW Try.prog 18 452 (seglaw_World_Play.RV R) ([(0, [1, 0, 1, 0, 1, 1, 1, 1, 1, 1, 1, 1, 1, 1, 1, 1, 1, 1, 1, 1, 1, 1, 1, 0, 1, 1, 0, 1]), (0, [1, 0, 1, 0, 1, 1, 1, 1, 1, 1, 1, 1, 1, 1, 1, 1, 1, 1, 1, 1, 1, 1, 1, 0, 1, 1, 1]), (1, [0]), (0, [1, 1])].map (toItem (Try.f18.body.getD .skip))) [(0, .pointer w0), (26, .slice b_b b_l b_c), (358, .bool t358)] w := by
  exact block_spec Try.func18 Try.mixed stops_nil (Eq.mp (seglaw_World_Play.B4_eq w0 b_b b_l b_c t358 w   R ) h)
def seglaw_World_Play.B0 (w0 : Option Addr) (o_0 o_1 o_2 o_3 : Int) (o_4 o_5 : ByteArray) (w : World)   (R : Bool → World → Prop) : Prop :=
  New (.cells #[.int .i64 o_0, .int .i64 o_1, .int .i64 o_2, .int .i64 o_3, .string o_4, .string o_5] 32) w fun o_ w1 =>
  LdI .i64 ⟨o_, 0, none⟩ w1 fun x35 =>
  Bm (x35 == (1 : Int)) (
    LdI .i64 ⟨o_, 1, none⟩ w1.drew fun x45 =>
    LdI .i64 ⟨o_, 2, none⟩ w1.drew fun x47 =>
    Pn w0 fun a =>
    Sts [.int .i64 x45] (a.add 4) 0 w1.drew fun w2 =>
    w2.cell? ⟨o_, 2, none⟩ = some (.int .i64 x47) ∧
    Pn w0 fun a_1 =>
    Sts [.int .i64 x47] ((a_1.add 4).add 1) 0 w2 fun w3 =>
    R true w3) (
    Bm (x35 == (2 : Int)) (
      LdI .i64 ⟨o_, 1, none⟩ w1.drew fun x60 =>
      LdI .i64 ⟨o_, 2, none⟩ w1.drew fun x62 =>
      LdI .i64 ⟨o_, 3, none⟩ w1.drew fun x64 =>
      Pn w0 fun a_2 =>
      Sts [.int .i64 x60] ((a_2.add 4).add 2) 0 w1.drew fun w4 =>
      w4.cell? ⟨o_, 3, none⟩ = some (.int .i64 x64) ∧
      w4.cell? ⟨o_, 2, none⟩ = some (.int .i64 x62) ∧
      Pn w0 fun a_3 =>
      Sts [.int .i64 x62] ((a_3.add 4).add 3) 0 w4 fun w5 =>
      w5.cell? ⟨o_, 3, none⟩ = some (.int .i64 x64) ∧
      Pn w0 fun a_4 =>
      Sts [.int .i64 x64] ((a_4.add 4).add 5) 0 w5 fun w6 =>
      R true w6) (
      Bm (x35 == (3 : Int)) (
        LdI .i64 ⟨o_, 1, none⟩ w1 fun x78 =>
        Pn w0 fun a_5 =>
        Sts [.int .i64 x78] ((a_5.add 4).add 4) 0 w1 fun w7 =>
        R true w7) (
        Bm (x35 == (4 : Int)) (
          Pn w0 fun a_6 =>
          LdI .i64 (a_6.add 4) w1 fun x87_0 =>
          LdI .i64 ((a_6.add 4).add 1) w1 fun x87_1 =>
          LdI .i64 ((a_6.add 4).add 2) w1 fun x87_2 =>
          LdI .i64 ((a_6.add 4).add 3) w1 fun x87_3 =>
          LdI .i64 ((a_6.add 4).add 4) w1 fun x87_4 =>
          LdI .i64 ((a_6.add 4).add 5) w1 fun x87_5 =>
          LdL ((a_6.add 4).add 6) w1 fun x87_6_b x87_6_l x87_6_c =>
          New (.cells #[.int .i64 (0 : Int), .int .i64 (0 : Int), .int .i64 (0 : Int), .int .i64 (0 : Int), .int .i64 (0 : Int), .int .i64 (0 : Int), .slice none 0 0] 39) w1 fun s1_ w8 =>
          Sts [.int .i64 x87_0, .int .i64 x87_1, .int .i64 x87_2, .int .i64 x87_3, .int .i64 x87_4, .int .i64 x87_5, .slice x87_6_b x87_6_l x87_6_c] ⟨s1_, 0, none⟩ 0 w8 fun w9 =>
          LdS ⟨o_, 4, none⟩ w9 fun x89 =>
          ToBytes 5 x89 w9 fun b90 c90 w10 =>
          Sts [.slice (some ⟨b90, 0, none⟩) x89.size c90] ⟨s1_, 6, none⟩ 0 w10 fun w11 =>
          Pn w0 fun a_7 =>
          LdI .i64 (a_7.add 4) w11 fun x95_0 =>
          LdI .i64 ((a_7.add 4).add 1) w11 fun x95_1 =>
          LdI .i64 ((a_7.add 4).add 2) w11 fun x95_2 =>
          LdI .i64 ((a_7.add 4).add 3) w11 fun x95_3 =>
          LdI .i64 ((a_7.add 4).add 4) w11 fun x95_4 =>
          LdI .i64 ((a_7.add 4).add 5) w11 fun x95_5 =>
          LdL ((a_7.add 4).add 6) w11 fun x95_6_b x95_6_l x95_6_c =>
          New (.cells #[.int .i64 (0 : Int), .int .i64 (0 : Int), .int .i64 (0 : Int), .int .i64 (0 : Int), .int .i64 (0 : Int), .int .i64 (0 : Int), .slice none 0 0] 39) w11 fun s2_ w12 =>
          Sts [.int .i64 x95_0, .int .i64 x95_1, .int .i64 x95_2, .int .i64 x95_3, .int .i64 x95_4, .int .i64 x95_5, .slice x95_6_b x95_6_l x95_6_c] ⟨s2_, 0, none⟩ 0 w12 fun w13 =>
          LdS ⟨o_, 4, none⟩ w13 fun x97 =>
          ToBytes 5 x97 w13 fun b98 c98 w14 =>
          Sts [.slice (some ⟨b98, 0, none⟩) x97.size c98] ⟨s2_, 6, none⟩ 0 w14 fun w15 =>
          LdI .i64 ⟨o_, 1, none⟩ w15 fun x102 =>
          LdI .i64 ⟨o_, 2, none⟩ w15 fun x104 =>
          LdI .i64 ⟨s1_, 0, none⟩ w15 fun x105_0 =>
          LdI .i64 ⟨s1_, 1, none⟩ w15 fun x105_1 =>
          LdI .i64 ⟨s1_, 2, none⟩ w15 fun x105_2 =>
          LdI .i64 ⟨s1_, 3, none⟩ w15 fun x105_3 =>
          LdI .i64 ⟨s1_, 4, none⟩ w15 fun x105_4 =>
          LdI .i64 ⟨s1_, 5, none⟩ w15 fun x105_5 =>
          LdL ⟨s1_, 6, none⟩ w15 fun x105_6_b x105_6_l x105_6_c =>
          seg_Encode.Call x102 x104 x105_0 x105_1 x105_2 x105_3 x105_4 x105_5 x105_6_b x105_6_l x105_6_c w15 fun r106_0_b r106_0_l r106_0_c r106_1 w16 =>
          LdI .i64 ⟨o_, 1, none⟩ w16 fun x111 =>
          LdI .i64 ⟨o_, 2, none⟩ w16 fun x113 =>
          LdI .i64 ⟨s2_, 0, none⟩ w16 fun x114_0 =>
          LdI .i64 ⟨s2_, 1, none⟩ w16 fun x114_1 =>
          LdI .i64 ⟨s2_, 2, none⟩ w16 fun x114_2 =>
          LdI .i64 ⟨s2_, 3, none⟩ w16 fun x114_3 =>
          LdI .i64 ⟨s2_, 4, none⟩ w16 fun x114_4 =>
          LdI .i64 ⟨s2_, 5, none⟩ w16 fun x114_5 =>
          LdL ⟨s2_, 6, none⟩ w16 fun x114_6_b x114_6_l x114_6_c =>
          segm_Encode.Call x111 x113 x114_0 x114_1 x114_2 x114_3 x114_4 x114_5 x114_6_b x114_6_l x114_6_c w16 fun r115_0_b r115_0_l r115_0_c r115_1 w17 =>
          LdL ⟨s1_, 6, none⟩ w17 fun x119_b x119_l x119_c =>
          seglaw_Scribble.Call x119_b x119_l x119_c w17 fun w18 =>
          Bm (r106_1 != r115_1) (
            seglaw_World_Play.B1 w0 o_ s2_ r106_0_b r106_0_l r106_0_c r106_1 r115_0_b r115_0_l r115_0_c true w18  R) (
            api_SameBytes.Call r106_0_b r106_0_l r106_0_c r115_0_b r115_0_l r115_0_c w18 fun r127 w19 =>
            seglaw_World_Play.B1 w0 o_ s2_ r106_0_b r106_0_l r106_0_c r106_1 r115_0_b r115_0_l r115_0_c (!r127) w19  R)) (
          Bm (x35 == (5 : Int)) (
            LdI .i64 ⟨o_, 1, none⟩ w1 fun x158 =>
            LdI .i64 ⟨o_, 2, none⟩ w1 fun x160 =>
            LdS ⟨o_, 4, none⟩ w1 fun x162 =>
            ToBytes 5 x162 w1 fun b163 c163 w20 =>
            seglaw_World_Decode.Call w0 x158 x160 (some ⟨b163, 0, none⟩) x162.size c163 w20 fun r164_0_0 r164_0_1 r164_0_2 r164_0_3 r164_0_4 r164_0_5 r164_0_6_b r164_0_6_l r164_0_6_c r164_1 r164_2 w21 =>
            New (.cells #[.int .i64 (0 : Int), .int .i64 (0 : Int), .int .i64 (0 : Int), .int .i64 (0 : Int), .int .i64 (0 : Int), .int .i64 (0 : Int), .slice none 0 0] 39) w21 fun v__ w22 =>
            Sts [.int .i64 r164_0_0, .int .i64 r164_0_1, .int .i64 r164_0_2, .int .i64 r164_0_3, .int .i64 r164_0_4, .int .i64 r164_0_5, .slice r164_0_6_b r164_0_6_l r164_0_6_c] ⟨v__, 0, none⟩ 0 w22 fun w23 =>
            R r164_2 w23) (
            Bm (x35 == (6 : Int)) (
              LdI .i64 ⟨o_, 1, none⟩ w1.drew fun x174 =>
              LdI .i64 ⟨o_, 2, none⟩ w1.drew fun x176 =>
              Pn w0 fun a_8 =>
              LdL (a_8.add 11) w1.drew fun x180_b x180_l x180_c =>
              ((
                seglaw_World_Decode.Call w0 x174 x176 x180_b x180_l x180_c w1.drew fun r181_0_0 r181_0_1 r181_0_2 r181_0_3 r181_0_4 r181_0_5 r181_0_6_b r181_0_6_l r181_0_6_c r181_1 r181_2 w24 =>
                New (.cells #[.int .i64 (0 : Int), .int .i64 (0 : Int), .int .i64 (0 : Int), .int .i64 (0 : Int), .int .i64 (0 : Int), .int .i64 (0 : Int), .slice none 0 0] 39) w24 fun s_ w25 =>
                Sts [.int .i64 r181_0_0, .int .i64 r181_0_1, .int .i64 r181_0_2, .int .i64 r181_0_3, .int .i64 r181_0_4, .int .i64 r181_0_5, .slice r181_0_6_b r181_0_6_l r181_0_6_c] ⟨s_, 0, none⟩ 0 w25 fun w26 =>
                seglaw_World_Play.B2 w0 o_ s_ r181_1 r181_2 w26  R) ∧ (
                New (.cells #[.int .i64 (0 : Int), .int .i64 (0 : Int), .int .i64 (0 : Int), .int .i64 (0 : Int), .int .i64 (0 : Int), .int .i64 (0 : Int), .slice none 0 0] 39) w1.drew fun s__1 w27 =>
                w27.cell? (a_8.add 11) = some (.slice x180_b x180_l x180_c) ∧
                w27.cell? ⟨o_, 2, none⟩ = some (.int .i64 x176) ∧
                w27.cell? ⟨o_, 1, none⟩ = some (.int .i64 x174) ∧
                seglaw_World_Decode.Call w0 x174 x176 x180_b x180_l x180_c w27 fun r181_0_0_1 r181_0_1_1 r181_0_2_1 r181_0_3_1 r181_0_4_1 r181_0_5_1 r181_0_6_b_1 r181_0_6_l_1 r181_0_6_c_1 r181_1_1 r181_2_1 w28 =>
                Sts [.int .i64 r181_0_0_1, .int .i64 r181_0_1_1, .int .i64 r181_0_2_1, .int .i64 r181_0_3_1, .int .i64 r181_0_4_1, .int .i64 r181_0_5_1, .slice r181_0_6_b_1 r181_0_6_l_1 r181_0_6_c_1] ⟨s__1, 0, none⟩ 0 w28 fun w29 =>
                seglaw_World_Play.B2 w0 o_ s__1 r181_1_1 r181_2_1 w29  R))) (
              Bm (x35 == (7 : Int)) (
                LdI .i64 ⟨o_, 3, none⟩ w1.drew fun x236 =>
                Bm (decide (x236 < (0 : Int))) (
                  seglaw_World_Play.B3 w0 o_ true w1.drew  R) (
                  LdI .i64 ⟨o_, 3, none⟩ w1.drew fun x240 =>
                  (8 : Int) ≠ 0 ∧
                  Pn w0 fun a_9 =>
                  LdL (a_9.add 11) w1.drew fun x245_b x245_l x245_c =>
                  seglaw_World_Play.B3 w0 o_ (decide ((IntKind.i64.wrap (x240.tdiv (8 : Int))) ≥ ((x245_l : Nat) : Int))) w1.drew  R)) (
                Bm (x35 == (10 : Int)) (
                  Pn w0 fun a_10 =>
                  LdP a_10 w1.drew fun x292 =>
                  LdI .i64 ⟨o_, 1, none⟩ w1.drew fun x294 =>
                  seg_SendBuf_Reset.Call x292 x294 w1.drew fun w30 =>
                  Pn w0 fun a_11 =>
                  LdP (a_11.add 1) w30.drew fun x299 =>
                  LdI .i64 ⟨o_, 1, none⟩ w30.drew fun x301 =>
                  segm_SendBuf_Reset.Call x299 x301 w30.drew fun w31 =>
                  R true w31) (
                  Bm (x35 == (11 : Int)) (
                    LdS ⟨o_, 4, none⟩ w1 fun x306 =>
                    ToBytes 5 x306 w1 fun b307 c307 w32 =>
                    LdS ⟨o_, 4, none⟩ w32 fun x309 =>
                    ToBytes 5 x309 w32 fun b310 c310 w33 =>
                    Pn w0 fun a_12 =>
                    LdP a_12 w33 fun x314 =>
                    seg_SendBuf_Put.Call x314 (some ⟨b307, 0, none⟩) x306.size c307 w33 fun r316 w34 =>
                    Pn w0 fun a_13 =>
                    LdP (a_13.add 1) w34 fun x320 =>
                    segm_SendBuf_Put.Call x320 (some ⟨b310, 0, none⟩) x309.size c310 w34 fun r322 w35 =>
                    seglaw_Scribble.Call (some ⟨b307, 0, none⟩) x306.size c307 w35 fun w36 =>
                    R (r316 == r322) w36) (
                    Bm (x35 == (12 : Int)) (
                      Pn w0 fun a_14 =>
                      LdP a_14 w1.drew fun x334 =>
                      LdI .i64 ⟨o_, 1, none⟩ w1.drew fun x336 =>
                      seg_SendBuf_Next.Call x334 x336 w1.drew fun r337_0 r337_1_b r337_1_l r337_1_c w37 =>
                      Pn w0 fun a_15 =>
                      LdP (a_15.add 1) w37.drew fun x344 =>
                      LdI .i64 ⟨o_, 1, none⟩ w37.drew fun x346 =>
                      segm_SendBuf_Next.Call x344 x346 w37.drew fun r347_0 r347_1_b r347_1_l r347_1_c w38 =>
                      Bm (r337_0 != r347_0) (
                        seglaw_World_Play.B4 w0 r337_1_b r337_1_l r337_1_c true w38  R) (
                        api_SameBytes.Call r337_1_b r337_1_l r337_1_c r347_1_b r347_1_l r347_1_c w38 fun r356 w39 =>
                        seglaw_World_Play.B4 w0 r337_1_b r337_1_l r337_1_c (!r356) w39  R)) (
                      Bm (x35 == (13 : Int)) (
                        LdI .i64 ⟨o_, 1, none⟩ w1 fun x366 =>
                        seglaw_World_LikeAgain.Call w0 x366 w1 fun r367 w40 =>
                        R r367 w40) (
                        Bm (x35 == (14 : Int)) (
                          LdI .i64 ⟨o_, 1, none⟩ w1 fun x372 =>
                          seglaw_World_Ack.Call w0 x372 w1 fun r373 w41 =>
                          R r373 w41) (
                          Bm (x35 == (20 : Int)) (
                            Pn w0 fun a_16 =>
                            LdP (a_16.add 2) w1.drew fun x379 =>
                            LdI .i64 ⟨o_, 1, none⟩ w1.drew fun x381 =>
                            seg_RecvBuf_Reset.Call x379 x381 w1.drew fun w42 =>
                            Pn w0 fun a_17 =>
                            LdP (a_17.add 3) w42.drew fun x386 =>
                            LdI .i64 ⟨o_, 1, none⟩ w42.drew fun x388 =>
                            segm_RecvBuf_Reset.Call x386 x388 w42.drew fun w43 =>
                            R true w43) (
                            Bm (x35 == (21 : Int)) (
                              LdI .i64 ⟨o_, 1, none⟩ w1 fun x394 =>
                              LdS ⟨o_, 4, none⟩ w1 fun x396 =>
                              ToBytes 5 x396 w1 fun b397 c397 w44 =>
                              seglaw_World_Insert.Call w0 x394 (some ⟨b397, 0, none⟩) x396.size c397 w44 fun r398 w45 =>
                              R r398 w45) (
                              Bm (x35 == (22 : Int)) (
                                Pn w0 fun a_18 =>
                                LdP (a_18.add 2) w1.drew fun x404 =>
                                LdI .i64 ⟨o_, 1, none⟩ w1.drew fun x406 =>
                                seg_RecvBuf_Read.Call x404 x406 w1.drew fun r407_b r407_l r407_c w46 =>
                                Pn w0 fun a_19 =>
                                LdP (a_19.add 3) w46.drew fun x411 =>
                                LdI .i64 ⟨o_, 1, none⟩ w46.drew fun x413 =>
                                segm_RecvBuf_Read.Call x411 x413 w46.drew fun r414_b r414_l r414_c w47 =>
                                api_SameBytes.Call r407_b r407_l r407_c r414_b r414_l r414_c w47 fun r417 w48 =>
                                Bm (!r417) (
                                  R false w48) (
                                  seglaw_World_Own.Call w0 r407_b r407_l r407_c w48 fun w49 =>
                                  R true w49)) (
                                Bm (x35 == (30 : Int)) (
                                  LdI .i64 ⟨o_, 1, none⟩ w1 fun x426 =>
                                  seglaw_World_LikeAgain.Call w0 x426 w1 fun r427 w50 =>
                                  Bm (!r427) (
                                    R false w50) (
                                    Pn w0 fun a_20 =>
                                    LdP (a_20.add 1) w50.drew fun x433 =>
                                    LdI .i64 ⟨o_, 1, none⟩ w50.drew fun x435 =>
                                    segm_SendBuf_Again.Call x433 x435 w50.drew fun r436_0 r436_1_b r436_1_l r436_1_c w51 =>
                                    seglaw_World_Insert.Call w0 r436_0 r436_1_b r436_1_l r436_1_c w51 fun r442 w52 =>
                                    Bm (!r442) (
                                      R false w52) (
                                      Pn w0 fun a_21 =>
                                      LdP (a_21.add 3) w52 fun x447 =>
                                      segm_RecvBuf_Nxt.Call x447 w52 fun r448 w53 =>
                                      seglaw_World_Ack.Call w0 r448 w53 fun r451 w54 =>
                                      R r451 w54))) (
                                  LdI .i64 ⟨o_, 0, none⟩ w1 fun x38 =>
                                  seglaw_World_See.Call w0 x38 w1 fun r39 w55 =>
                                  R r39 w55))))))))))))))))
theorem seglaw_World_Play.B0_eq (w0 : Option Addr) (o_0 o_1 o_2 o_3 : Int) (o_4 o_5 : ByteArray) (w : World)   (R : Bool → World → Prop) (sB1 : Option Addr → Nat → Nat → Option Addr → Nat → Nat → Int → Option Addr → Nat → Nat → Bool → World → Prop) (sB2 : Option Addr → Nat → Nat → Int → Bool → World → Prop) (sB3 : Option Addr → Nat → Bool → World → Prop) (sB4 : Option Addr → Option Addr → Nat → Nat → Bool → World → Prop) :
    (
  New (.cells #[.int .i64 o_0, .int .i64 o_1, .int .i64 o_2, .int .i64 o_3, .string o_4, .string o_5] 32) w fun o_ w1 =>
  LdI .i64 ⟨o_, 0, none⟩ w1 fun x35 =>
  Bm (x35 == (1 : Int)) (
    LdI .i64 ⟨o_, 1, none⟩ w1.drew fun x45 =>
    LdI .i64 ⟨o_, 2, none⟩ w1.drew fun x47 =>
    Pn w0 fun a =>
    Sts [.int .i64 x45] (a.add 4) 0 w1.drew fun w2 =>
    w2.cell? ⟨o_, 2, none⟩ = some (.int .i64 x47) ∧
    Pn w0 fun a_1 =>
    Sts [.int .i64 x47] ((a_1.add 4).add 1) 0 w2 fun w3 =>
    R true w3) (
    Bm (x35 == (2 : Int)) (
      LdI .i64 ⟨o_, 1, none⟩ w1.drew fun x60 =>
      LdI .i64 ⟨o_, 2, none⟩ w1.drew fun x62 =>
      LdI .i64 ⟨o_, 3, none⟩ w1.drew fun x64 =>
      Pn w0 fun a_2 =>
      Sts [.int .i64 x60] ((a_2.add 4).add 2) 0 w1.drew fun w4 =>
      w4.cell? ⟨o_, 3, none⟩ = some (.int .i64 x64) ∧
      w4.cell? ⟨o_, 2, none⟩ = some (.int .i64 x62) ∧
      Pn w0 fun a_3 =>
      Sts [.int .i64 x62] ((a_3.add 4).add 3) 0 w4 fun w5 =>
      w5.cell? ⟨o_, 3, none⟩ = some (.int .i64 x64) ∧
      Pn w0 fun a_4 =>
      Sts [.int .i64 x64] ((a_4.add 4).add 5) 0 w5 fun w6 =>
      R true w6) (
      Bm (x35 == (3 : Int)) (
        LdI .i64 ⟨o_, 1, none⟩ w1 fun x78 =>
        Pn w0 fun a_5 =>
        Sts [.int .i64 x78] ((a_5.add 4).add 4) 0 w1 fun w7 =>
        R true w7) (
        Bm (x35 == (4 : Int)) (
          Pn w0 fun a_6 =>
          LdI .i64 (a_6.add 4) w1 fun x87_0 =>
          LdI .i64 ((a_6.add 4).add 1) w1 fun x87_1 =>
          LdI .i64 ((a_6.add 4).add 2) w1 fun x87_2 =>
          LdI .i64 ((a_6.add 4).add 3) w1 fun x87_3 =>
          LdI .i64 ((a_6.add 4).add 4) w1 fun x87_4 =>
          LdI .i64 ((a_6.add 4).add 5) w1 fun x87_5 =>
          LdL ((a_6.add 4).add 6) w1 fun x87_6_b x87_6_l x87_6_c =>
          New (.cells #[.int .i64 (0 : Int), .int .i64 (0 : Int), .int .i64 (0 : Int), .int .i64 (0 : Int), .int .i64 (0 : Int), .int .i64 (0 : Int), .slice none 0 0] 39) w1 fun s1_ w8 =>
          Sts [.int .i64 x87_0, .int .i64 x87_1, .int .i64 x87_2, .int .i64 x87_3, .int .i64 x87_4, .int .i64 x87_5, .slice x87_6_b x87_6_l x87_6_c] ⟨s1_, 0, none⟩ 0 w8 fun w9 =>
          LdS ⟨o_, 4, none⟩ w9 fun x89 =>
          ToBytes 5 x89 w9 fun b90 c90 w10 =>
          Sts [.slice (some ⟨b90, 0, none⟩) x89.size c90] ⟨s1_, 6, none⟩ 0 w10 fun w11 =>
          Pn w0 fun a_7 =>
          LdI .i64 (a_7.add 4) w11 fun x95_0 =>
          LdI .i64 ((a_7.add 4).add 1) w11 fun x95_1 =>
          LdI .i64 ((a_7.add 4).add 2) w11 fun x95_2 =>
          LdI .i64 ((a_7.add 4).add 3) w11 fun x95_3 =>
          LdI .i64 ((a_7.add 4).add 4) w11 fun x95_4 =>
          LdI .i64 ((a_7.add 4).add 5) w11 fun x95_5 =>
          LdL ((a_7.add 4).add 6) w11 fun x95_6_b x95_6_l x95_6_c =>
          New (.cells #[.int .i64 (0 : Int), .int .i64 (0 : Int), .int .i64 (0 : Int), .int .i64 (0 : Int), .int .i64 (0 : Int), .int .i64 (0 : Int), .slice none 0 0] 39) w11 fun s2_ w12 =>
          Sts [.int .i64 x95_0, .int .i64 x95_1, .int .i64 x95_2, .int .i64 x95_3, .int .i64 x95_4, .int .i64 x95_5, .slice x95_6_b x95_6_l x95_6_c] ⟨s2_, 0, none⟩ 0 w12 fun w13 =>
          LdS ⟨o_, 4, none⟩ w13 fun x97 =>
          ToBytes 5 x97 w13 fun b98 c98 w14 =>
          Sts [.slice (some ⟨b98, 0, none⟩) x97.size c98] ⟨s2_, 6, none⟩ 0 w14 fun w15 =>
          LdI .i64 ⟨o_, 1, none⟩ w15 fun x102 =>
          LdI .i64 ⟨o_, 2, none⟩ w15 fun x104 =>
          LdI .i64 ⟨s1_, 0, none⟩ w15 fun x105_0 =>
          LdI .i64 ⟨s1_, 1, none⟩ w15 fun x105_1 =>
          LdI .i64 ⟨s1_, 2, none⟩ w15 fun x105_2 =>
          LdI .i64 ⟨s1_, 3, none⟩ w15 fun x105_3 =>
          LdI .i64 ⟨s1_, 4, none⟩ w15 fun x105_4 =>
          LdI .i64 ⟨s1_, 5, none⟩ w15 fun x105_5 =>
          LdL ⟨s1_, 6, none⟩ w15 fun x105_6_b x105_6_l x105_6_c =>
          seg_Encode.Call x102 x104 x105_0 x105_1 x105_2 x105_3 x105_4 x105_5 x105_6_b x105_6_l x105_6_c w15 fun r106_0_b r106_0_l r106_0_c r106_1 w16 =>
          LdI .i64 ⟨o_, 1, none⟩ w16 fun x111 =>
          LdI .i64 ⟨o_, 2, none⟩ w16 fun x113 =>
          LdI .i64 ⟨s2_, 0, none⟩ w16 fun x114_0 =>
          LdI .i64 ⟨s2_, 1, none⟩ w16 fun x114_1 =>
          LdI .i64 ⟨s2_, 2, none⟩ w16 fun x114_2 =>
          LdI .i64 ⟨s2_, 3, none⟩ w16 fun x114_3 =>
          LdI .i64 ⟨s2_, 4, none⟩ w16 fun x114_4 =>
          LdI .i64 ⟨s2_, 5, none⟩ w16 fun x114_5 =>
          LdL ⟨s2_, 6, none⟩ w16 fun x114_6_b x114_6_l x114_6_c =>
          segm_Encode.Call x111 x113 x114_0 x114_1 x114_2 x114_3 x114_4 x114_5 x114_6_b x114_6_l x114_6_c w16 fun r115_0_b r115_0_l r115_0_c r115_1 w17 =>
          LdL ⟨s1_, 6, none⟩ w17 fun x119_b x119_l x119_c =>
          seglaw_Scribble.Call x119_b x119_l x119_c w17 fun w18 =>
          Bm (r106_1 != r115_1) (
            sB1 w0 o_ s2_ r106_0_b r106_0_l r106_0_c r106_1 r115_0_b r115_0_l r115_0_c true w18) (
            api_SameBytes.Call r106_0_b r106_0_l r106_0_c r115_0_b r115_0_l r115_0_c w18 fun r127 w19 =>
            sB1 w0 o_ s2_ r106_0_b r106_0_l r106_0_c r106_1 r115_0_b r115_0_l r115_0_c (!r127) w19)) (
          Bm (x35 == (5 : Int)) (
            LdI .i64 ⟨o_, 1, none⟩ w1 fun x158 =>
            LdI .i64 ⟨o_, 2, none⟩ w1 fun x160 =>
            LdS ⟨o_, 4, none⟩ w1 fun x162 =>
            ToBytes 5 x162 w1 fun b163 c163 w20 =>
            seglaw_World_Decode.Call w0 x158 x160 (some ⟨b163, 0, none⟩) x162.size c163 w20 fun r164_0_0 r164_0_1 r164_0_2 r164_0_3 r164_0_4 r164_0_5 r164_0_6_b r164_0_6_l r164_0_6_c r164_1 r164_2 w21 =>
            New (.cells #[.int .i64 (0 : Int), .int .i64 (0 : Int), .int .i64 (0 : Int), .int .i64 (0 : Int), .int .i64 (0 : Int), .int .i64 (0 : Int), .slice none 0 0] 39) w21 fun v__ w22 =>
            Sts [.int .i64 r164_0_0, .int .i64 r164_0_1, .int .i64 r164_0_2, .int .i64 r164_0_3, .int .i64 r164_0_4, .int .i64 r164_0_5, .slice r164_0_6_b r164_0_6_l r164_0_6_c] ⟨v__, 0, none⟩ 0 w22 fun w23 =>
            R r164_2 w23) (
            Bm (x35 == (6 : Int)) (
              LdI .i64 ⟨o_, 1, none⟩ w1.drew fun x174 =>
              LdI .i64 ⟨o_, 2, none⟩ w1.drew fun x176 =>
              Pn w0 fun a_8 =>
              LdL (a_8.add 11) w1.drew fun x180_b x180_l x180_c =>
              ((
                seglaw_World_Decode.Call w0 x174 x176 x180_b x180_l x180_c w1.drew fun r181_0_0 r181_0_1 r181_0_2 r181_0_3 r181_0_4 r181_0_5 r181_0_6_b r181_0_6_l r181_0_6_c r181_1 r181_2 w24 =>
                New (.cells #[.int .i64 (0 : Int), .int .i64 (0 : Int), .int .i64 (0 : Int), .int .i64 (0 : Int), .int .i64 (0 : Int), .int .i64 (0 : Int), .slice none 0 0] 39) w24 fun s_ w25 =>
                Sts [.int .i64 r181_0_0, .int .i64 r181_0_1, .int .i64 r181_0_2, .int .i64 r181_0_3, .int .i64 r181_0_4, .int .i64 r181_0_5, .slice r181_0_6_b r181_0_6_l r181_0_6_c] ⟨s_, 0, none⟩ 0 w25 fun w26 =>
                sB2 w0 o_ s_ r181_1 r181_2 w26) ∧ (
                New (.cells #[.int .i64 (0 : Int), .int .i64 (0 : Int), .int .i64 (0 : Int), .int .i64 (0 : Int), .int .i64 (0 : Int), .int .i64 (0 : Int), .slice none 0 0] 39) w1.drew fun s__1 w27 =>
                w27.cell? (a_8.add 11) = some (.slice x180_b x180_l x180_c) ∧
                w27.cell? ⟨o_, 2, none⟩ = some (.int .i64 x176) ∧
                w27.cell? ⟨o_, 1, none⟩ = some (.int .i64 x174) ∧
                seglaw_World_Decode.Call w0 x174 x176 x180_b x180_l x180_c w27 fun r181_0_0_1 r181_0_1_1 r181_0_2_1 r181_0_3_1 r181_0_4_1 r181_0_5_1 r181_0_6_b_1 r181_0_6_l_1 r181_0_6_c_1 r181_1_1 r181_2_1 w28 =>
                Sts [.int .i64 r181_0_0_1, .int .i64 r181_0_1_1, .int .i64 r181_0_2_1, .int .i64 r181_0_3_1, .int .i64 r181_0_4_1, .int .i64 r181_0_5_1, .slice r181_0_6_b_1 r181_0_6_l_1 r181_0_6_c_1] ⟨s__1, 0, none⟩ 0 w28 fun w29 =>
                sB2 w0 o_ s__1 r181_1_1 r181_2_1 w29))) (
              Bm (x35 == (7 : Int)) (
                LdI .i64 ⟨o_, 3, none⟩ w1.drew fun x236 =>
                Bm (decide (x236 < (0 : Int))) (
                  sB3 w0 o_ true w1.drew) (
                  LdI .i64 ⟨o_, 3, none⟩ w1.drew fun x240 =>
                  (8 : Int) ≠ 0 ∧
                  Pn w0 fun a_9 =>
                  LdL (a_9.add 11) w1.drew fun x245_b x245_l x245_c =>
                  sB3 w0 o_ (decide ((IntKind.i64.wrap (x240.tdiv (8 : Int))) ≥ ((x245_l : Nat) : Int))) w1.drew)) (
                Bm (x35 == (10 : Int)) (
                  Pn w0 fun a_10 =>
                  LdP a_10 w1.drew fun x292 =>
                  LdI .i64 ⟨o_, 1, none⟩ w1.drew fun x294 =>
                  seg_SendBuf_Reset.Call x292 x294 w1.drew fun w30 =>
                  Pn w0 fun a_11 =>
                  LdP (a_11.add 1) w30.drew fun x299 =>
                  LdI .i64 ⟨o_, 1, none⟩ w30.drew fun x301 =>
                  segm_SendBuf_Reset.Call x299 x301 w30.drew fun w31 =>
                  R true w31) (
                  Bm (x35 == (11 : Int)) (
                    LdS ⟨o_, 4, none⟩ w1 fun x306 =>
                    ToBytes 5 x306 w1 fun b307 c307 w32 =>
                    LdS ⟨o_, 4, none⟩ w32 fun x309 =>
                    ToBytes 5 x309 w32 fun b310 c310 w33 =>
                    Pn w0 fun a_12 =>
                    LdP a_12 w33 fun x314 =>
                    seg_SendBuf_Put.Call x314 (some ⟨b307, 0, none⟩) x306.size c307 w33 fun r316 w34 =>
                    Pn w0 fun a_13 =>
                    LdP (a_13.add 1) w34 fun x320 =>
                    segm_SendBuf_Put.Call x320 (some ⟨b310, 0, none⟩) x309.size c310 w34 fun r322 w35 =>
                    seglaw_Scribble.Call (some ⟨b307, 0, none⟩) x306.size c307 w35 fun w36 =>
                    R (r316 == r322) w36) (
                    Bm (x35 == (12 : Int)) (
                      Pn w0 fun a_14 =>
                      LdP a_14 w1.drew fun x334 =>
                      LdI .i64 ⟨o_, 1, none⟩ w1.drew fun x336 =>
                      seg_SendBuf_Next.Call x334 x336 w1.drew fun r337_0 r337_1_b r337_1_l r337_1_c w37 =>
                      Pn w0 fun a_15 =>
                      LdP (a_15.add 1) w37.drew fun x344 =>
                      LdI .i64 ⟨o_, 1, none⟩ w37.drew fun x346 =>
                      segm_SendBuf_Next.Call x344 x346 w37.drew fun r347_0 r347_1_b r347_1_l r347_1_c w38 =>
                      Bm (r337_0 != r347_0) (
                        sB4 w0 r337_1_b r337_1_l r337_1_c true w38) (
                        api_SameBytes.Call r337_1_b r337_1_l r337_1_c r347_1_b r347_1_l r347_1_c w38 fun r356 w39 =>
                        sB4 w0 r337_1_b r337_1_l r337_1_c (!r356) w39)) (
                      Bm (x35 == (13 : Int)) (
                        LdI .i64 ⟨o_, 1, none⟩ w1 fun x366 =>
                        seglaw_World_LikeAgain.Call w0 x366 w1 fun r367 w40 =>
                        R r367 w40) (
                        Bm (x35 == (14 : Int)) (
                          LdI .i64 ⟨o_, 1, none⟩ w1 fun x372 =>
                          seglaw_World_Ack.Call w0 x372 w1 fun r373 w41 =>
                          R r373 w41) (
                          Bm (x35 == (20 : Int)) (
                            Pn w0 fun a_16 =>
                            LdP (a_16.add 2) w1.drew fun x379 =>
                            LdI .i64 ⟨o_, 1, none⟩ w1.drew fun x381 =>
                            seg_RecvBuf_Reset.Call x379 x381 w1.drew fun w42 =>
                            Pn w0 fun a_17 =>
                            LdP (a_17.add 3) w42.drew fun x386 =>
                            LdI .i64 ⟨o_, 1, none⟩ w42.drew fun x388 =>
                            segm_RecvBuf_Reset.Call x386 x388 w42.drew fun w43 =>
                            R true w43) (
                            Bm (x35 == (21 : Int)) (
                              LdI .i64 ⟨o_, 1, none⟩ w1 fun x394 =>
                              LdS ⟨o_, 4, none⟩ w1 fun x396 =>
                              ToBytes 5 x396 w1 fun b397 c397 w44 =>
                              seglaw_World_Insert.Call w0 x394 (some ⟨b397, 0, none⟩) x396.size c397 w44 fun r398 w45 =>
                              R r398 w45) (
                              Bm (x35 == (22 : Int)) (
                                Pn w0 fun a_18 =>
                                LdP (a_18.add 2) w1.drew fun x404 =>
                                LdI .i64 ⟨o_, 1, none⟩ w1.drew fun x406 =>
                                seg_RecvBuf_Read.Call x404 x406 w1.drew fun r407_b r407_l r407_c w46 =>
                                Pn w0 fun a_19 =>
                                LdP (a_19.add 3) w46.drew fun x411 =>
                                LdI .i64 ⟨o_, 1, none⟩ w46.drew fun x413 =>
                                segm_RecvBuf_Read.Call x411 x413 w46.drew fun r414_b r414_l r414_c w47 =>
                                api_SameBytes.Call r407_b r407_l r407_c r414_b r414_l r414_c w47 fun r417 w48 =>
                                Bm (!r417) (
                                  R false w48) (
                                  seglaw_World_Own.Call w0 r407_b r407_l r407_c w48 fun w49 =>
                                  R true w49)) (
                                Bm (x35 == (30 : Int)) (
                                  LdI .i64 ⟨o_, 1, none⟩ w1 fun x426 =>
                                  seglaw_World_LikeAgain.Call w0 x426 w1 fun r427 w50 =>
                                  Bm (!r427) (
                                    R false w50) (
                                    Pn w0 fun a_20 =>
                                    LdP (a_20.add 1) w50.drew fun x433 =>
                                    LdI .i64 ⟨o_, 1, none⟩ w50.drew fun x435 =>
                                    segm_SendBuf_Again.Call x433 x435 w50.drew fun r436_0 r436_1_b r436_1_l r436_1_c w51 =>
                                    seglaw_World_Insert.Call w0 r436_0 r436_1_b r436_1_l r436_1_c w51 fun r442 w52 =>
                                    Bm (!r442) (
                                      R false w52) (
                                      Pn w0 fun a_21 =>
                                      LdP (a_21.add 3) w52 fun x447 =>
                                      segm_RecvBuf_Nxt.Call x447 w52 fun r448 w53 =>
                                      seglaw_World_Ack.Call w0 r448 w53 fun r451 w54 =>
                                      R r451 w54))) (
                                  LdI .i64 ⟨o_, 0, none⟩ w1 fun x38 =>
                                  seglaw_World_See.Call w0 x38 w1 fun r39 w55 =>
                                  R r39 w55))))))))))))))))) = kstep Try.prog 452 Try.f18.results.toList (Try.f18.body.getD .skip) (seglaw_World_Play.RV R) (kvc Try.prog 452 Try.f18.results.toList (Try.f18.body.getD .skip) (seglaw_World_Play.RV R) [([(0, [1, 0, 1, 0, 1, 1, 1, 1, 1, 1, 1, 0, 1, 1, 1, 1, 1, 1, 1, 0, 1]), (0, [1, 0, 1, 0, 1, 1, 1, 1, 1, 1, 1, 0, 1, 1, 1, 1, 1, 1, 1, 1]), (1, [0]), (0, [1, 1])], fun σ w => dP (slotOf σ 0) fun w0_ => dK (slotOf σ 3) fun o_ => dK (slotOf σ 6) fun s2_ => dL (slotOf σ 7) fun a_b_ a_l_ a_c_ => dI .i64 (slotOf σ 8) fun e_ => dL (slotOf σ 9) fun b_b_ b_l_ b_c_ => dB (slotOf σ 129) fun t129_ => sB1 w0_ o_ s2_ a_b_ a_l_ a_c_ e_ b_b_ b_l_ b_c_ t129_ w),
    ([(0, [1, 0, 1, 0, 1, 1, 1, 1, 1, 1, 1, 1, 1, 1, 1, 0, 1]), (1, [0]), (0, [1, 1])], fun σ w => dP (slotOf σ 0) fun w0_ => dK (slotOf σ 3) fun o_ => dK (slotOf σ 14) fun s_ => dI .i64 (slotOf σ 15) fun e_ => dB (slotOf σ 16) fun same_ => sB2 w0_ o_ s_ e_ same_ w),
    ([(0, [1, 0, 1, 0, 1, 1, 1, 1, 1, 1, 1, 1, 1, 1, 1, 1, 1, 0, 0, 1]), (0, [1, 0, 1, 0, 1, 1, 1, 1, 1, 1, 1, 1, 1, 1, 1, 1, 1, 0, 1]), (1, [0]), (0, [1, 1])], fun σ w => dP (slotOf σ 0) fun w0_ => dK (slotOf σ 3) fun o_ => dB (slotOf σ 248) fun t248_ => sB3 w0_ o_ t248_ w),
    ([(0, [1, 0, 1, 0, 1, 1, 1, 1, 1, 1, 1, 1, 1, 1, 1, 1, 1, 1, 1, 1, 1, 1, 1, 0, 1, 1, 0, 1]), (0, [1, 0, 1, 0, 1, 1, 1, 1, 1, 1, 1, 1, 1, 1, 1, 1, 1, 1, 1, 1, 1, 1, 1, 0, 1, 1, 1]), (1, [0]), (0, [1, 1])], fun σ w => dP (slotOf σ 0) fun w0_ => dL (slotOf σ 26) fun b_b_ b_l_ b_c_ => dB (slotOf σ 358) fun t358_ => sB4 w0_ b_b_ b_l_ b_c_ t358_ w)] 2000) [(0, [])] [(0, .pointer w0), (1, .agg #[.int .i64 o_0, .int .i64 o_1, .int .i64 o_2, .int .i64 o_3, .string o_4, .string o_5])] w := by kernel_rfl
theorem seglaw_World_Play.B0_sound {R : Bool → World → Prop}  (w0 : Option Addr) (o_0 o_1 o_2 o_3 : Int) (o_4 o_5 : ByteArray) (w : World) (h : seglaw_World_Play.B0 w0 o_0 o_1 o_2 o_3 o_4 o_5 w   R) :
    KW Try.prog 18 452 (seglaw_World_Play.RV R) ([(0, [])].map (toItem (Try.f18.body.getD .skip))) [(0, .pointer w0), (1, .agg #[.int .i64 o_0, .int .i64 o_1, .int .i64 o_2, .int .i64 o_3, .string o_4, .string o_5])] w := by
  exact block_spec Try.func18 Try.mixed (stops_cons (fun σ w h => by
      obtain ⟨w0_, e0, h⟩ := dP_elim h
      obtain ⟨o_, e1, h⟩ := dK_elim h
      obtain ⟨s2_, e2, h⟩ := dK_elim h
      obtain ⟨a_b_, a_l_, a_c_, e3, h⟩ := dL_elim h
      obtain ⟨e_, e4, h⟩ := dI_elim h
      obtain ⟨b_b_, b_l_, b_c_, e5, h⟩ := dL_elim h
      obtain ⟨t129_, e6, h⟩ := dB_elim h
      exact (seglaw_World_Play.B1_sound  w0_ o_ s2_ a_b_ a_l_ a_c_ e_ b_b_ b_l_ b_c_ t129_ w h).weaken (Sub.cons (Sub.cons (Sub.cons (Sub.cons (Sub.cons (Sub.cons (Sub.cons (Sub.nil _) e6) e5) e4) e3) e2) e1) e0)) (stops_cons (fun σ w h => by
      obtain ⟨w0_, e0, h⟩ := dP_elim h
      obtain ⟨o_, e1, h⟩ := dK_elim h
      obtain ⟨s_, e2, h⟩ := dK_elim h
      obtain ⟨e_, e3, h⟩ := dI_elim h
      obtain ⟨same_, e4, h⟩ := dB_elim h
      exact (seglaw_World_Play.B2_sound  w0_ o_ s_ e_ same_ w h).weaken (Sub.cons (Sub.cons (Sub.cons (Sub.cons (Sub.cons (Sub.nil _) e4) e3) e2) e1) e0)) (stops_cons (fun σ w h => by
      obtain ⟨w0_, e0, h⟩ := dP_elim h
      obtain ⟨o_, e1, h⟩ := dK_elim h
      obtain ⟨t248_, e2, h⟩ := dB_elim h
      exact (seglaw_World_Play.B3_sound  w0_ o_ t248_ w h).weaken (Sub.cons (Sub.cons (Sub.cons (Sub.nil _) e2) e1) e0)) (stops_cons (fun σ w h => by
      obtain ⟨w0_, e0, h⟩ := dP_elim h
      obtain ⟨b_b_, b_l_, b_c_, e1, h⟩ := dL_elim h
      obtain ⟨t358_, e2, h⟩ := dB_elim h
      exact (seglaw_World_Play.B4_sound  w0_ b_b_ b_l_ b_c_ t358_ w h).weaken (Sub.cons (Sub.cons (Sub.cons (Sub.nil _) e2) e1) e0)) stops_nil)))) (Eq.mp (seglaw_World_Play.B0_eq w0 o_0 o_1 o_2 o_3 o_4 o_5 w   R (fun w0_ o_ s2_ a_b_ a_l_ a_c_ e_ b_b_ b_l_ b_c_ t129_ w => seglaw_World_Play.B1 w0_ o_ s2_ a_b_ a_l_ a_c_ e_ b_b_ b_l_ b_c_ t129_ w  R) (fun w0_ o_ s_ e_ same_ w => seglaw_World_Play.B2 w0_ o_ s_ e_ same_ w  R) (fun w0_ o_ t248_ w => seglaw_World_Play.B3 w0_ o_ t248_ w  R) (fun w0_ b_b_ b_l_ b_c_ t358_ w => seglaw_World_Play.B4 w0_ b_b_ b_l_ b_c_ t358_ w  R)) h)
theorem seglaw_World_Play.sound (w0 : Option Addr) (o_0 o_1 o_2 o_3 : Int) (o_4 o_5 : ByteArray) (w : World) (R : Bool → World → Prop) (h : seglaw_World_Play.B0 w0 o_0 o_1 o_2 o_3 o_4 o_5 w R) : seglaw_World_Play.Call w0 o_0 o_1 o_2 o_3 o_4 o_5 w R := by
  have hc := calls_of_block (args := #[.pointer w0, .agg #[.int .i64 o_0, .int .i64 o_1, .int .i64 o_2, .int .i64 o_3, .string o_4, .string o_5]]) Try.func18 (body := (Try.f18.body.getD .skip)) (by kernel_rfl) (by kernel_rfl) (args_slot _) (seglaw_World_Play.B0_sound w0 o_0 o_1 o_2 o_3 o_4 o_5 w h)
  exact hc.mono fun e w' he => by
    obtain ⟨v, rfl, hv⟩ := he
    exact seglaw_World_Play.RV_elim hv
end Go.Proofs.Qxb6500426a
