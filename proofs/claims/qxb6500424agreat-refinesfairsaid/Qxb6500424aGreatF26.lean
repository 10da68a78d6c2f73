import Derived.Test.Qxb6500424aGreatSig
set_option maxRecDepth 100000
set_option linter.unusedVariables false
open Go.Vc
namespace Go.Proofs.Qxb6500424aGreat
def conn_Conn_opened.B0 (c : Option Addr) (w : World)   (R : World → Prop) : Prop :=
  Pn c fun a =>
  LdI .i64 (a.add 8) w fun x6 =>
  api_SeqAdd.Call x6 (1 : Int) w fun r7 w1 =>
  Pn c fun a_1 =>
  LdP a_1 w1 fun x11 =>
  seg_SendBuf_Reset.Call x11 r7 w1 fun w2 =>
  Pn c fun a_2 =>
  Sts [.int .i64 (3 : Int)] (a_2.add 2) 0 w2 fun w3 =>
  Pn c fun a_3 =>
  Sts [.int .i64 (0 : Int)] (a_3.add 10) 0 w3 fun w4 =>
  Pn c fun a_4 =>
  Sts [.int .i64 (0 : Int)] (a_4.add 11) 0 w4 fun w5 =>
  R  w5
theorem conn_Conn_opened.B0_eq (c : Option Addr) (w : World)   (R : World → Prop)  :
    (
  Pn c fun a =>
  LdI .i64 (a.add 8) w fun x6 =>
  api_SeqAdd.Call x6 (1 : Int) w fun r7 w1 =>
  Pn c fun a_1 =>
  LdP a_1 w1 fun x11 =>
  seg_SendBuf_Reset.Call x11 r7 w1 fun w2 =>
  Pn c fun a_2 =>
  Sts [.int .i64 (3 : Int)] (a_2.add 2) 0 w2 fun w3 =>
  Pn c fun a_3 =>
  Sts [.int .i64 (0 : Int)] (a_3.add 10) 0 w3 fun w4 =>
  Pn c fun a_4 =>
  Sts [.int .i64 (0 : Int)] (a_4.add 11) 0 w4 fun w5 =>
  R  w5) = kstep Tryz.prog 23 Tryz.f210.results.toList (Tryz.f210.body.getD .skip) (conn_Conn_opened.RV R) (kvc Tryz.prog 23 Tryz.f210.results.toList (Tryz.f210.body.getD .skip) (conn_Conn_opened.RV R) [] 2000) [(0, [])] [(0, .pointer c)] w := by kernel_rfl
theorem conn_Conn_opened.B0_sound {R : World → Prop}  (c : Option Addr) (w : World) (h : conn_Conn_opened.B0 c w   R) :
    KW Tryz.prog 210 23 (conn_Conn_opened.RV R) ([(0, [])].map (toItem (Tryz.f210.body.getD .skip))) [(0, .pointer c)] w := by
  exact block_spec Tryz.func210 Tryz.mixed stops_nil (Eq.mp (conn_Conn_opened.B0_eq c w   R ) h)
theorem conn_Conn_opened.sound (c : Option Addr) (w : World) (R : World → Prop) (h : conn_Conn_opened.B0 c w R) : conn_Conn_opened.Call c w R := by
  have hc := calls_of_block (args := #[.pointer c]) Tryz.func210 (body := (Tryz.f210.body.getD .skip)) (by kernel_rfl) (by kernel_rfl) (args_slot _) (conn_Conn_opened.B0_sound c w h)
  exact hc.mono fun e w' he => by
    obtain ⟨v, rfl, hv⟩ := he
    exact conn_Conn_opened.RV_elim hv
def api_SeqDiff.B0 (a b : Int) (w : World)   (R : Int → World → Prop) : Prop :=
  (256 : Int) ≠ 0 ∧
  api_SeqAdd.Call a (IntKind.i64.wrap (0 - (b.tmod (256 : Int)))) w fun r10 w1 =>
  Bm (decide (r10 ≥ (128 : Int))) (
    R (IntKind.i64.wrap (r10 - (256 : Int))) w1) (
    R r10 w1)
theorem api_SeqDiff.B0_eq (a b : Int) (w : World)   (R : Int → World → Prop)  :
    (
  (256 : Int) ≠ 0 ∧
  api_SeqAdd.Call a (IntKind.i64.wrap (0 - (b.tmod (256 : Int)))) w fun r10 w1 =>
  Bm (decide (r10 ≥ (128 : Int))) (
    R (IntKind.i64.wrap (r10 - (256 : Int))) w1) (
    R r10 w1)) = kstep Tryz.prog 16 Tryz.f211.results.toList (Tryz.f211.body.getD .skip) (api_SeqDiff.RV R) (kvc Tryz.prog 16 Tryz.f211.results.toList (Tryz.f211.body.getD .skip) (api_SeqDiff.RV R) [] 2000) [(0, [])] [(0, .int .i64 a), (1, .int .i64 b)] w := by kernel_rfl
theorem api_SeqDiff.B0_sound {R : Int → World → Prop}  (a b : Int) (w : World) (h : api_SeqDiff.B0 a b w   R) :
    KW Tryz.prog 211 16 (api_SeqDiff.RV R) ([(0, [])].map (toItem (Tryz.f211.body.getD .skip))) [(0, .int .i64 a), (1, .int .i64 b)] w := by
  exact block_spec Tryz.func211 Tryz.mixed stops_nil (Eq.mp (api_SeqDiff.B0_eq a b w   R ) h)
theorem api_SeqDiff.sound (a b : Int) (w : World) (R : Int → World → Prop) (h : api_SeqDiff.B0 a b w R) : api_SeqDiff.Call a b w R := by
  have hc := calls_of_block (args := #[.int .i64 a, .int .i64 b]) Tryz.func211 (body := (Tryz.f211.body.getD .skip)) (by kernel_rfl) (by kernel_rfl) (args_slot _) (api_SeqDiff.B0_sound a b w h)
  exact hc.mono fun e w' he => by
    obtain ⟨v, rfl, hv⟩ := he
    exact api_SeqDiff.RV_elim hv
def conn_Conn_acked.B1 (c : Option Addr) (k : Int) (w : World)   (R : Bool → World → Prop) : Prop :=
  Pn c fun a =>
  LdP a w fun x45 =>
  seg_SendBuf_Una.Call x45 w fun r46 w1 =>
  api_SeqAdd.Call r46 k w1 fun r49 w2 =>
  Pn c fun a_1 =>
  LdP a_1 w2 fun x53 =>
  seg_SendBuf_Ack.Call x53 r49 w2 fun r55 w3 =>
  Pn c fun a_2 =>
  Sts [.int .i64 (0 : Int)] (a_2.add 10) 0 w3 fun w4 =>
  conn_Conn_flying.Call c w4 fun r60 w5 =>
  Bm (decide (r60 > (0 : Int))) (
    conn_Conn_arm.Call c w5 fun w6 =>
    R true w6) (
    R true w5)
theorem conn_Conn_acked.B1_eq (c : Option Addr) (k : Int) (w : World)   (R : Bool → World → Prop)  :
    (
  Pn c fun a =>
  LdP a w fun x45 =>
  seg_SendBuf_Una.Call x45 w fun r46 w1 =>
  api_SeqAdd.Call r46 k w1 fun r49 w2 =>
  Pn c fun a_1 =>
  LdP a_1 w2 fun x53 =>
  seg_SendBuf_Ack.Call x53 r49 w2 fun r55 w3 =>
  Pn c fun a_2 =>
  Sts [.int .i64 (0 : Int)] (a_2.add 10) 0 w3 fun w4 =>
  conn_Conn_flying.Call c w4 fun r60 w5 =>
  Bm (decide (r60 > (0 : Int))) (
    conn_Conn_arm.Call c w5 fun w6 =>
    R true w6) (
    R true w5)) = kstep Tryz.prog 64 Tryz.f212.results.toList (Tryz.f212.body.getD .skip) (conn_Conn_acked.RV R) (kvc Tryz.prog 64 Tryz.f212.results.toList (Tryz.f212.body.getD .skip) (conn_Conn_acked.RV R) [] 2000) [(0, [1, 1, 1, 1, 1, 1, 1, 1, 1, 1])] [(0, .pointer c), (7, .int .i64 k)] w := by kernel_rfl
theorem conn_Conn_acked.B1_sound {R : Bool → World → Prop}  (c : Option Addr) (k : Int) (w : World) (h : conn_Conn_acked.B1 c k w   R) :
    KW Tryz.prog 212 64 (conn_Conn_acked.RV R) ([(0, [1, 1, 1, 1, 1, 1, 1, 1, 1, 1])].map (toItem (Tryz.f212.body.getD .skip))) [(0, .pointer c), (7, .int .i64 k)] w := by
  exact block_spec Tryz.func212 Tryz.mixed stops_nil (Eq.mp (conn_Conn_acked.B1_eq c k w   R ) h)
def conn_Conn_acked.B0 (c : Option Addr) (s_0 s_1 s_2 s_3 s_4 s_5 : Int) (s_6_b : Option Addr) (s_6_l s_6_c : Nat) (w : World)   (R : Bool → World → Prop) : Prop :=
  New (.cells #[.int .i64 s_0, .int .i64 s_1, .int .i64 s_2, .int .i64 s_3, .int .i64 s_4, .int .i64 s_5, .slice s_6_b s_6_l s_6_c] 177) w fun s_ w1 =>
  conn_Conn_sndUna.Call c w1 fun r11 w2 =>
  LdI .i64 ⟨s_, 3, none⟩ w2 fun x13 =>
  api_SeqDiff.Call x13 r11 w2 fun r15 w3 =>
  conn_Conn_flying.Call c w3 fun r18 w4 =>
  Bm (decide (r15 > r18)) (
    R false w4) (
    Bm (decide (r15 < (0 : Int))) (
      R true w4) (
      LdI .i64 ⟨s_, 5, none⟩ w4 fun x24 =>
      conn_window.Call x24 w4 fun r25 w5 =>
      Pn c fun a =>
      Sts [.int .i64 r25] (a.add 9) 0 w5 fun w6 =>
      Pn c fun a_1 =>
      Sts [.int .i64 (0 : Int)] (a_1.add 11) 0 w6 fun w7 =>
      Bm (r15 == (0 : Int)) (
        R true w7) (
        conn_Conn_sent.Call c w7 fun r34 w8 =>
        Bm (decide (r15 > r34)) (
          Pn c fun a_2 =>
          Sts [.bool true] (a_2.add 6) 0 w8 fun w9 =>
          conn_Conn_acked.B1 c r34 w9  R) (
          conn_Conn_acked.B1 c r15 w8  R))))
theorem conn_Conn_acked.B0_eq (c : Option Addr) (s_0 s_1 s_2 s_3 s_4 s_5 : Int) (s_6_b : Option Addr) (s_6_l s_6_c : Nat) (w : World)   (R : Bool → World → Prop) (sB1 : Option Addr → Int → World → Prop) :
    (
  New (.cells #[.int .i64 s_0, .int .i64 s_1, .int .i64 s_2, .int .i64 s_3, .int .i64 s_4, .int .i64 s_5, .slice s_6_b s_6_l s_6_c] 177) w fun s_ w1 =>
  conn_Conn_sndUna.Call c w1 fun r11 w2 =>
  LdI .i64 ⟨s_, 3, none⟩ w2 fun x13 =>
  api_SeqDiff.Call x13 r11 w2 fun r15 w3 =>
  conn_Conn_flying.Call c w3 fun r18 w4 =>
  Bm (decide (r15 > r18)) (
    R false w4) (
    Bm (decide (r15 < (0 : Int))) (
      R true w4) (
      LdI .i64 ⟨s_, 5, none⟩ w4 fun x24 =>
      conn_window.Call x24 w4 fun r25 w5 =>
      Pn c fun a =>
      Sts [.int .i64 r25] (a.add 9) 0 w5 fun w6 =>
      Pn c fun a_1 =>
      Sts [.int .i64 (0 : Int)] (a_1.add 11) 0 w6 fun w7 =>
      Bm (r15 == (0 : Int)) (
        R true w7) (
        conn_Conn_sent.Call c w7 fun r34 w8 =>
        Bm (decide (r15 > r34)) (
          Pn c fun a_2 =>
          Sts [.bool true] (a_2.add 6) 0 w8 fun w9 =>
          sB1 c r34 w9) (
          sB1 c r15 w8))))) = kstep Tryz.prog 64 Tryz.f212.results.toList (Tryz.f212.body.getD .skip) (conn_Conn_acked.RV R) (kvc Tryz.prog 64 Tryz.f212.results.toList (Tryz.f212.body.getD .skip) (conn_Conn_acked.RV R) [([(0, [1, 1, 1, 1, 1, 1, 1, 1, 1, 1])], fun σ w => dP (slotOf σ 0) fun c_ => dI .i64 (slotOf σ 7) fun k_ => sB1 c_ k_ w)] 2000) [(0, [])] [(0, .pointer c), (1, .agg #[.int .i64 s_0, .int .i64 s_1, .int .i64 s_2, .int .i64 s_3, .int .i64 s_4, .int .i64 s_5, .slice s_6_b s_6_l s_6_c])] w := by kernel_rfl
theorem conn_Conn_acked.B0_sound {R : Bool → World → Prop}  (c : Option Addr) (s_0 s_1 s_2 s_3 s_4 s_5 : Int) (s_6_b : Option Addr) (s_6_l s_6_c : Nat) (w : World) (h : conn_Conn_acked.B0 c s_0 s_1 s_2 s_3 s_4 s_5 s_6_b s_6_l s_6_c w   R) :
    KW Tryz.prog 212 64 (conn_Conn_acked.RV R) ([(0, [])].map (toItem (Tryz.f212.body.getD .skip))) [(0, .pointer c), (1, .agg #[.int .i64 s_0, .int .i64 s_1, .int .i64 s_2, .int .i64 s_3, .int .i64 s_4, .int .i64 s_5, .slice s_6_b s_6_l s_6_c])] w := by
  exact block_spec Tryz.func212 Tryz.mixed (stops_cons (fun σ w h => by
      obtain ⟨c_, e0, h⟩ := dP_elim h
      obtain ⟨k_, e1, h⟩ := dI_elim h
      exact (conn_Conn_acked.B1_sound  c_ k_ w h).weaken (Sub.cons (Sub.cons (Sub.nil _) e1) e0)) stops_nil) (Eq.mp (conn_Conn_acked.B0_eq c s_0 s_1 s_2 s_3 s_4 s_5 s_6_b s_6_l s_6_c w   R (fun c_ k_ w => conn_Conn_acked.B1 c_ k_ w  R)) h)
theorem conn_Conn_acked.sound (c : Option Addr) (s_0 s_1 s_2 s_3 s_4 s_5 : Int) (s_6_b : Option Addr) (s_6_l s_6_c : Nat) (w : World) (R : Bool → World → Prop) (h : conn_Conn_acked.B0 c s_0 s_1 s_2 s_3 s_4 s_5 s_6_b s_6_l s_6_c w R) : conn_Conn_acked.Call c s_0 s_1 s_2 s_3 s_4 s_5 s_6_b s_6_l s_6_c w R := by
  have hc := calls_of_block (args := #[.pointer c, .agg #[.int .i64 s_0, .int .i64 s_1, .int .i64 s_2, .int .i64 s_3, .int .i64 s_4, .int .i64 s_5, .slice s_6_b s_6_l s_6_c]]) Tryz.func212 (body := (Tryz.f212.body.getD .skip)) (by kernel_rfl) (by kernel_rfl) (args_slot _) (conn_Conn_acked.B0_sound c s_0 s_1 s_2 s_3 s_4 s_5 s_6_b s_6_l s_6_c w h)
  exact hc.mono fun e w' he => by
    obtain ⟨v, rfl, hv⟩ := he
    exact conn_Conn_acked.RV_elim hv
def conn_Conn_take.B1 (c : Option Addr) (s : Nat) (t27 : Bool) (w : World)   (R : World → Prop) : Prop :=
  Bm t27 (
    R  w) (
    LdI .i64 ⟨s, 2, none⟩ w fun x29 =>
    LdL ⟨s, 6, none⟩ w fun x31_b x31_l x31_c =>
    api_SeqAdd.Call x29 ((x31_l : Nat) : Int) w fun r33 w1 =>
    Pn c fun a =>
    LdP (a.add 1) w1 fun x38 =>
    seg_RecvBuf_Nxt.Call x38 w1 fun r39 w2 =>
    Bm (r33 == r39) (
      Pn c fun a_1 =>
      Sts [.bool true] (a_1.add 7) 0 w2 fun w3 =>
      R  w3) (
      R  w2))
theorem conn_Conn_take.B1_eq (c : Option Addr) (s : Nat) (t27 : Bool) (w : World)   (R : World → Prop)  :
    (
  Bm t27 (
    R  w) (
    LdI .i64 ⟨s, 2, none⟩ w fun x29 =>
    LdL ⟨s, 6, none⟩ w fun x31_b x31_l x31_c =>
    api_SeqAdd.Call x29 ((x31_l : Nat) : Int) w fun r33 w1 =>
    Pn c fun a =>
    LdP (a.add 1) w1 fun x38 =>
    seg_RecvBuf_Nxt.Call x38 w1 fun r39 w2 =>
    Bm (r33 == r39) (
      Pn c fun a_1 =>
      Sts [.bool true] (a_1.add 7) 0 w2 fun w3 =>
      R  w3) (
      R  w2))) = kstep Tryz.prog 44 Tryz.f213.results.toList (Tryz.f213.body.getD .skip) (conn_Conn_take.RV R) (kvc Tryz.prog 44 Tryz.f213.results.toList (Tryz.f213.body.getD .skip) (conn_Conn_take.RV R) [] 2000) [(0, [1, 1, 1, 0, 1]), (0, [1, 1, 1, 1])] [(0, .pointer c), (3, .pointer (some ⟨s, 0, none⟩)), (27, .bool t27)] w := by kernel_rfl
theorem conn_Conn_take.B1_sound {R : World → Prop}  (c : Option Addr) (s : Nat) (t27 : Bool) (w : World) (h : conn_Conn_take.B1 c s t27 w   R) :
    KW Tryz.prog 213 44 (conn_Conn_take.RV R) ([(0, [1, 1, 1, 0, 1]), (0, [1, 1, 1, 1])].map (toItem (Tryz.f213.body.getD .skip))) [(0, .pointer c), (3, .pointer (some ⟨s, 0, none⟩)), (27, .bool t27)] w := by
  exact block_spec Tryz.func213 Tryz.mixed stops_nil (Eq.mp (conn_Conn_take.B1_eq c s t27 w   R ) h)
def conn_Conn_take.B0 (c : Option Addr) (s_0 s_1 s_2 s_3 s_4 s_5 : Int) (s_6_b : Option Addr) (s_6_l s_6_c : Nat) (w : World)   (R : World → Prop) : Prop :=
  New (.cells #[.int .i64 s_0, .int .i64 s_1, .int .i64 s_2, .int .i64 s_3, .int .i64 s_4, .int .i64 s_5, .slice s_6_b s_6_l s_6_c] 177) w fun s_ w1 =>
  Pn c fun a =>
  LdB (a.add 7) w1 fun x8 =>
  Bm x8 (
    R  w1) (
    Pn c fun a_1 =>
    LdP (a_1.add 1) w1.drew fun x12 =>
    LdI .i64 ⟨s_, 2, none⟩ w1.drew fun x14 =>
    LdL ⟨s_, 6, none⟩ w1.drew fun x16_b x16_l x16_c =>
    seg_RecvBuf_Insert.Call x12 x14 x16_b x16_l x16_c w1.drew fun r17 w2 =>
    LdI .i64 ⟨s_, 4, none⟩ w2 fun x19 =>
    Bm ((IntKind.i64.wrap (BitVec.ofInt IntKind.i64.bits x19 &&& BitVec.ofInt IntKind.i64.bits (4 : Int)).toNat) == (0 : Int)) (
      conn_Conn_take.B1 c s_ true w2  R) (
      LdL ⟨s_, 6, none⟩ w2 fun x24_b x24_l x24_c =>
      conn_Conn_take.B1 c s_ (decide (((x24_l : Nat) : Int) > (16 : Int))) w2  R))
theorem conn_Conn_take.B0_eq (c : Option Addr) (s_0 s_1 s_2 s_3 s_4 s_5 : Int) (s_6_b : Option Addr) (s_6_l s_6_c : Nat) (w : World)   (R : World → Prop) (sB1 : Option Addr → Nat → Bool → World → Prop) :
    (
  New (.cells #[.int .i64 s_0, .int .i64 s_1, .int .i64 s_2, .int .i64 s_3, .int .i64 s_4, .int .i64 s_5, .slice s_6_b s_6_l s_6_c] 177) w fun s_ w1 =>
  Pn c fun a =>
  LdB (a.add 7) w1 fun x8 =>
  Bm x8 (
    R  w1) (
    Pn c fun a_1 =>
    LdP (a_1.add 1) w1.drew fun x12 =>
    LdI .i64 ⟨s_, 2, none⟩ w1.drew fun x14 =>
    LdL ⟨s_, 6, none⟩ w1.drew fun x16_b x16_l x16_c =>
    seg_RecvBuf_Insert.Call x12 x14 x16_b x16_l x16_c w1.drew fun r17 w2 =>
    LdI .i64 ⟨s_, 4, none⟩ w2 fun x19 =>
    Bm ((IntKind.i64.wrap (BitVec.ofInt IntKind.i64.bits x19 &&& BitVec.ofInt IntKind.i64.bits (4 : Int)).toNat) == (0 : Int)) (
      sB1 c s_ true w2) (
      LdL ⟨s_, 6, none⟩ w2 fun x24_b x24_l x24_c =>
      sB1 c s_ (decide (((x24_l : Nat) : Int) > (16 : Int))) w2))) = kstep Tryz.prog 44 Tryz.f213.results.toList (Tryz.f213.body.getD .skip) (conn_Conn_take.RV R) (kvc Tryz.prog 44 Tryz.f213.results.toList (Tryz.f213.body.getD .skip) (conn_Conn_take.RV R) [([(0, [1, 1, 1, 0, 1]), (0, [1, 1, 1, 1])], fun σ w => dP (slotOf σ 0) fun c_ => dK (slotOf σ 3) fun s_ => dB (slotOf σ 27) fun t27_ => sB1 c_ s_ t27_ w)] 2000) [(0, [])] [(0, .pointer c), (1, .agg #[.int .i64 s_0, .int .i64 s_1, .int .i64 s_2, .int .i64 s_3, .int .i64 s_4, .int .i64 s_5, .slice s_6_b s_6_l s_6_c])] w := by kernel_rfl
theorem conn_Conn_take.B0_sound {R : World → Prop}  (c : Option Addr) (s_0 s_1 s_2 s_3 s_4 s_5 : Int) (s_6_b : Option Addr) (s_6_l s_6_c : Nat) (w : World) (h : conn_Conn_take.B0 c s_0 s_1 s_2 s_3 s_4 s_5 s_6_b s_6_l s_6_c w   R) :
    KW Tryz.prog 213 44 (conn_Conn_take.RV R) ([(0, [])].map (toItem (Tryz.f213.body.getD .skip))) [(0, .pointer c), (1, .agg #[.int .i64 s_0, .int .i64 s_1, .int .i64 s_2, .int .i64 s_3, .int .i64 s_4, .int .i64 s_5, .slice s_6_b s_6_l s_6_c])] w := by
  exact block_spec Tryz.func213 Tryz.mixed (stops_cons (fun σ w h => by
      obtain ⟨c_, e0, h⟩ := dP_elim h
      obtain ⟨s_, e1, h⟩ := dK_elim h
      obtain ⟨t27_, e2, h⟩ := dB_elim h
      exact (conn_Conn_take.B1_sound  c_ s_ t27_ w h).weaken (Sub.cons (Sub.cons (Sub.cons (Sub.nil _) e2) e1) e0)) stops_nil) (Eq.mp (conn_Conn_take.B0_eq c s_0 s_1 s_2 s_3 s_4 s_5 s_6_b s_6_l s_6_c w   R (fun c_ s_ t27_ w => conn_Conn_take.B1 c_ s_ t27_ w  R)) h)
theorem conn_Conn_take.sound (c : Option Addr) (s_0 s_1 s_2 s_3 s_4 s_5 : Int) (s_6_b : Option Addr) (s_6_l s_6_c : Nat) (w : World) (R : World → Prop) (h : conn_Conn_take.B0 c s_0 s_1 s_2 s_3 s_4 s_5 s_6_b s_6_l s_6_c w R) : conn_Conn_take.Call c s_0 s_1 s_2 s_3 s_4 s_5 s_6_b s_6_l s_6_c w R := by
  have hc := calls_of_block (args := #[.pointer c, .agg #[.int .i64 s_0, .int .i64 s_1, .int .i64 s_2, .int .i64 s_3, .int .i64 s_4, .int .i64 s_5, .slice s_6_b s_6_l s_6_c]]) Tryz.func213 (body := (Tryz.f213.body.getD .skip)) (by kernel_rfl) (by kernel_rfl) (args_slot _) (conn_Conn_take.B0_sound c s_0 s_1 s_2 s_3 s_4 s_5 s_6_b s_6_l s_6_c w h)
  exact hc.mono fun e w' he => by
    obtain ⟨v, rfl, hv⟩ := he
    exact conn_Conn_take.RV_elim hv
def seg_RecvBuf_Window.B0 (b : Option Addr) (w : World)   (R : Int → World → Prop) : Prop :=
  Pn b fun a =>
  LdI .i64 (a.add 17) w fun x6 =>
  R (IntKind.i64.wrap ((16 : Int) - x6)) w
theorem seg_RecvBuf_Window.B0_eq (b : Option Addr) (w : World)   (R : Int → World → Prop)  :
    (
  Pn b fun a =>
  LdI .i64 (a.add 17) w fun x6 =>
  R (IntKind.i64.wrap ((16 : Int) - x6)) w) = kstep Tryz.prog 8 Tryz.f214.results.toList (Tryz.f214.body.getD .skip) (seg_RecvBuf_Window.RV R) (kvc Tryz.prog 8 Tryz.f214.results.toList (Tryz.f214.body.getD .skip) (seg_RecvBuf_Window.RV R) [] 2000) [(0, [])] [(0, .pointer b)] w := by kernel_rfl
theorem seg_RecvBuf_Window.B0_sound {R : Int → World → Prop}  (b : Option Addr) (w : World) (h : seg_RecvBuf_Window.B0 b w   R) :
    KW Tryz.prog 214 8 (seg_RecvBuf_Window.RV R) ([(0, [])].map (toItem (Tryz.f214.body.getD .skip))) [(0, .pointer b)] w := by
  exact block_spec Tryz.func214 Tryz.mixed stops_nil (Eq.mp (seg_RecvBuf_Window.B0_eq b w   R ) h)
theorem seg_RecvBuf_Window.sound (b : Option Addr) (w : World) (R : Int → World → Prop) (h : seg_RecvBuf_Window.B0 b w R) : seg_RecvBuf_Window.Call b w R := by
  have hc := calls_of_block (args := #[.pointer b]) Tryz.func214 (body := (Tryz.f214.body.getD .skip)) (by kernel_rfl) (by kernel_rfl) (args_slot _) (seg_RecvBuf_Window.B0_sound b w h)
  exact hc.mono fun e w' he => by
    obtain ⟨v, rfl, hv⟩ := he
    exact seg_RecvBuf_Window.RV_elim hv
def seg_SendBuf_span.B1 (b : Option Addr) (n : Int) (out_b : Option Addr) (out_l out_c : Nat) (at0 first : Int) (w : World)   (R : Option Addr → Nat → Nat → World → Prop) : Prop :=
  Pn b fun a =>
  (0 ≤ (IntKind.i64.wrap (at0 + first)) ∧ (IntKind.i64.wrap (at0 + first)) ≤ ((16 : Nat) : Int)) ∧
  (0 ≤ at0 ∧ at0 ≤ (IntKind.i64.wrap (at0 + first))) ∧
  Copy 1 out_b out_l (some (slBaseA a at0 ((16 : Nat) : Int) 1)) ((IntKind.i64.wrap (at0 + first)).toNat - at0.toNat) w fun n34 w1 =>
  (0 ≤ first ∧ first ≤ ((out_l : Nat) : Int)) ∧
  Pn b fun a_1 =>
  (0 ≤ (IntKind.i64.wrap (n - first)) ∧ (IntKind.i64.wrap (n - first)) ≤ ((16 : Nat) : Int)) ∧
  Copy 1 (slBase out_b first ((out_c : Nat) : Int) 1) (((out_l : Nat) : Int).toNat - first.toNat) (some (slBaseA a_1 ((0 : Nat) : Int) ((16 : Nat) : Int) 1)) ((IntKind.i64.wrap (n - first)).toNat - ((0 : Nat) : Int).toNat) w1.drew fun n45 w2 =>
  R out_b out_l out_c w2
theorem seg_SendBuf_span.B1_eq (b : Option Addr) (n : Int) (out_b : Option Addr) (out_l out_c : Nat) (at0 first : Int) (w : World)   (R : Option Addr → Nat → Nat → World → Prop)  :
    (
  Pn b fun a =>
  (0 ≤ (IntKind.i64.wrap (at0 + first)) ∧ (IntKind.i64.wrap (at0 + first)) ≤ ((16 : Nat) : Int)) ∧
  (0 ≤ at0 ∧ at0 ≤ (IntKind.i64.wrap (at0 + first))) ∧
  Copy 1 out_b out_l (some (slBaseA a at0 ((16 : Nat) : Int) 1)) ((IntKind.i64.wrap (at0 + first)).toNat - at0.toNat) w fun n34 w1 =>
  (0 ≤ first ∧ first ≤ ((out_l : Nat) : Int)) ∧
  Pn b fun a_1 =>
  (0 ≤ (IntKind.i64.wrap (n - first)) ∧ (IntKind.i64.wrap (n - first)) ≤ ((16 : Nat) : Int)) ∧
  Copy 1 (slBase out_b first ((out_c : Nat) : Int) 1) (((out_l : Nat) : Int).toNat - first.toNat) (some (slBaseA a_1 ((0 : Nat) : Int) ((16 : Nat) : Int) 1)) ((IntKind.i64.wrap (n - first)).toNat - ((0 : Nat) : Int).toNat) w1.drew fun n45 w2 =>
  R out_b out_l out_c w2) = kstep Tryz.prog 47 Tryz.f215.results.toList (Tryz.f215.body.getD .skip) (seg_SendBuf_span.RV R) (kvc Tryz.prog 47 Tryz.f215.results.toList (Tryz.f215.body.getD .skip) (seg_SendBuf_span.RV R) [] 2000) [(0, [1, 1, 1, 1, 1])] [(0, .pointer b), (2, .int .i64 n), (7, .slice out_b out_l out_c), (8, .int .i64 at0), (9, .int .i64 first)] w := by kernel_rfl
theorem seg_SendBuf_span.B1_sound {R : Option Addr → Nat → Nat → World → Prop}  (b : Option Addr) (n : Int) (out_b : Option Addr) (out_l out_c : Nat) (at0 first : Int) (w : World) (h : seg_SendBuf_span.B1 b n out_b out_l out_c at0 first w   R) :
    KW Tryz.prog 215 47 (seg_SendBuf_span.RV R) ([(0, [1, 1, 1, 1, 1])].map (toItem (Tryz.f215.body.getD .skip))) [(0, .pointer b), (2, .int .i64 n), (7, .slice out_b out_l out_c), (8, .int .i64 at0), (9, .int .i64 first)] w := by
  exact block_spec Tryz.func215 Tryz.mixed stops_nil (Eq.mp (seg_SendBuf_span.B1_eq b n out_b out_l out_c at0 first w   R ) h)
def seg_SendBuf_span.B0 (b : Option Addr) (off n : Int) (w : World)   (R : Option Addr → Nat → Nat → World → Prop) : Prop :=
  Make 5 (.int .u8 (0 : Int)) 1 1 n n w fun b11 w1 =>
  Pn b fun a =>
  LdI .i64 (a.add 16) w1 fun x15 =>
  (16 : Int) ≠ 0 ∧
  Bm (decide ((IntKind.i64.wrap ((16 : Int) - ((IntKind.i64.wrap (x15 + off)).tmod (16 : Int)))) > n)) (
    seg_SendBuf_span.B1 b n (some ⟨b11, 0, none⟩) n.toNat n.toNat ((IntKind.i64.wrap (x15 + off)).tmod (16 : Int)) n w1  R) (
    seg_SendBuf_span.B1 b n (some ⟨b11, 0, none⟩) n.toNat n.toNat ((IntKind.i64.wrap (x15 + off)).tmod (16 : Int)) (IntKind.i64.wrap ((16 : Int) - ((IntKind.i64.wrap (x15 + off)).tmod (16 : Int)))) w1  R)
theorem seg_SendBuf_span.B0_eq (b : Option Addr) (off n : Int) (w : World)   (R : Option Addr → Nat → Nat → World → Prop) (sB1 : Option Addr → Int → Option Addr → Nat → Nat → Int → Int → World → Prop) :
    (
  Make 5 (.int .u8 (0 : Int)) 1 1 n n w fun b11 w1 =>
  Pn b fun a =>
  LdI .i64 (a.add 16) w1 fun x15 =>
  (16 : Int) ≠ 0 ∧
  Bm (decide ((IntKind.i64.wrap ((16 : Int) - ((IntKind.i64.wrap (x15 + off)).tmod (16 : Int)))) > n)) (
    sB1 b n (some ⟨b11, 0, none⟩) n.toNat n.toNat ((IntKind.i64.wrap (x15 + off)).tmod (16 : Int)) n w1) (
    sB1 b n (some ⟨b11, 0, none⟩) n.toNat n.toNat ((IntKind.i64.wrap (x15 + off)).tmod (16 : Int)) (IntKind.i64.wrap ((16 : Int) - ((IntKind.i64.wrap (x15 + off)).tmod (16 : Int)))) w1)) = kstep Tryz.prog 47 Tryz.f215.results.toList (Tryz.f215.body.getD .skip) (seg_SendBuf_span.RV R) (kvc Tryz.prog 47 Tryz.f215.results.toList (Tryz.f215.body.getD .skip) (seg_SendBuf_span.RV R) [([(0, [1, 1, 1, 1, 1])], fun σ w => dP (slotOf σ 0) fun b_ => dI .i64 (slotOf σ 2) fun n_ => dL (slotOf σ 7) fun out_b_ out_l_ out_c_ => dI .i64 (slotOf σ 8) fun at0_ => dI .i64 (slotOf σ 9) fun first_ => sB1 b_ n_ out_b_ out_l_ out_c_ at0_ first_ w)] 2000) [(0, [])] [(0, .pointer b), (1, .int .i64 off), (2, .int .i64 n)] w := by kernel_rfl
theorem seg_SendBuf_span.B0_sound {R : Option Addr → Nat → Nat → World → Prop}  (b : Option Addr) (off n : Int) (w : World) (h : seg_SendBuf_span.B0 b off n w   R) :
    KW Tryz.prog 215 47 (seg_SendBuf_span.RV R) ([(0, [])].map (toItem (Tryz.f215.body.getD .skip))) [(0, .pointer b), (1, .int .i64 off), (2, .int .i64 n)] w := by
  exact block_spec Tryz.func215 Tryz.mixed (stops_cons (fun σ w h => by
      obtain ⟨b_, e0, h⟩ := dP_elim h
      obtain ⟨n_, e1, h⟩ := dI_elim h
      obtain ⟨out_b_, out_l_, out_c_, e2, h⟩ := dL_elim h
      obtain ⟨at0_, e3, h⟩ := dI_elim h
      obtain ⟨first_, e4, h⟩ := dI_elim h
      exact (seg_SendBuf_span.B1_sound  b_ n_ out_b_ out_l_ out_c_ at0_ first_ w h).weaken (Sub.cons (Sub.cons (Sub.cons (Sub.cons (Sub.cons (Sub.nil _) e4) e3) e2) e1) e0)) stops_nil) (Eq.mp (seg_SendBuf_span.B0_eq b off n w   R (fun b_ n_ out_b_ out_l_ out_c_ at0_ first_ w => seg_SendBuf_span.B1 b_ n_ out_b_ out_l_ out_c_ at0_ first_ w  R)) h)
theorem seg_SendBuf_span.sound (b : Option Addr) (off n : Int) (w : World) (R : Option Addr → Nat → Nat → World → Prop) (h : seg_SendBuf_span.B0 b off n w R) : seg_SendBuf_span.Call b off n w R := by
  have hc := calls_of_block (args := #[.pointer b, .int .i64 off, .int .i64 n]) Tryz.func215 (body := (Tryz.f215.body.getD .skip)) (by kernel_rfl) (by kernel_rfl) (args_slot _) (seg_SendBuf_span.B0_sound b off n w h)
  exact hc.mono fun e w' he => by
    obtain ⟨v, rfl, hv⟩ := he
    exact seg_SendBuf_span.RV_elim hv
def seg_SendBuf_Ack.B1 (b : Option Addr) (d : Int) (t22 : Bool) (w : World)   (R : Int → World → Prop) : Prop :=
  Bm t22 (
    R (0 : Int) w) (
    Pn b fun a =>
    LdI .i64 (a.add 16) w fun x27 =>
    (16 : Int) ≠ 0 ∧
    Pn b fun a_1 =>
    Sts [.int .i64 ((IntKind.i64.wrap (x27 + d)).tmod (16 : Int))] (a_1.add 16) 0 w fun w1 =>
    Pn b fun a_2 =>
    LdI .i64 (a_2.add 17) w1 fun x36 =>
    Pn b fun a_3 =>
    Sts [.int .i64 (IntKind.i64.wrap (x36 - d))] (a_3.add 17) 0 w1 fun w2 =>
    Pn b fun a_4 =>
    LdI .i64 (a_4.add 18) w2 fun x44 =>
    Pn b fun a_5 =>
    Sts [.int .i64 (IntKind.i64.wrap (x44 - d))] (a_5.add 18) 0 w2 fun w3 =>
    Pn b fun a_6 =>
    LdI .u8 (a_6.add 19) w3 fun x52 =>
    Pn b fun a_7 =>
    Sts [.int .u8 (IntKind.u8.wrap (x52 + (IntKind.u8.wrap d)))] (a_7.add 19) 0 w3 fun w4 =>
    R d w4)
theorem seg_SendBuf_Ack.B1_eq (b : Option Addr) (d : Int) (t22 : Bool) (w : World)   (R : Int → World → Prop)  :
    (
  Bm t22 (
    R (0 : Int) w) (
    Pn b fun a =>
    LdI .i64 (a.add 16) w fun x27 =>
    (16 : Int) ≠ 0 ∧
    Pn b fun a_1 =>
    Sts [.int .i64 ((IntKind.i64.wrap (x27 + d)).tmod (16 : Int))] (a_1.add 16) 0 w fun w1 =>
    Pn b fun a_2 =>
    LdI .i64 (a_2.add 17) w1 fun x36 =>
    Pn b fun a_3 =>
    Sts [.int .i64 (IntKind.i64.wrap (x36 - d))] (a_3.add 17) 0 w1 fun w2 =>
    Pn b fun a_4 =>
    LdI .i64 (a_4.add 18) w2 fun x44 =>
    Pn b fun a_5 =>
    Sts [.int .i64 (IntKind.i64.wrap (x44 - d))] (a_5.add 18) 0 w2 fun w3 =>
    Pn b fun a_6 =>
    LdI .u8 (a_6.add 19) w3 fun x52 =>
    Pn b fun a_7 =>
    Sts [.int .u8 (IntKind.u8.wrap (x52 + (IntKind.u8.wrap d)))] (a_7.add 19) 0 w3 fun w4 =>
    R d w4)) = kstep Tryz.prog 59 Tryz.f216.results.toList (Tryz.f216.body.getD .skip) (seg_SendBuf_Ack.RV R) (kvc Tryz.prog 59 Tryz.f216.results.toList (Tryz.f216.body.getD .skip) (seg_SendBuf_Ack.RV R) [] 2000) [(0, [1, 1, 0, 1]), (0, [1, 1, 1])] [(0, .pointer b), (5, .int .i64 d), (22, .bool t22)] w := by kernel_rfl
theorem seg_SendBuf_Ack.B1_sound {R : Int → World → Prop}  (b : Option Addr) (d : Int) (t22 : Bool) (w : World) (h : seg_SendBuf_Ack.B1 b d t22 w   R) :
    KW Tryz.prog 216 59 (seg_SendBuf_Ack.RV R) ([(0, [1, 1, 0, 1]), (0, [1, 1, 1])].map (toItem (Tryz.f216.body.getD .skip))) [(0, .pointer b), (5, .int .i64 d), (22, .bool t22)] w := by
  exact block_spec Tryz.func216 Tryz.mixed stops_nil (Eq.mp (seg_SendBuf_Ack.B1_eq b d t22 w   R ) h)
def seg_SendBuf_Ack.B0 (b : Option Addr) (a : Int) (w : World)   (R : Int → World → Prop) : Prop :=
  Pn b fun a_1 =>
  LdI .u8 (a_1.add 19) w fun x10 =>
  api_SeqDiff.Call a (IntKind.i64.wrap x10) w fun r12 w1 =>
  Bm (decide (r12 ≤ (0 : Int))) (
    seg_SendBuf_Ack.B1 b r12 true w1  R) (
    Pn b fun a_2 =>
    LdI .i64 (a_2.add 18) w1 fun x20 =>
    seg_SendBuf_Ack.B1 b r12 (decide (r12 > x20)) w1  R)
theorem seg_SendBuf_Ack.B0_eq (b : Option Addr) (a : Int) (w : World)   (R : Int → World → Prop) (sB1 : Option Addr → Int → Bool → World → Prop) :
    (
  Pn b fun a_1 =>
  LdI .u8 (a_1.add 19) w fun x10 =>
  api_SeqDiff.Call a (IntKind.i64.wrap x10) w fun r12 w1 =>
  Bm (decide (r12 ≤ (0 : Int))) (
    sB1 b r12 true w1) (
    Pn b fun a_2 =>
    LdI .i64 (a_2.add 18) w1 fun x20 =>
    sB1 b r12 (decide (r12 > x20)) w1)) = kstep Tryz.prog 59 Tryz.f216.results.toList (Tryz.f216.body.getD .skip) (seg_SendBuf_Ack.RV R) (kvc Tryz.prog 59 Tryz.f216.results.toList (Tryz.f216.body.getD .skip) (seg_SendBuf_Ack.RV R) [([(0, [1, 1, 0, 1]), (0, [1, 1, 1])], fun σ w => dP (slotOf σ 0) fun b_ => dI .i64 (slotOf σ 5) fun d_ => dB (slotOf σ 22) fun t22_ => sB1 b_ d_ t22_ w)] 2000) [(0, [])] [(0, .pointer b), (1, .int .i64 a)] w := by kernel_rfl
theorem seg_SendBuf_Ack.B0_sound {R : Int → World → Prop}  (b : Option Addr) (a : Int) (w : World) (h : seg_SendBuf_Ack.B0 b a w   R) :
    KW Tryz.prog 216 59 (seg_SendBuf_Ack.RV R) ([(0, [])].map (toItem (Tryz.f216.body.getD .skip))) [(0, .pointer b), (1, .int .i64 a)] w := by
  exact block_spec Tryz.func216 Tryz.mixed (stops_cons (fun σ w h => by
      obtain ⟨b_, e0, h⟩ := dP_elim h
      obtain ⟨d_, e1, h⟩ := dI_elim h
      obtain ⟨t22_, e2, h⟩ := dB_elim h
      exact (seg_SendBuf_Ack.B1_sound  b_ d_ t22_ w h).weaken (Sub.cons (Sub.cons (Sub.cons (Sub.nil _) e2) e1) e0)) stops_nil) (Eq.mp (seg_SendBuf_Ack.B0_eq b a w   R (fun b_ d_ t22_ w => seg_SendBuf_Ack.B1 b_ d_ t22_ w  R)) h)
theorem seg_SendBuf_Ack.sound (b : Option Addr) (a : Int) (w : World) (R : Int → World → Prop) (h : seg_SendBuf_Ack.B0 b a w R) : seg_SendBuf_Ack.Call b a w R := by
  have hc := calls_of_block (args := #[.pointer b, .int .i64 a]) Tryz.func216 (body := (Tryz.f216.body.getD .skip)) (by kernel_rfl) (by kernel_rfl) (args_slot _) (seg_SendBuf_Ack.B0_sound b a w h)
  exact hc.mono fun e w' he => by
    obtain ⟨v, rfl, hv⟩ := he
    exact seg_SendBuf_Ack.RV_elim hv
def seg_RecvBuf_Insert.B2 (b p_b : Option Addr) (p_l p_c : Nat) (d0 w0 i : Int) (w : World) (N1 : Option Addr → Option Addr → Nat → Nat → Int → Int → Int → World → Prop)  (R : Int → World → Prop) : Prop :=
  N1 b p_b p_l p_c d0 w0 (IntKind.i64.wrap (i + (1 : Int))) w
theorem seg_RecvBuf_Insert.B2_eq (b p_b : Option Addr) (p_l p_c : Nat) (d0 w0 i : Int) (w : World) (N1 : Option Addr → Option Addr → Nat → Nat → Int → Int → Int → World → Prop)  (R : Int → World → Prop)  :
    (
  N1 b p_b p_l p_c d0 w0 (IntKind.i64.wrap (i + (1 : Int))) w) = kstep Tryz.prog 116 Tryz.f217.results.toList (Tryz.f217.body.getD .skip) (seg_RecvBuf_Insert.RV R) (kvc Tryz.prog 116 Tryz.f217.results.toList (Tryz.f217.body.getD .skip) (seg_RecvBuf_Insert.RV R) [([(0, [1, 1, 1, 0, 1, 0, 0]), (2, [1, 1, 1, 0, 1, 0, 0]), (1, [0]), (0, [1, 1, 1, 1])], fun σ w => dP (slotOf σ 0) fun b_ => dL (slotOf σ 2) fun p_b_ p_l_ p_c_ => dI .i64 (slotOf σ 7) fun d0_ => dI .i64 (slotOf σ 8) fun w0_ => dI .i64 (slotOf σ 9) fun i_ => N1 b_ p_b_ p_l_ p_c_ d0_ w0_ i_ w)] 2000) [(0, [1, 1, 1, 0, 1, 0, 0, 1, 1]), (2, [1, 1, 1, 0, 1, 0, 0]), (1, [0]), (0, [1, 1, 1, 1])] [(0, .pointer b), (2, .slice p_b p_l p_c), (7, .int .i64 d0), (8, .int .i64 w0), (9, .int .i64 i)] w := by kernel_rfl
theorem seg_RecvBuf_Insert.B2_sound {R : Int → World → Prop} {N1 : Option Addr → Option Addr → Nat → Nat → Int → Int → Int → World → Prop} (hN1 : ∀ b p_b p_l p_c d0 w0 i w, N1 b p_b p_l p_c d0 w0 i w → KW Tryz.prog 217 116 (seg_RecvBuf_Insert.RV R) ([(0, [1, 1, 1, 0, 1, 0, 0]), (2, [1, 1, 1, 0, 1, 0, 0]), (1, [0]), (0, [1, 1, 1, 1])].map (toItem (Tryz.f217.body.getD .skip))) [(0, .pointer b), (2, .slice p_b p_l p_c), (7, .int .i64 d0), (8, .int .i64 w0), (9, .int .i64 i)] w) (b p_b : Option Addr) (p_l p_c : Nat) (d0 w0 i : Int) (w : World) (h : seg_RecvBuf_Insert.B2 b p_b p_l p_c d0 w0 i w N1  R) :
    KW Tryz.prog 217 116 (seg_RecvBuf_Insert.RV R) ([(0, [1, 1, 1, 0, 1, 0, 0, 1, 1]), (2, [1, 1, 1, 0, 1, 0, 0]), (1, [0]), (0, [1, 1, 1, 1])].map (toItem (Tryz.f217.body.getD .skip))) [(0, .pointer b), (2, .slice p_b p_l p_c), (7, .int .i64 d0), (8, .int .i64 w0), (9, .int .i64 i)] w := by
  exact block_spec Tryz.func217 Tryz.mixed (stops_cons (fun σ w h => by
      obtain ⟨b_, e0, h⟩ := dP_elim h
      obtain ⟨p_b_, p_l_, p_c_, e1, h⟩ := dL_elim h
      obtain ⟨d0_, e2, h⟩ := dI_elim h
      obtain ⟨w0_, e3, h⟩ := dI_elim h
      obtain ⟨i_, e4, h⟩ := dI_elim h
      exact (hN1 b_ p_b_ p_l_ p_c_ d0_ w0_ i_ w h).weaken (Sub.cons (Sub.cons (Sub.cons (Sub.cons (Sub.cons (Sub.nil _) e4) e3) e2) e1) e0)) stops_nil) (Eq.mp (seg_RecvBuf_Insert.B2_eq b p_b p_l p_c d0 w0 i w N1  R ) h)
def seg_RecvBuf_Insert.L2b (b : Option Addr) (n m0 : Int) (w : World)  (N2 : Option Addr → Int → Int → World → Prop) (R : Int → World → Prop) : Prop :=
  Pn b fun a =>
  LdI .u16 (a.add 18) w fun x85 =>
  Bm ((IntKind.u16.wrap (BitVec.ofInt IntKind.u16.bits x85 &&& BitVec.ofInt IntKind.u16.bits m0).toNat) != (0 : Int)) (
    Pn b fun a_1 =>
    LdI .u16 (a_1.add 18) w fun x94 =>
    Pn b fun a_2 =>
    Sts [.int .u16 (IntKind.u16.wrap (BitVec.ofInt IntKind.u16.bits x94 &&& ~~~ BitVec.ofInt IntKind.u16.bits m0).toNat)] (a_2.add 18) 0 w fun w1 =>
    Pn b fun a_3 =>
    LdI .u8 (a_3.add 16) w1 fun x102 =>
    Pn b fun a_4 =>
    Sts [.int .u8 (IntKind.u8.wrap (x102 + (1 : Int)))] (a_4.add 16) 0 w1 fun w2 =>
    Pn b fun a_5 =>
    LdI .i64 (a_5.add 17) w2 fun x109 =>
    Pn b fun a_6 =>
    Sts [.int .i64 (IntKind.i64.wrap (x109 + (1 : Int)))] (a_6.add 17) 0 w2 fun w3 =>
    seg_RecvBuf_bit.Call b (0 : Int) w3 fun r90 w4 =>
    N2 b (IntKind.i64.wrap (n + (1 : Int))) r90 w4) (
    R n w)
theorem seg_RecvBuf_Insert.L2b_eq (b : Option Addr) (n m0 : Int) (w : World)  (N2 : Option Addr → Int → Int → World → Prop) (R : Int → World → Prop)  :
    (
  Pn b fun a =>
  LdI .u16 (a.add 18) w fun x85 =>
  Bm ((IntKind.u16.wrap (BitVec.ofInt IntKind.u16.bits x85 &&& BitVec.ofInt IntKind.u16.bits m0).toNat) != (0 : Int)) (
    Pn b fun a_1 =>
    LdI .u16 (a_1.add 18) w fun x94 =>
    Pn b fun a_2 =>
    Sts [.int .u16 (IntKind.u16.wrap (BitVec.ofInt IntKind.u16.bits x94 &&& ~~~ BitVec.ofInt IntKind.u16.bits m0).toNat)] (a_2.add 18) 0 w fun w1 =>
    Pn b fun a_3 =>
    LdI .u8 (a_3.add 16) w1 fun x102 =>
    Pn b fun a_4 =>
    Sts [.int .u8 (IntKind.u8.wrap (x102 + (1 : Int)))] (a_4.add 16) 0 w1 fun w2 =>
    Pn b fun a_5 =>
    LdI .i64 (a_5.add 17) w2 fun x109 =>
    Pn b fun a_6 =>
    Sts [.int .i64 (IntKind.i64.wrap (x109 + (1 : Int)))] (a_6.add 17) 0 w2 fun w3 =>
    seg_RecvBuf_bit.Call b (0 : Int) w3 fun r90 w4 =>
    N2 b (IntKind.i64.wrap (n + (1 : Int))) r90 w4) (
    R n w)) = kstep Tryz.prog 116 Tryz.f217.results.toList (Tryz.f217.body.getD .skip) (seg_RecvBuf_Insert.RV R) (kvc Tryz.prog 116 Tryz.f217.results.toList (Tryz.f217.body.getD .skip) (seg_RecvBuf_Insert.RV R) [([(0, [1, 1, 1, 1, 1, 0, 1, 0, 0]), (2, [1, 1, 1, 1, 1, 0, 1, 0, 0]), (1, [2]), (0, [1, 1, 1, 1, 1, 1])], fun σ w => dP (slotOf σ 0) fun b_ => dI .i64 (slotOf σ 11) fun n_ => dI .u16 (slotOf σ 12) fun m0_ => N2 b_ n_ m0_ w)] 2000) [(0, [1, 1, 1, 1, 1, 0, 1, 0, 0]), (2, [1, 1, 1, 1, 1, 0, 1, 0, 0]), (1, [2]), (0, [1, 1, 1, 1, 1, 1])] [(0, .pointer b), (11, .int .i64 n), (12, .int .u16 m0)] w := by kernel_rfl
theorem seg_RecvBuf_Insert.L2b_sound {R : Int → World → Prop} {N2 : Option Addr → Int → Int → World → Prop} (hN2 : ∀ b n m0 w, N2 b n m0 w → KW Tryz.prog 217 116 (seg_RecvBuf_Insert.RV R) ([(0, [1, 1, 1, 1, 1, 0, 1, 0, 0]), (2, [1, 1, 1, 1, 1, 0, 1, 0, 0]), (1, [2]), (0, [1, 1, 1, 1, 1, 1])].map (toItem (Tryz.f217.body.getD .skip))) [(0, .pointer b), (11, .int .i64 n), (12, .int .u16 m0)] w) (b : Option Addr) (n m0 : Int) (w : World) (h : seg_RecvBuf_Insert.L2b b n m0 w  N2 R) :
    KW Tryz.prog 217 116 (seg_RecvBuf_Insert.RV R) ([(0, [1, 1, 1, 1, 1, 0, 1, 0, 0]), (2, [1, 1, 1, 1, 1, 0, 1, 0, 0]), (1, [2]), (0, [1, 1, 1, 1, 1, 1])].map (toItem (Tryz.f217.body.getD .skip))) [(0, .pointer b), (11, .int .i64 n), (12, .int .u16 m0)] w := by
  exact block_spec Tryz.func217 Tryz.mixed (stops_cons (fun σ w h => by
      obtain ⟨b_, e0, h⟩ := dP_elim h
      obtain ⟨n_, e1, h⟩ := dI_elim h
      obtain ⟨m0_, e2, h⟩ := dI_elim h
      exact (hN2 b_ n_ m0_ w h).weaken (Sub.cons (Sub.cons (Sub.cons (Sub.nil _) e2) e1) e0)) stops_nil) (Eq.mp (seg_RecvBuf_Insert.L2b_eq b n m0 w  N2 R ) h)
def seg_RecvBuf_Insert.L2 (b : Option Addr) (n m0 : Int) (w : World)  (R : Int → World → Prop) : Prop :=
  ∃ (I : Nat → Option Addr → Int → Int → World → Prop) (m : Nat), I m b n m0 w ∧ ∀ m b n m0 w, I m b n m0 w → seg_RecvBuf_Insert.L2b b n m0 w  (fun b' n' m0' w' => ∃ m', m' < m ∧ I m' b' n' m0' w') R
theorem seg_RecvBuf_Insert.L2_sound {R : Int → World → Prop}  (b : Option Addr) (n m0 : Int) (w : World) (h : seg_RecvBuf_Insert.L2 b n m0 w  R) :
    KW Tryz.prog 217 116 (seg_RecvBuf_Insert.RV R) ([(0, [1, 1, 1, 1, 1, 0, 1, 0, 0]), (2, [1, 1, 1, 1, 1, 0, 1, 0, 0]), (1, [2]), (0, [1, 1, 1, 1, 1, 1])].map (toItem (Tryz.f217.body.getD .skip))) [(0, .pointer b), (11, .int .i64 n), (12, .int .u16 m0)] w := by
  obtain ⟨I, m, hBase, hr⟩ := h
  refine KW.loop (fun m σ w => ∃ (b : Option Addr) (n m0 : Int), σ = [(0, .pointer b), (11, .int .i64 n), (12, .int .u16 m0)] ∧ I m b n m0 w) ?_ m _ w ⟨b, n, m0, rfl, hBase⟩
  rintro m ih σ w ⟨b, n, m0, rfl, hI⟩
  exact seg_RecvBuf_Insert.L2b_sound  (N2 := fun b' n' m0' w' => ∃ m', m' < m ∧ I m' b' n' m0' w') (fun b' n' m0' w' hx => by obtain ⟨m', hlt, hI'⟩ := hx; exact ih m' hlt _ w' ⟨b', n', m0', rfl, hI'⟩) b n m0 w (hr m b n m0 w hI)
def seg_RecvBuf_Insert.B1 (b p_b : Option Addr) (p_l p_c : Nat) (d0 w0 i : Int) (t35 : Bool) (w : World) (N1 : Option Addr → Option Addr → Nat → Nat → Int → Int → Int → World → Prop)  (R : Int → World → Prop) : Prop :=
  Bm t35 (
    Bm (decide ((IntKind.i64.wrap (d0 + i)) < (0 : Int))) (
      seg_RecvBuf_Insert.B2 b p_b p_l p_c d0 w0 i w N1 R) (
      seg_RecvBuf_bit.Call b (IntKind.i64.wrap (d0 + i)) w fun r46 w1 =>
      Pn b fun a =>
      LdI .u16 (a.add 18) w1 fun x50 =>
      Bm ((IntKind.u16.wrap (BitVec.ofInt IntKind.u16.bits x50 &&& BitVec.ofInt IntKind.u16.bits r46).toNat) == (0 : Int)) (
        Pn b fun a_1 =>
        LdI .u16 (a_1.add 18) w1 fun x57 =>
        Pn b fun a_2 =>
        Sts [.int .u16 (IntKind.u16.wrap (BitVec.ofInt IntKind.u16.bits x57 ||| BitVec.ofInt IntKind.u16.bits r46).toNat)] (a_2.add 18) 0 w1 fun w2 =>
        Pn b fun a_3 =>
        LdI .u8 (a_3.add 16) w2.drew fun x66 =>
        (16 : Int) ≠ 0 ∧
        Pn p_b fun a_4 =>
        (0 ≤ i ∧ i < ((p_l : Nat) : Int)) ∧
        LdI .u8 (Addr.add a_4 (i.toNat * 1)) w2.drew fun x76 =>
        Pn b fun a_5 =>
        (0 ≤ ((IntKind.i64.wrap ((IntKind.i64.wrap ((IntKind.i64.wrap x66) + d0)) + i)).tmod (16 : Int)) ∧ ((IntKind.i64.wrap ((IntKind.i64.wrap ((IntKind.i64.wrap x66) + d0)) + i)).tmod (16 : Int)) < ((16 : Nat) : Int)) ∧
        Sts [.int .u8 x76] (Addr.add a_5 (((IntKind.i64.wrap ((IntKind.i64.wrap ((IntKind.i64.wrap x66) + d0)) + i)).tmod (16 : Int)).toNat * 1)) 0 w2.drew fun w3 =>
        seg_RecvBuf_Insert.B2 b p_b p_l p_c d0 w0 i w3 N1 R) (
        seg_RecvBuf_Insert.B2 b p_b p_l p_c d0 w0 i w1 N1 R))) (
    seg_RecvBuf_bit.Call b (0 : Int) w fun r81 w4 =>
    seg_RecvBuf_Insert.L2 b (0 : Int) r81 w4  R)
theorem seg_RecvBuf_Insert.B1_eq (b p_b : Option Addr) (p_l p_c : Nat) (d0 w0 i : Int) (t35 : Bool) (w : World) (N1 : Option Addr → Option Addr → Nat → Nat → Int → Int → Int → World → Prop)  (R : Int → World → Prop) (sB2 : Option Addr → Option Addr → Nat → Nat → Int → Int → Int → World → Prop) (sL2 : Option Addr → Int → Int → World → Prop) :
    (
  Bm t35 (
    Bm (decide ((IntKind.i64.wrap (d0 + i)) < (0 : Int))) (
      sB2 b p_b p_l p_c d0 w0 i w) (
      seg_RecvBuf_bit.Call b (IntKind.i64.wrap (d0 + i)) w fun r46 w1 =>
      Pn b fun a =>
      LdI .u16 (a.add 18) w1 fun x50 =>
      Bm ((IntKind.u16.wrap (BitVec.ofInt IntKind.u16.bits x50 &&& BitVec.ofInt IntKind.u16.bits r46).toNat) == (0 : Int)) (
        Pn b fun a_1 =>
        LdI .u16 (a_1.add 18) w1 fun x57 =>
        Pn b fun a_2 =>
        Sts [.int .u16 (IntKind.u16.wrap (BitVec.ofInt IntKind.u16.bits x57 ||| BitVec.ofInt IntKind.u16.bits r46).toNat)] (a_2.add 18) 0 w1 fun w2 =>
        Pn b fun a_3 =>
        LdI .u8 (a_3.add 16) w2.drew fun x66 =>
        (16 : Int) ≠ 0 ∧
        Pn p_b fun a_4 =>
        (0 ≤ i ∧ i < ((p_l : Nat) : Int)) ∧
        LdI .u8 (Addr.add a_4 (i.toNat * 1)) w2.drew fun x76 =>
        Pn b fun a_5 =>
        (0 ≤ ((IntKind.i64.wrap ((IntKind.i64.wrap ((IntKind.i64.wrap x66) + d0)) + i)).tmod (16 : Int)) ∧ ((IntKind.i64.wrap ((IntKind.i64.wrap ((IntKind.i64.wrap x66) + d0)) + i)).tmod (16 : Int)) < ((16 : Nat) : Int)) ∧
        Sts [.int .u8 x76] (Addr.add a_5 (((IntKind.i64.wrap ((IntKind.i64.wrap ((IntKind.i64.wrap x66) + d0)) + i)).tmod (16 : Int)).toNat * 1)) 0 w2.drew fun w3 =>
        sB2 b p_b p_l p_c d0 w0 i w3) (
        sB2 b p_b p_l p_c d0 w0 i w1))) (
    seg_RecvBuf_bit.Call b (0 : Int) w fun r81 w4 =>
    sL2 b (0 : Int) r81 w4)) = kstep Tryz.prog 116 Tryz.f217.results.toList (Tryz.f217.body.getD .skip) (seg_RecvBuf_Insert.RV R) (kvc Tryz.prog 116 Tryz.f217.results.toList (Tryz.f217.body.getD .skip) (seg_RecvBuf_Insert.RV R) [([(0, [1, 1, 1, 0, 1, 0, 0, 1, 1]), (2, [1, 1, 1, 0, 1, 0, 0]), (1, [0]), (0, [1, 1, 1, 1])], fun σ w => dP (slotOf σ 0) fun b_ => dL (slotOf σ 2) fun p_b_ p_l_ p_c_ => dI .i64 (slotOf σ 7) fun d0_ => dI .i64 (slotOf σ 8) fun w0_ => dI .i64 (slotOf σ 9) fun i_ => sB2 b_ p_b_ p_l_ p_c_ d0_ w0_ i_ w),
    ([(0, [1, 1, 1, 1, 1, 0, 1, 0, 0]), (2, [1, 1, 1, 1, 1, 0, 1, 0, 0]), (1, [2]), (0, [1, 1, 1, 1, 1, 1])], fun σ w => dP (slotOf σ 0) fun b_ => dI .i64 (slotOf σ 11) fun n_ => dI .u16 (slotOf σ 12) fun m0_ => sL2 b_ n_ m0_ w)] 2000) [(0, [1, 1, 1, 0, 1, 0, 0, 0, 1]), (0, [1, 1, 1, 0, 1, 0, 0, 1]), (2, [1, 1, 1, 0, 1, 0, 0]), (1, [0]), (0, [1, 1, 1, 1])] [(0, .pointer b), (2, .slice p_b p_l p_c), (7, .int .i64 d0), (8, .int .i64 w0), (9, .int .i64 i), (35, .bool t35)] w := by kernel_rfl
theorem seg_RecvBuf_Insert.B1_sound {R : Int → World → Prop} {N1 : Option Addr → Option Addr → Nat → Nat → Int → Int → Int → World → Prop} (hN1 : ∀ b p_b p_l p_c d0 w0 i w, N1 b p_b p_l p_c d0 w0 i w → KW Tryz.prog 217 116 (seg_RecvBuf_Insert.RV R) ([(0, [1, 1, 1, 0, 1, 0, 0]), (2, [1, 1, 1, 0, 1, 0, 0]), (1, [0]), (0, [1, 1, 1, 1])].map (toItem (Tryz.f217.body.getD .skip))) [(0, .pointer b), (2, .slice p_b p_l p_c), (7, .int .i64 d0), (8, .int .i64 w0), (9, .int .i64 i)] w) (b p_b : Option Addr) (p_l p_c : Nat) (d0 w0 i : Int) (t35 : Bool) (w : World) (h : seg_RecvBuf_Insert.B1 b p_b p_l p_c d0 w0 i t35 w N1  R) :
    KW Tryz.prog 217 116 (seg_RecvBuf_Insert.RV R) ([(0, [1, 1, 1, 0, 1, 0, 0, 0, 1]), (0, [1, 1, 1, 0, 1, 0, 0, 1]), (2, [1, 1, 1, 0, 1, 0, 0]), (1, [0]), (0, [1, 1, 1, 1])].map (toItem (Tryz.f217.body.getD .skip))) [(0, .pointer b), (2, .slice p_b p_l p_c), (7, .int .i64 d0), (8, .int .i64 w0), (9, .int .i64 i), (35, .bool t35)] w := by
  exact block_spec Tryz.func217 Tryz.mixed (stops_cons (fun σ w h => by
      obtain ⟨b_, e0, h⟩ := dP_elim h
      obtain ⟨p_b_, p_l_, p_c_, e1, h⟩ := dL_elim h
      obtain ⟨d0_, e2, h⟩ := dI_elim h
      obtain ⟨w0_, e3, h⟩ := dI_elim h
      obtain ⟨i_, e4, h⟩ := dI_elim h
      exact (seg_RecvBuf_Insert.B2_sound hN1 b_ p_b_ p_l_ p_c_ d0_ w0_ i_ w h).weaken (Sub.cons (Sub.cons (Sub.cons (Sub.cons (Sub.cons (Sub.nil _) e4) e3) e2) e1) e0)) (stops_cons (fun σ w h => by
      obtain ⟨b_, e0, h⟩ := dP_elim h
      obtain ⟨n_, e1, h⟩ := dI_elim h
      obtain ⟨m0_, e2, h⟩ := dI_elim h
      exact (seg_RecvBuf_Insert.L2_sound  b_ n_ m0_ w h).weaken (Sub.cons (Sub.cons (Sub.cons (Sub.nil _) e2) e1) e0)) stops_nil)) (Eq.mp (seg_RecvBuf_Insert.B1_eq b p_b p_l p_c d0 w0 i t35 w N1  R (fun b_ p_b_ p_l_ p_c_ d0_ w0_ i_ w => seg_RecvBuf_Insert.B2 b_ p_b_ p_l_ p_c_ d0_ w0_ i_ w N1 R) (fun b_ n_ m0_ w => seg_RecvBuf_Insert.L2 b_ n_ m0_ w  R)) h)
def seg_RecvBuf_Insert.L1b (b p_b : Option Addr) (p_l p_c : Nat) (d0 w0 i : Int) (w : World)  (N1 : Option Addr → Option Addr → Nat → Nat → Int → Int → Int → World → Prop) (R : Int → World → Prop) : Prop :=
  Bm (decide (i < ((p_l : Nat) : Int))) (
    seg_RecvBuf_Insert.B1 b p_b p_l p_c d0 w0 i (decide ((IntKind.i64.wrap (d0 + i)) < w0)) w N1 R) (
    seg_RecvBuf_Insert.B1 b p_b p_l p_c d0 w0 i false w N1 R)
theorem seg_RecvBuf_Insert.L1b_eq (b p_b : Option Addr) (p_l p_c : Nat) (d0 w0 i : Int) (w : World)  (N1 : Option Addr → Option Addr → Nat → Nat → Int → Int → Int → World → Prop) (R : Int → World → Prop) (sB1 : Option Addr → Option Addr → Nat → Nat → Int → Int → Int → Bool → World → Prop) :
    (
  Bm (decide (i < ((p_l : Nat) : Int))) (
    sB1 b p_b p_l p_c d0 w0 i (decide ((IntKind.i64.wrap (d0 + i)) < w0)) w) (
    sB1 b p_b p_l p_c d0 w0 i false w)) = kstep Tryz.prog 116 Tryz.f217.results.toList (Tryz.f217.body.getD .skip) (seg_RecvBuf_Insert.RV R) (kvc Tryz.prog 116 Tryz.f217.results.toList (Tryz.f217.body.getD .skip) (seg_RecvBuf_Insert.RV R) [([(0, [1, 1, 1, 0, 1, 0, 0, 0, 1]), (0, [1, 1, 1, 0, 1, 0, 0, 1]), (2, [1, 1, 1, 0, 1, 0, 0]), (1, [0]), (0, [1, 1, 1, 1])], fun σ w => dP (slotOf σ 0) fun b_ => dL (slotOf σ 2) fun p_b_ p_l_ p_c_ => dI .i64 (slotOf σ 7) fun d0_ => dI .i64 (slotOf σ 8) fun w0_ => dI .i64 (slotOf σ 9) fun i_ => dB (slotOf σ 35) fun t35_ => sB1 b_ p_b_ p_l_ p_c_ d0_ w0_ i_ t35_ w)] 2000) [(0, [1, 1, 1, 0, 1, 0, 0]), (2, [1, 1, 1, 0, 1, 0, 0]), (1, [0]), (0, [1, 1, 1, 1])] [(0, .pointer b), (2, .slice p_b p_l p_c), (7, .int .i64 d0), (8, .int .i64 w0), (9, .int .i64 i)] w := by kernel_rfl
theorem seg_RecvBuf_Insert.L1b_sound {R : Int → World → Prop} {N1 : Option Addr → Option Addr → Nat → Nat → Int → Int → Int → World → Prop} (hN1 : ∀ b p_b p_l p_c d0 w0 i w, N1 b p_b p_l p_c d0 w0 i w → KW Tryz.prog 217 116 (seg_RecvBuf_Insert.RV R) ([(0, [1, 1, 1, 0, 1, 0, 0]), (2, [1, 1, 1, 0, 1, 0, 0]), (1, [0]), (0, [1, 1, 1, 1])].map (toItem (Tryz.f217.body.getD .skip))) [(0, .pointer b), (2, .slice p_b p_l p_c), (7, .int .i64 d0), (8, .int .i64 w0), (9, .int .i64 i)] w) (b p_b : Option Addr) (p_l p_c : Nat) (d0 w0 i : Int) (w : World) (h : seg_RecvBuf_Insert.L1b b p_b p_l p_c d0 w0 i w  N1 R) :
    KW Tryz.prog 217 116 (seg_RecvBuf_Insert.RV R) ([(0, [1, 1, 1, 0, 1, 0, 0]), (2, [1, 1, 1, 0, 1, 0, 0]), (1, [0]), (0, [1, 1, 1, 1])].map (toItem (Tryz.f217.body.getD .skip))) [(0, .pointer b), (2, .slice p_b p_l p_c), (7, .int .i64 d0), (8, .int .i64 w0), (9, .int .i64 i)] w := by
  exact block_spec Tryz.func217 Tryz.mixed (stops_cons (fun σ w h => by
      obtain ⟨b_, e0, h⟩ := dP_elim h
      obtain ⟨p_b_, p_l_, p_c_, e1, h⟩ := dL_elim h
      obtain ⟨d0_, e2, h⟩ := dI_elim h
      obtain ⟨w0_, e3, h⟩ := dI_elim h
      obtain ⟨i_, e4, h⟩ := dI_elim h
      obtain ⟨t35_, e5, h⟩ := dB_elim h
      exact (seg_RecvBuf_Insert.B1_sound hN1 b_ p_b_ p_l_ p_c_ d0_ w0_ i_ t35_ w h).weaken (Sub.cons (Sub.cons (Sub.cons (Sub.cons (Sub.cons (Sub.cons (Sub.nil _) e5) e4) e3) e2) e1) e0)) stops_nil) (Eq.mp (seg_RecvBuf_Insert.L1b_eq b p_b p_l p_c d0 w0 i w  N1 R (fun b_ p_b_ p_l_ p_c_ d0_ w0_ i_ t35_ w => seg_RecvBuf_Insert.B1 b_ p_b_ p_l_ p_c_ d0_ w0_ i_ t35_ w N1 R)) h)
def seg_RecvBuf_Insert.L1 (b p_b : Option Addr) (p_l p_c : Nat) (d0 w0 i : Int) (w : World)  (R : Int → World → Prop) : Prop :=
  ∃ (I : Nat → Option Addr → Option Addr → Nat → Nat → Int → Int → Int → World → Prop) (m : Nat), I m b p_b p_l p_c d0 w0 i w ∧ ∀ m b p_b p_l p_c d0 w0 i w, I m b p_b p_l p_c d0 w0 i w → seg_RecvBuf_Insert.L1b b p_b p_l p_c d0 w0 i w  (fun b' p_b' p_l' p_c' d0' w0' i' w' => ∃ m', m' < m ∧ I m' b' p_b' p_l' p_c' d0' w0' i' w') R
theorem seg_RecvBuf_Insert.L1_sound {R : Int → World → Prop}  (b p_b : Option Addr) (p_l p_c : Nat) (d0 w0 i : Int) (w : World) (h : seg_RecvBuf_Insert.L1 b p_b p_l p_c d0 w0 i w  R) :
    KW Tryz.prog 217 116 (seg_RecvBuf_Insert.RV R) ([(0, [1, 1, 1, 0, 1, 0, 0]), (2, [1, 1, 1, 0, 1, 0, 0]), (1, [0]), (0, [1, 1, 1, 1])].map (toItem (Tryz.f217.body.getD .skip))) [(0, .pointer b), (2, .slice p_b p_l p_c), (7, .int .i64 d0), (8, .int .i64 w0), (9, .int .i64 i)] w := by
  obtain ⟨I, m, hBase, hr⟩ := h
  refine KW.loop (fun m σ w => ∃ (b p_b : Option Addr) (p_l p_c : Nat) (d0 w0 i : Int), σ = [(0, .pointer b), (2, .slice p_b p_l p_c), (7, .int .i64 d0), (8, .int .i64 w0), (9, .int .i64 i)] ∧ I m b p_b p_l p_c d0 w0 i w) ?_ m _ w ⟨b, p_b, p_l, p_c, d0, w0, i, rfl, hBase⟩
  rintro m ih σ w ⟨b, p_b, p_l, p_c, d0, w0, i, rfl, hI⟩
  exact seg_RecvBuf_Insert.L1b_sound  (N1 := fun b' p_b' p_l' p_c' d0' w0' i' w' => ∃ m', m' < m ∧ I m' b' p_b' p_l' p_c' d0' w0' i' w') (fun b' p_b' p_l' p_c' d0' w0' i' w' hx => by obtain ⟨m', hlt, hI'⟩ := hx; exact ih m' hlt _ w' ⟨b', p_b', p_l', p_c', d0', w0', i', rfl, hI'⟩) b p_b p_l p_c d0 w0 i w (hr m b p_b p_l p_c d0 w0 i w hI)
def seg_RecvBuf_Insert.B0 (b : Option Addr) (seq : Int) (p_b : Option Addr) (p_l p_c : Nat) (w : World)   (R : Int → World → Prop) : Prop :=
  Pn b fun a =>
  LdI .u8 (a.add 16) w fun x17 =>
  api_SeqDiff.Call seq (IntKind.i64.wrap x17) w fun r19 w1 =>
  Pn b fun a_1 =>
  LdI .i64 (a_1.add 17) w1 fun x23 =>
  seg_RecvBuf_Insert.L1 b p_b p_l p_c r19 (IntKind.i64.wrap ((16 : Int) - x23)) (0 : Int) w1  R
theorem seg_RecvBuf_Insert.B0_eq (b : Option Addr) (seq : Int) (p_b : Option Addr) (p_l p_c : Nat) (w : World)   (R : Int → World → Prop) (sL1 : Option Addr → Option Addr → Nat → Nat → Int → Int → Int → World → Prop) :
    (
  Pn b fun a =>
  LdI .u8 (a.add 16) w fun x17 =>
  api_SeqDiff.Call seq (IntKind.i64.wrap x17) w fun r19 w1 =>
  Pn b fun a_1 =>
  LdI .i64 (a_1.add 17) w1 fun x23 =>
  sL1 b p_b p_l p_c r19 (IntKind.i64.wrap ((16 : Int) - x23)) (0 : Int) w1) = kstep Tryz.prog 116 Tryz.f217.results.toList (Tryz.f217.body.getD .skip) (seg_RecvBuf_Insert.RV R) (kvc Tryz.prog 116 Tryz.f217.results.toList (Tryz.f217.body.getD .skip) (seg_RecvBuf_Insert.RV R) [([(0, [1, 1, 1, 0, 1, 0, 0]), (2, [1, 1, 1, 0, 1, 0, 0]), (1, [0]), (0, [1, 1, 1, 1])], fun σ w => dP (slotOf σ 0) fun b_ => dL (slotOf σ 2) fun p_b_ p_l_ p_c_ => dI .i64 (slotOf σ 7) fun d0_ => dI .i64 (slotOf σ 8) fun w0_ => dI .i64 (slotOf σ 9) fun i_ => sL1 b_ p_b_ p_l_ p_c_ d0_ w0_ i_ w)] 2000) [(0, [])] [(0, .pointer b), (1, .int .i64 seq), (2, .slice p_b p_l p_c)] w := by kernel_rfl
theorem seg_RecvBuf_Insert.B0_sound {R : Int → World → Prop}  (b : Option Addr) (seq : Int) (p_b : Option Addr) (p_l p_c : Nat) (w : World) (h : seg_RecvBuf_Insert.B0 b seq p_b p_l p_c w   R) :
    KW Tryz.prog 217 116 (seg_RecvBuf_Insert.RV R) ([(0, [])].map (toItem (Tryz.f217.body.getD .skip))) [(0, .pointer b), (1, .int .i64 seq), (2, .slice p_b p_l p_c)] w := by
  exact block_spec Tryz.func217 Tryz.mixed (stops_cons (fun σ w h => by
      obtain ⟨b_, e0, h⟩ := dP_elim h
      obtain ⟨p_b_, p_l_, p_c_, e1, h⟩ := dL_elim h
      obtain ⟨d0_, e2, h⟩ := dI_elim h
      obtain ⟨w0_, e3, h⟩ := dI_elim h
      obtain ⟨i_, e4, h⟩ := dI_elim h
      exact (seg_RecvBuf_Insert.L1_sound  b_ p_b_ p_l_ p_c_ d0_ w0_ i_ w h).weaken (Sub.cons (Sub.cons (Sub.cons (Sub.cons (Sub.cons (Sub.nil _) e4) e3) e2) e1) e0)) stops_nil) (Eq.mp (seg_RecvBuf_Insert.B0_eq b seq p_b p_l p_c w   R (fun b_ p_b_ p_l_ p_c_ d0_ w0_ i_ w => seg_RecvBuf_Insert.L1 b_ p_b_ p_l_ p_c_ d0_ w0_ i_ w  R)) h)
theorem seg_RecvBuf_Insert.sound (b : Option Addr) (seq : Int) (p_b : Option Addr) (p_l p_c : Nat) (w : World) (R : Int → World → Prop) (h : seg_RecvBuf_Insert.B0 b seq p_b p_l p_c w R) : seg_RecvBuf_Insert.Call b seq p_b p_l p_c w R := by
  have hc := calls_of_block (args := #[.pointer b, .int .i64 seq, .slice p_b p_l p_c]) Tryz.func217 (body := (Tryz.f217.body.getD .skip)) (by kernel_rfl) (by kernel_rfl) (args_slot _) (seg_RecvBuf_Insert.B0_sound b seq p_b p_l p_c w h)
  exact hc.mono fun e w' he => by
    obtain ⟨v, rfl, hv⟩ := he
    exact seg_RecvBuf_Insert.RV_elim hv
def seg_RecvBuf_bit.B0 (b : Option Addr) (d : Int) (w : World)   (R : Int → World → Prop) : Prop :=
  Pn b fun a =>
  LdI .u8 (a.add 16) w fun x8 =>
  (16 : Int) ≠ 0 ∧
  0 ≤ (IntKind.u64.wrap ((IntKind.i64.wrap ((IntKind.i64.wrap x8) + d)).tmod (16 : Int))) ∧
  R (IntKind.u16.wrap ((1 : Int) * 2 ^ (min (IntKind.u64.wrap ((IntKind.i64.wrap ((IntKind.i64.wrap x8) + d)).tmod (16 : Int))).toNat IntKind.u16.bits))) w
theorem seg_RecvBuf_bit.B0_eq (b : Option Addr) (d : Int) (w : World)   (R : Int → World → Prop)  :
    (
  Pn b fun a =>
  LdI .u8 (a.add 16) w fun x8 =>
  (16 : Int) ≠ 0 ∧
  0 ≤ (IntKind.u64.wrap ((IntKind.i64.wrap ((IntKind.i64.wrap x8) + d)).tmod (16 : Int))) ∧
  R (IntKind.u16.wrap ((1 : Int) * 2 ^ (min (IntKind.u64.wrap ((IntKind.i64.wrap ((IntKind.i64.wrap x8) + d)).tmod (16 : Int))).toNat IntKind.u16.bits))) w) = kstep Tryz.prog 15 Tryz.f218.results.toList (Tryz.f218.body.getD .skip) (seg_RecvBuf_bit.RV R) (kvc Tryz.prog 15 Tryz.f218.results.toList (Tryz.f218.body.getD .skip) (seg_RecvBuf_bit.RV R) [] 2000) [(0, [])] [(0, .pointer b), (1, .int .i64 d)] w := by kernel_rfl
theorem seg_RecvBuf_bit.B0_sound {R : Int → World → Prop}  (b : Option Addr) (d : Int) (w : World) (h : seg_RecvBuf_bit.B0 b d w   R) :
    KW Tryz.prog 218 15 (seg_RecvBuf_bit.RV R) ([(0, [])].map (toItem (Tryz.f218.body.getD .skip))) [(0, .pointer b), (1, .int .i64 d)] w := by
  exact block_spec Tryz.func218 Tryz.mixed stops_nil (Eq.mp (seg_RecvBuf_bit.B0_eq b d w   R ) h)
theorem seg_RecvBuf_bit.sound (b : Option Addr) (d : Int) (w : World) (R : Int → World → Prop) (h : seg_RecvBuf_bit.B0 b d w R) : seg_RecvBuf_bit.Call b d w R := by
  have hc := calls_of_block (args := #[.pointer b, .int .i64 d]) Tryz.func218 (body := (Tryz.f218.body.getD .skip)) (by kernel_rfl) (by kernel_rfl) (args_slot _) (seg_RecvBuf_bit.B0_sound b d w h)
  exact hc.mono fun e w' he => by
    obtain ⟨v, rfl, hv⟩ := he
    exact seg_RecvBuf_bit.RV_elim hv
end Go.Proofs.Qxb6500424aGreat
