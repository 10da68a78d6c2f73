import Derived.Test.Qxb6500422aGreatSig
set_option maxRecDepth 100000
set_option linter.unusedVariables false
open Go.Vc
namespace Go.Proofs.Qxb6500422aGreat
def connlaw_World_Passive.B0 (w0 : Option Addr) (c iss s_0 s_1 s_2 s_3 s_4 s_5 : Int) (s_6_b : Option Addr) (s_6_l s_6_c : Nat) (w : World)   (R : Bool → World → Prop) : Prop :=
  New (.cells #[.int .i64 s_0, .int .i64 s_1, .int .i64 s_2, .int .i64 s_3, .int .i64 s_4, .int .i64 s_5, .slice s_6_b s_6_l s_6_c] 45) w fun s_ w1 =>
  LdI .i64 ⟨s_, 0, none⟩ w1 fun x15_0 =>
  LdI .i64 ⟨s_, 1, none⟩ w1 fun x15_1 =>
  LdI .i64 ⟨s_, 2, none⟩ w1 fun x15_2 =>
  LdI .i64 ⟨s_, 3, none⟩ w1 fun x15_3 =>
  LdI .i64 ⟨s_, 4, none⟩ w1 fun x15_4 =>
  LdI .i64 ⟨s_, 5, none⟩ w1 fun x15_5 =>
  LdL ⟨s_, 6, none⟩ w1 fun x15_6_b x15_6_l x15_6_c =>
  connlaw_CopySeg.Call x15_0 x15_1 x15_2 x15_3 x15_4 x15_5 x15_6_b x15_6_l x15_6_c w1 fun r16_0 r16_1 r16_2 r16_3 r16_4 r16_5 r16_6_b r16_6_l r16_6_c w2 =>
  New (.cells #[.int .i64 (0 : Int), .int .i64 (0 : Int), .int .i64 (0 : Int), .int .i64 (0 : Int), .int .i64 (0 : Int), .int .i64 (0 : Int), .slice none 0 0] 45) w2 fun s1_ w3 =>
  Sts [.int .i64 r16_0, .int .i64 r16_1, .int .i64 r16_2, .int .i64 r16_3, .int .i64 r16_4, .int .i64 r16_5, .slice r16_6_b r16_6_l r16_6_c] ⟨s1_, 0, none⟩ 0 w3 fun w4 =>
  LdI .i64 ⟨s_, 0, none⟩ w4 fun x17_0 =>
  LdI .i64 ⟨s_, 1, none⟩ w4 fun x17_1 =>
  LdI .i64 ⟨s_, 2, none⟩ w4 fun x17_2 =>
  LdI .i64 ⟨s_, 3, none⟩ w4 fun x17_3 =>
  LdI .i64 ⟨s_, 4, none⟩ w4 fun x17_4 =>
  LdI .i64 ⟨s_, 5, none⟩ w4 fun x17_5 =>
  LdL ⟨s_, 6, none⟩ w4 fun x17_6_b x17_6_l x17_6_c =>
  connlaw_CopySeg.Call x17_0 x17_1 x17_2 x17_3 x17_4 x17_5 x17_6_b x17_6_l x17_6_c w4 fun r18_0 r18_1 r18_2 r18_3 r18_4 r18_5 r18_6_b r18_6_l r18_6_c w5 =>
  New (.cells #[.int .i64 (0 : Int), .int .i64 (0 : Int), .int .i64 (0 : Int), .int .i64 (0 : Int), .int .i64 (0 : Int), .int .i64 (0 : Int), .slice none 0 0] 45) w5 fun s2_ w6 =>
  Sts [.int .i64 r18_0, .int .i64 r18_1, .int .i64 r18_2, .int .i64 r18_3, .int .i64 r18_4, .int .i64 r18_5, .slice r18_6_b r18_6_l r18_6_c] ⟨s2_, 0, none⟩ 0 w6 fun w7 =>
  Pn w0 fun a =>
  (0 ≤ c ∧ c < ((2 : Nat) : Int)) ∧
  LdP (Addr.add a (c.toNat * 1)) w7.drew fun x25 =>
  LdI .i64 ⟨s1_, 0, none⟩ w7.drew fun x27_0 =>
  LdI .i64 ⟨s1_, 1, none⟩ w7.drew fun x27_1 =>
  LdI .i64 ⟨s1_, 2, none⟩ w7.drew fun x27_2 =>
  LdI .i64 ⟨s1_, 3, none⟩ w7.drew fun x27_3 =>
  LdI .i64 ⟨s1_, 4, none⟩ w7.drew fun x27_4 =>
  LdI .i64 ⟨s1_, 5, none⟩ w7.drew fun x27_5 =>
  LdL ⟨s1_, 6, none⟩ w7.drew fun x27_6_b x27_6_l x27_6_c =>
  conn_Conn_OpenPassive.Call x25 iss x27_0 x27_1 x27_2 x27_3 x27_4 x27_5 x27_6_b x27_6_l x27_6_c w7.drew fun r28_0_b r28_0_l r28_0_c r28_1 w8 =>
  Pn w0 fun a_1 =>
  (0 ≤ c ∧ c < ((2 : Nat) : Int)) ∧
  LdP (Addr.add (a_1.add 2) (c.toNat * 1)) w8.drew fun x37 =>
  LdI .i64 ⟨s2_, 0, none⟩ w8.drew fun x39_0 =>
  LdI .i64 ⟨s2_, 1, none⟩ w8.drew fun x39_1 =>
  LdI .i64 ⟨s2_, 2, none⟩ w8.drew fun x39_2 =>
  LdI .i64 ⟨s2_, 3, none⟩ w8.drew fun x39_3 =>
  LdI .i64 ⟨s2_, 4, none⟩ w8.drew fun x39_4 =>
  LdI .i64 ⟨s2_, 5, none⟩ w8.drew fun x39_5 =>
  LdL ⟨s2_, 6, none⟩ w8.drew fun x39_6_b x39_6_l x39_6_c =>
  connm_Conn_OpenPassive.Call x37 iss x39_0 x39_1 x39_2 x39_3 x39_4 x39_5 x39_6_b x39_6_l x39_6_c w8.drew fun r40_0_b r40_0_l r40_0_c r40_1 w9 =>
  LdL ⟨s1_, 6, none⟩ w9 fun x44_b x44_l x44_c =>
  connlaw_Scribble.Call x44_b x44_l x44_c w9 fun w10 =>
  Bm (r28_1 != r40_1) (
    R false w10) (
    connlaw_World_Out.Call w0 r28_0_b r28_0_l r28_0_c r40_0_b r40_0_l r40_0_c w10 fun r52 w11 =>
    R r52 w11)
theorem connlaw_World_Passive.B0_eq (w0 : Option Addr) (c iss s_0 s_1 s_2 s_3 s_4 s_5 : Int) (s_6_b : Option Addr) (s_6_l s_6_c : Nat) (w : World)   (R : Bool → World → Prop)  :
    (
  New (.cells #[.int .i64 s_0, .int .i64 s_1, .int .i64 s_2, .int .i64 s_3, .int .i64 s_4, .int .i64 s_5, .slice s_6_b s_6_l s_6_c] 45) w fun s_ w1 =>
  LdI .i64 ⟨s_, 0, none⟩ w1 fun x15_0 =>
  LdI .i64 ⟨s_, 1, none⟩ w1 fun x15_1 =>
  LdI .i64 ⟨s_, 2, none⟩ w1 fun x15_2 =>
  LdI .i64 ⟨s_, 3, none⟩ w1 fun x15_3 =>
  LdI .i64 ⟨s_, 4, none⟩ w1 fun x15_4 =>
  LdI .i64 ⟨s_, 5, none⟩ w1 fun x15_5 =>
  LdL ⟨s_, 6, none⟩ w1 fun x15_6_b x15_6_l x15_6_c =>
  connlaw_CopySeg.Call x15_0 x15_1 x15_2 x15_3 x15_4 x15_5 x15_6_b x15_6_l x15_6_c w1 fun r16_0 r16_1 r16_2 r16_3 r16_4 r16_5 r16_6_b r16_6_l r16_6_c w2 =>
  New (.cells #[.int .i64 (0 : Int), .int .i64 (0 : Int), .int .i64 (0 : Int), .int .i64 (0 : Int), .int .i64 (0 : Int), .int .i64 (0 : Int), .slice none 0 0] 45) w2 fun s1_ w3 =>
  Sts [.int .i64 r16_0, .int .i64 r16_1, .int .i64 r16_2, .int .i64 r16_3, .int .i64 r16_4, .int .i64 r16_5, .slice r16_6_b r16_6_l r16_6_c] ⟨s1_, 0, none⟩ 0 w3 fun w4 =>
  LdI .i64 ⟨s_, 0, none⟩ w4 fun x17_0 =>
  LdI .i64 ⟨s_, 1, none⟩ w4 fun x17_1 =>
  LdI .i64 ⟨s_, 2, none⟩ w4 fun x17_2 =>
  LdI .i64 ⟨s_, 3, none⟩ w4 fun x17_3 =>
  LdI .i64 ⟨s_, 4, none⟩ w4 fun x17_4 =>
  LdI .i64 ⟨s_, 5, none⟩ w4 fun x17_5 =>
  LdL ⟨s_, 6, none⟩ w4 fun x17_6_b x17_6_l x17_6_c =>
  connlaw_CopySeg.Call x17_0 x17_1 x17_2 x17_3 x17_4 x17_5 x17_6_b x17_6_l x17_6_c w4 fun r18_0 r18_1 r18_2 r18_3 r18_4 r18_5 r18_6_b r18_6_l r18_6_c w5 =>
  New (.cells #[.int .i64 (0 : Int), .int .i64 (0 : Int), .int .i64 (0 : Int), .int .i64 (0 : Int), .int .i64 (0 : Int), .int .i64 (0 : Int), .slice none 0 0] 45) w5 fun s2_ w6 =>
  Sts [.int .i64 r18_0, .int .i64 r18_1, .int .i64 r18_2, .int .i64 r18_3, .int .i64 r18_4, .int .i64 r18_5, .slice r18_6_b r18_6_l r18_6_c] ⟨s2_, 0, none⟩ 0 w6 fun w7 =>
  Pn w0 fun a =>
  (0 ≤ c ∧ c < ((2 : Nat) : Int)) ∧
  LdP (Addr.add a (c.toNat * 1)) w7.drew fun x25 =>
  LdI .i64 ⟨s1_, 0, none⟩ w7.drew fun x27_0 =>
  LdI .i64 ⟨s1_, 1, none⟩ w7.drew fun x27_1 =>
  LdI .i64 ⟨s1_, 2, none⟩ w7.drew fun x27_2 =>
  LdI .i64 ⟨s1_, 3, none⟩ w7.drew fun x27_3 =>
  LdI .i64 ⟨s1_, 4, none⟩ w7.drew fun x27_4 =>
  LdI .i64 ⟨s1_, 5, none⟩ w7.drew fun x27_5 =>
  LdL ⟨s1_, 6, none⟩ w7.drew fun x27_6_b x27_6_l x27_6_c =>
  conn_Conn_OpenPassive.Call x25 iss x27_0 x27_1 x27_2 x27_3 x27_4 x27_5 x27_6_b x27_6_l x27_6_c w7.drew fun r28_0_b r28_0_l r28_0_c r28_1 w8 =>
  Pn w0 fun a_1 =>
  (0 ≤ c ∧ c < ((2 : Nat) : Int)) ∧
  LdP (Addr.add (a_1.add 2) (c.toNat * 1)) w8.drew fun x37 =>
  LdI .i64 ⟨s2_, 0, none⟩ w8.drew fun x39_0 =>
  LdI .i64 ⟨s2_, 1, none⟩ w8.drew fun x39_1 =>
  LdI .i64 ⟨s2_, 2, none⟩ w8.drew fun x39_2 =>
  LdI .i64 ⟨s2_, 3, none⟩ w8.drew fun x39_3 =>
  LdI .i64 ⟨s2_, 4, none⟩ w8.drew fun x39_4 =>
  LdI .i64 ⟨s2_, 5, none⟩ w8.drew fun x39_5 =>
  LdL ⟨s2_, 6, none⟩ w8.drew fun x39_6_b x39_6_l x39_6_c =>
  connm_Conn_OpenPassive.Call x37 iss x39_0 x39_1 x39_2 x39_3 x39_4 x39_5 x39_6_b x39_6_l x39_6_c w8.drew fun r40_0_b r40_0_l r40_0_c r40_1 w9 =>
  LdL ⟨s1_, 6, none⟩ w9 fun x44_b x44_l x44_c =>
  connlaw_Scribble.Call x44_b x44_l x44_c w9 fun w10 =>
  Bm (r28_1 != r40_1) (
    R false w10) (
    connlaw_World_Out.Call w0 r28_0_b r28_0_l r28_0_c r40_0_b r40_0_l r40_0_c w10 fun r52 w11 =>
    R r52 w11)) = kstep Tryz.prog 53 Tryz.f37.results.toList (Tryz.f37.body.getD .skip) (connlaw_World_Passive.RV R) (kvc Tryz.prog 53 Tryz.f37.results.toList (Tryz.f37.body.getD .skip) (connlaw_World_Passive.RV R) [] 2000) [(0, [])] [(0, .pointer w0), (1, .int .i64 c), (2, .int .i64 iss), (3, .agg #[.int .i64 s_0, .int .i64 s_1, .int .i64 s_2, .int .i64 s_3, .int .i64 s_4, .int .i64 s_5, .slice s_6_b s_6_l s_6_c])] w := by kernel_rfl
theorem connlaw_World_Passive.B0_sound {R : Bool → World → Prop}  (w0 : Option Addr) (c iss s_0 s_1 s_2 s_3 s_4 s_5 : Int) (s_6_b : Option Addr) (s_6_l s_6_c : Nat) (w : World) (h : connlaw_World_Passive.B0 w0 c iss s_0 s_1 s_2 s_3 s_4 s_5 s_6_b s_6_l s_6_c w   R) :
    KW Tryz.prog 37 53 (connlaw_World_Passive.RV R) ([(0, [])].map (toItem (Tryz.f37.body.getD .skip))) [(0, .pointer w0), (1, .int .i64 c), (2, .int .i64 iss), (3, .agg #[.int .i64 s_0, .int .i64 s_1, .int .i64 s_2, .int .i64 s_3, .int .i64 s_4, .int .i64 s_5, .slice s_6_b s_6_l s_6_c])] w := by
  exact block_spec Tryz.func37 Tryz.mixed stops_nil (Eq.mp (connlaw_World_Passive.B0_eq w0 c iss s_0 s_1 s_2 s_3 s_4 s_5 s_6_b s_6_l s_6_c w   R ) h)
theorem connlaw_World_Passive.sound (w0 : Option Addr) (c iss s_0 s_1 s_2 s_3 s_4 s_5 : Int) (s_6_b : Option Addr) (s_6_l s_6_c : Nat) (w : World) (R : Bool → World → Prop) (h : connlaw_World_Passive.B0 w0 c iss s_0 s_1 s_2 s_3 s_4 s_5 s_6_b s_6_l s_6_c w R) : connlaw_World_Passive.Call w0 c iss s_0 s_1 s_2 s_3 s_4 s_5 s_6_b s_6_l s_6_c w R := by
  have hc := calls_of_block (args := #[.pointer w0, .int .i64 c, .int .i64 iss, .agg #[.int .i64 s_0, .int .i64 s_1, .int .i64 s_2, .int .i64 s_3, .int .i64 s_4, .int .i64 s_5, .slice s_6_b s_6_l s_6_c]]) Tryz.func37 (body := (Tryz.f37.body.getD .skip)) (by kernel_rfl) (by kernel_rfl) (args_slot _) (connlaw_World_Passive.B0_sound w0 c iss s_0 s_1 s_2 s_3 s_4 s_5 s_6_b s_6_l s_6_c w h)
  exact hc.mono fun e w' he => by
    obtain ⟨v, rfl, hv⟩ := he
    exact connlaw_World_Passive.RV_elim hv
def conn_Conn_Tick.B1 (c out_b : Option Addr) (out_l out_c : Nat) (w : World)   (R : Option Addr → Nat → Nat → World → Prop) : Prop :=
  Pn c fun a =>
  LdI .i64 (a.add 13) w fun x33 =>
  Bm (x33 == (0 : Int)) (
    Pn c fun a_1 =>
    LdP (a_1.add 1) w fun x38 =>
    seg_RecvBuf_Avail.Call x38 w fun r39 w1 =>
    Bm (r39 == (0 : Int)) (
      conn_Conn_wipe.Call c w1 fun w2 =>
      R out_b out_l out_c w2) (
      R out_b out_l out_c w1)) (
    R out_b out_l out_c w)
theorem conn_Conn_Tick.B1_eq (c out_b : Option Addr) (out_l out_c : Nat) (w : World)   (R : Option Addr → Nat → Nat → World → Prop)  :
    (
  Pn c fun a =>
  LdI .i64 (a.add 13) w fun x33 =>
  Bm (x33 == (0 : Int)) (
    Pn c fun a_1 =>
    LdP (a_1.add 1) w fun x38 =>
    seg_RecvBuf_Avail.Call x38 w fun r39 w1 =>
    Bm (r39 == (0 : Int)) (
      conn_Conn_wipe.Call c w1 fun w2 =>
      R out_b out_l out_c w2) (
      R out_b out_l out_c w1)) (
    R out_b out_l out_c w)) = kstep Tryz.prog 92 Tryz.f38.results.toList (Tryz.f38.body.getD .skip) (conn_Conn_Tick.RV R) (kvc Tryz.prog 92 Tryz.f38.results.toList (Tryz.f38.body.getD .skip) (conn_Conn_Tick.RV R) [] 2000) [(0, [1, 1, 1, 0, 1, 0, 1]), (0, [1, 1, 1, 1])] [(0, .pointer c), (3, .slice out_b out_l out_c)] w := by kernel_rfl
theorem conn_Conn_Tick.B1_sound {R : Option Addr → Nat → Nat → World → Prop}  (c out_b : Option Addr) (out_l out_c : Nat) (w : World) (h : conn_Conn_Tick.B1 c out_b out_l out_c w   R) :
    KW Tryz.prog 38 92 (conn_Conn_Tick.RV R) ([(0, [1, 1, 1, 0, 1, 0, 1]), (0, [1, 1, 1, 1])].map (toItem (Tryz.f38.body.getD .skip))) [(0, .pointer c), (3, .slice out_b out_l out_c)] w := by
  exact block_spec Tryz.func38 Tryz.mixed stops_nil (Eq.mp (conn_Conn_Tick.B1_eq c out_b out_l out_c w   R ) h)
def conn_Conn_Tick.B2 (c out_b : Option Addr) (out_l out_c : Nat) (w : World)   (R : Option Addr → Nat → Nat → World → Prop) : Prop :=
  conn_Conn_pump.Call c w fun r88_b r88_l r88_c w1 =>
  Append 45 (.agg #[.int .i64 (0 : Int), .int .i64 (0 : Int), .int .i64 (0 : Int), .int .i64 (0 : Int), .int .i64 (0 : Int), .int .i64 (0 : Int), .slice none 0 0]) 7 72 out_b out_l out_c r88_b r88_l w1 fun b91 c91 w2 =>
  R b91 (out_l + r88_l) c91 w2
theorem conn_Conn_Tick.B2_eq (c out_b : Option Addr) (out_l out_c : Nat) (w : World)   (R : Option Addr → Nat → Nat → World → Prop)  :
    (
  conn_Conn_pump.Call c w fun r88_b r88_l r88_c w1 =>
  Append 45 (.agg #[.int .i64 (0 : Int), .int .i64 (0 : Int), .int .i64 (0 : Int), .int .i64 (0 : Int), .int .i64 (0 : Int), .int .i64 (0 : Int), .slice none 0 0]) 7 72 out_b out_l out_c r88_b r88_l w1 fun b91 c91 w2 =>
  R b91 (out_l + r88_l) c91 w2) = kstep Tryz.prog 92 Tryz.f38.results.toList (Tryz.f38.body.getD .skip) (conn_Conn_Tick.RV R) (kvc Tryz.prog 92 Tryz.f38.results.toList (Tryz.f38.body.getD .skip) (conn_Conn_Tick.RV R) [] 2000) [(0, [1, 1, 1, 1, 1, 1])] [(0, .pointer c), (3, .slice out_b out_l out_c)] w := by kernel_rfl
theorem conn_Conn_Tick.B2_sound {R : Option Addr → Nat → Nat → World → Prop}  (c out_b : Option Addr) (out_l out_c : Nat) (w : World) (h : conn_Conn_Tick.B2 c out_b out_l out_c w   R) :
    KW Tryz.prog 38 92 (conn_Conn_Tick.RV R) ([(0, [1, 1, 1, 1, 1, 1])].map (toItem (Tryz.f38.body.getD .skip))) [(0, .pointer c), (3, .slice out_b out_l out_c)] w := by
  exact block_spec Tryz.func38 Tryz.mixed stops_nil (Eq.mp (conn_Conn_Tick.B2_eq c out_b out_l out_c w   R ) h)
def conn_Conn_Tick.B0 (c : Option Addr) (w : World)   (R : Option Addr → Nat → Nat → World → Prop) : Prop :=
  New (.cells #[] 45) w fun b6 w1 =>
  Pn c fun a =>
  LdI .i64 (a.add 2) w1 fun x10 =>
  Bm (x10 == (0 : Int)) (
    R (some ⟨b6, 0, none⟩) 0 0 w1) (
    Pn c fun a_1 =>
    LdI .i64 (a_1.add 2) w1 fun x16 =>
    Bm (x16 == (4 : Int)) (
      Pn c fun a_2 =>
      LdI .i64 (a_2.add 13) w1 fun x21 =>
      Bm (decide (x21 > (0 : Int))) (
        Pn c fun a_3 =>
        LdI .i64 (a_3.add 13) w1 fun x26 =>
        Pn c fun a_4 =>
        Sts [.int .i64 (IntKind.i64.wrap (x26 - (1 : Int)))] (a_4.add 13) 0 w1 fun w2 =>
        conn_Conn_Tick.B1 c (some ⟨b6, 0, none⟩) 0 0 w2  R) (
        conn_Conn_Tick.B1 c (some ⟨b6, 0, none⟩) 0 0 w1  R)) (
      Pn c fun a_5 =>
      Sts [.int .i64 (12 : Int)] (a_5.add 12) 0 w1 fun w3 =>
      Pn c fun a_6 =>
      LdI .i64 (a_6.add 10) w3 fun x50 =>
      Bm (decide (x50 > (0 : Int))) (
        Pn c fun a_7 =>
        LdI .i64 (a_7.add 10) w3 fun x55 =>
        Pn c fun a_8 =>
        Sts [.int .i64 (IntKind.i64.wrap (x55 - (1 : Int)))] (a_8.add 10) 0 w3 fun w4 =>
        Pn c fun a_9 =>
        LdI .i64 (a_9.add 10) w4 fun x62 =>
        Bm (x62 == (0 : Int)) (
          Pn c fun a_10 =>
          LdI .i64 (a_10.add 11) w4 fun x67 =>
          Bm (x67 == (3 : Int)) (
            conn_Conn_fail.Call c (19 : Int) w4 fun w5 =>
            R (some ⟨b6, 0, none⟩) 0 0 w5) (
            Pn c fun a_11 =>
            LdI .i64 (a_11.add 11) w4 fun x75 =>
            Pn c fun a_12 =>
            Sts [.int .i64 (IntKind.i64.wrap (x75 + (1 : Int)))] (a_12.add 11) 0 w4 fun w6 =>
            conn_Conn_arm.Call c w6 fun w7 =>
            conn_Conn_again.Call c w7 fun r82_0 r82_1 r82_2 r82_3 r82_4 r82_5 r82_6_b r82_6_l r82_6_c w8 =>
            New (.cells #[.int .i64 (0 : Int), .int .i64 (0 : Int), .int .i64 (0 : Int), .int .i64 (0 : Int), .int .i64 (0 : Int), .int .i64 (0 : Int), .slice none 0 0] 45) w8 fun s_ w9 =>
            Sts [.int .i64 r82_0, .int .i64 r82_1, .int .i64 r82_2, .int .i64 r82_3, .int .i64 r82_4, .int .i64 r82_5, .slice r82_6_b r82_6_l r82_6_c] ⟨s_, 0, none⟩ 0 w9 fun w10 =>
            LdI .i64 ⟨s_, 0, none⟩ w10 fun x84_0 =>
            LdI .i64 ⟨s_, 1, none⟩ w10 fun x84_1 =>
            LdI .i64 ⟨s_, 2, none⟩ w10 fun x84_2 =>
            LdI .i64 ⟨s_, 3, none⟩ w10 fun x84_3 =>
            LdI .i64 ⟨s_, 4, none⟩ w10 fun x84_4 =>
            LdI .i64 ⟨s_, 5, none⟩ w10 fun x84_5 =>
            LdL ⟨s_, 6, none⟩ w10 fun x84_6_b x84_6_l x84_6_c =>
            New (.cells #[.int .i64 x84_0, .int .i64 x84_1, .int .i64 x84_2, .int .i64 x84_3, .int .i64 x84_4, .int .i64 x84_5, .slice x84_6_b x84_6_l x84_6_c] 45) w10 fun b85 w11 =>
            Append 45 (.agg #[.int .i64 (0 : Int), .int .i64 (0 : Int), .int .i64 (0 : Int), .int .i64 (0 : Int), .int .i64 (0 : Int), .int .i64 (0 : Int), .slice none 0 0]) 7 72 (some ⟨b6, 0, none⟩) 0 0 (some ⟨b85, 0, none⟩) 1 w11 fun b86 c86 w12 =>
            conn_Conn_Tick.B2 c b86 (0 + 1) c86 w12  R)) (
          conn_Conn_Tick.B2 c (some ⟨b6, 0, none⟩) 0 0 w4  R)) (
        conn_Conn_Tick.B2 c (some ⟨b6, 0, none⟩) 0 0 w3  R)))
theorem conn_Conn_Tick.B0_eq (c : Option Addr) (w : World)   (R : Option Addr → Nat → Nat → World → Prop) (sB1 : Option Addr → Option Addr → Nat → Nat → World → Prop) (sB2 : Option Addr → Option Addr → Nat → Nat → World → Prop) :
    (
  New (.cells #[] 45) w fun b6 w1 =>
  Pn c fun a =>
  LdI .i64 (a.add 2) w1 fun x10 =>
  Bm (x10 == (0 : Int)) (
    R (some ⟨b6, 0, none⟩) 0 0 w1) (
    Pn c fun a_1 =>
    LdI .i64 (a_1.add 2) w1 fun x16 =>
    Bm (x16 == (4 : Int)) (
      Pn c fun a_2 =>
      LdI .i64 (a_2.add 13) w1 fun x21 =>
      Bm (decide (x21 > (0 : Int))) (
        Pn c fun a_3 =>
        LdI .i64 (a_3.add 13) w1 fun x26 =>
        Pn c fun a_4 =>
        Sts [.int .i64 (IntKind.i64.wrap (x26 - (1 : Int)))] (a_4.add 13) 0 w1 fun w2 =>
        sB1 c (some ⟨b6, 0, none⟩) 0 0 w2) (
        sB1 c (some ⟨b6, 0, none⟩) 0 0 w1)) (
      Pn c fun a_5 =>
      Sts [.int .i64 (12 : Int)] (a_5.add 12) 0 w1 fun w3 =>
      Pn c fun a_6 =>
      LdI .i64 (a_6.add 10) w3 fun x50 =>
      Bm (decide (x50 > (0 : Int))) (
        Pn c fun a_7 =>
        LdI .i64 (a_7.add 10) w3 fun x55 =>
        Pn c fun a_8 =>
        Sts [.int .i64 (IntKind.i64.wrap (x55 - (1 : Int)))] (a_8.add 10) 0 w3 fun w4 =>
        Pn c fun a_9 =>
        LdI .i64 (a_9.add 10) w4 fun x62 =>
        Bm (x62 == (0 : Int)) (
          Pn c fun a_10 =>
          LdI .i64 (a_10.add 11) w4 fun x67 =>
          Bm (x67 == (3 : Int)) (
            conn_Conn_fail.Call c (19 : Int) w4 fun w5 =>
            R (some ⟨b6, 0, none⟩) 0 0 w5) (
            Pn c fun a_11 =>
            LdI .i64 (a_11.add 11) w4 fun x75 =>
            Pn c fun a_12 =>
            Sts [.int .i64 (IntKind.i64.wrap (x75 + (1 : Int)))] (a_12.add 11) 0 w4 fun w6 =>
            conn_Conn_arm.Call c w6 fun w7 =>
            conn_Conn_again.Call c w7 fun r82_0 r82_1 r82_2 r82_3 r82_4 r82_5 r82_6_b r82_6_l r82_6_c w8 =>
            New (.cells #[.int .i64 (0 : Int), .int .i64 (0 : Int), .int .i64 (0 : Int), .int .i64 (0 : Int), .int .i64 (0 : Int), .int .i64 (0 : Int), .slice none 0 0] 45) w8 fun s_ w9 =>
            Sts [.int .i64 r82_0, .int .i64 r82_1, .int .i64 r82_2, .int .i64 r82_3, .int .i64 r82_4, .int .i64 r82_5, .slice r82_6_b r82_6_l r82_6_c] ⟨s_, 0, none⟩ 0 w9 fun w10 =>
            LdI .i64 ⟨s_, 0, none⟩ w10 fun x84_0 =>
            LdI .i64 ⟨s_, 1, none⟩ w10 fun x84_1 =>
            LdI .i64 ⟨s_, 2, none⟩ w10 fun x84_2 =>
            LdI .i64 ⟨s_, 3, none⟩ w10 fun x84_3 =>
            LdI .i64 ⟨s_, 4, none⟩ w10 fun x84_4 =>
            LdI .i64 ⟨s_, 5, none⟩ w10 fun x84_5 =>
            LdL ⟨s_, 6, none⟩ w10 fun x84_6_b x84_6_l x84_6_c =>
            New (.cells #[.int .i64 x84_0, .int .i64 x84_1, .int .i64 x84_2, .int .i64 x84_3, .int .i64 x84_4, .int .i64 x84_5, .slice x84_6_b x84_6_l x84_6_c] 45) w10 fun b85 w11 =>
            Append 45 (.agg #[.int .i64 (0 : Int), .int .i64 (0 : Int), .int .i64 (0 : Int), .int .i64 (0 : Int), .int .i64 (0 : Int), .int .i64 (0 : Int), .slice none 0 0]) 7 72 (some ⟨b6, 0, none⟩) 0 0 (some ⟨b85, 0, none⟩) 1 w11 fun b86 c86 w12 =>
            sB2 c b86 (0 + 1) c86 w12)) (
          sB2 c (some ⟨b6, 0, none⟩) 0 0 w4)) (
        sB2 c (some ⟨b6, 0, none⟩) 0 0 w3)))) = kstep Tryz.prog 92 Tryz.f38.results.toList (Tryz.f38.body.getD .skip) (conn_Conn_Tick.RV R) (kvc Tryz.prog 92 Tryz.f38.results.toList (Tryz.f38.body.getD .skip) (conn_Conn_Tick.RV R) [([(0, [1, 1, 1, 0, 1, 0, 1]), (0, [1, 1, 1, 1])], fun σ w => dP (slotOf σ 0) fun c_ => dL (slotOf σ 3) fun out_b_ out_l_ out_c_ => sB1 c_ out_b_ out_l_ out_c_ w),
    ([(0, [1, 1, 1, 1, 1, 1])], fun σ w => dP (slotOf σ 0) fun c_ => dL (slotOf σ 3) fun out_b_ out_l_ out_c_ => sB2 c_ out_b_ out_l_ out_c_ w)] 2000) [(0, [])] [(0, .pointer c)] w := by kernel_rfl
theorem conn_Conn_Tick.B0_sound {R : Option Addr → Nat → Nat → World → Prop}  (c : Option Addr) (w : World) (h : conn_Conn_Tick.B0 c w   R) :
    KW Tryz.prog 38 92 (conn_Conn_Tick.RV R) ([(0, [])].map (toItem (Tryz.f38.body.getD .skip))) [(0, .pointer c)] w := by
  exact block_spec Tryz.func38 Tryz.mixed (stops_cons (fun σ w h => by
      obtain ⟨c_, e0, h⟩ := dP_elim h
      obtain ⟨out_b_, out_l_, out_c_, e1, h⟩ := dL_elim h
      exact (conn_Conn_Tick.B1_sound  c_ out_b_ out_l_ out_c_ w h).weaken (Sub.cons (Sub.cons (Sub.nil _) e1) e0)) (stops_cons (fun σ w h => by
      obtain ⟨c_, e0, h⟩ := dP_elim h
      obtain ⟨out_b_, out_l_, out_c_, e1, h⟩ := dL_elim h
      exact (conn_Conn_Tick.B2_sound  c_ out_b_ out_l_ out_c_ w h).weaken (Sub.cons (Sub.cons (Sub.nil _) e1) e0)) stops_nil)) (Eq.mp (conn_Conn_Tick.B0_eq c w   R (fun c_ out_b_ out_l_ out_c_ w => conn_Conn_Tick.B1 c_ out_b_ out_l_ out_c_ w  R) (fun c_ out_b_ out_l_ out_c_ w => conn_Conn_Tick.B2 c_ out_b_ out_l_ out_c_ w  R)) h)
theorem conn_Conn_Tick.sound (c : Option Addr) (w : World) (R : Option Addr → Nat → Nat → World → Prop) (h : conn_Conn_Tick.B0 c w R) : conn_Conn_Tick.Call c w R := by
  have hc := calls_of_block (args := #[.pointer c]) Tryz.func38 (body := (Tryz.f38.body.getD .skip)) (by kernel_rfl) (by kernel_rfl) (args_slot _) (conn_Conn_Tick.B0_sound c w h)
  exact hc.mono fun e w' he => by
    obtain ⟨v, rfl, hv⟩ := he
    exact conn_Conn_Tick.RV_elim hv
def connm_Conn_Tick.B3 (c out_b : Option Addr) (out_l out_c : Nat) (t40 : Bool) (w : World)   (R : Option Addr → Nat → Nat → World → Prop) : Prop :=
  Bm t40 (
    connm_Conn_wipe.Call c w fun w1 =>
    R out_b out_l out_c w1) (
    R out_b out_l out_c w)
theorem connm_Conn_Tick.B3_eq (c out_b : Option Addr) (out_l out_c : Nat) (t40 : Bool) (w : World)   (R : Option Addr → Nat → Nat → World → Prop)  :
    (
  Bm t40 (
    connm_Conn_wipe.Call c w fun w1 =>
    R out_b out_l out_c w1) (
    R out_b out_l out_c w)) = kstep Tryz.prog 90 Tryz.f39.results.toList (Tryz.f39.body.getD .skip) (connm_Conn_Tick.RV R) (kvc Tryz.prog 90 Tryz.f39.results.toList (Tryz.f39.body.getD .skip) (connm_Conn_Tick.RV R) [] 2000) [(0, [1, 1, 1, 0, 1, 0, 1, 0, 1]), (0, [1, 1, 1, 0, 1, 0, 1, 1]), (0, [1, 1, 1, 1])] [(0, .pointer c), (3, .slice out_b out_l out_c), (40, .bool t40)] w := by kernel_rfl
theorem connm_Conn_Tick.B3_sound {R : Option Addr → Nat → Nat → World → Prop}  (c out_b : Option Addr) (out_l out_c : Nat) (t40 : Bool) (w : World) (h : connm_Conn_Tick.B3 c out_b out_l out_c t40 w   R) :
    KW Tryz.prog 39 90 (connm_Conn_Tick.RV R) ([(0, [1, 1, 1, 0, 1, 0, 1, 0, 1]), (0, [1, 1, 1, 0, 1, 0, 1, 1]), (0, [1, 1, 1, 1])].map (toItem (Tryz.f39.body.getD .skip))) [(0, .pointer c), (3, .slice out_b out_l out_c), (40, .bool t40)] w := by
  exact block_spec Tryz.func39 Tryz.mixed stops_nil (Eq.mp (connm_Conn_Tick.B3_eq c out_b out_l out_c t40 w   R ) h)
def connm_Conn_Tick.B1 (c out_b : Option Addr) (out_l out_c : Nat) (w : World)   (R : Option Addr → Nat → Nat → World → Prop) : Prop :=
  Pn c fun a =>
  LdI .i64 (a.add 48) w fun x31 =>
  Bm (x31 == (0 : Int)) (
    Pn c fun a_1 =>
    LdL (a_1.add 11) w fun x37_b x37_l x37_c =>
    connm_Conn_Tick.B3 c out_b out_l out_c (((x37_l : Nat) : Int) == (0 : Int)) w  R) (
    connm_Conn_Tick.B3 c out_b out_l out_c false w  R)
theorem connm_Conn_Tick.B1_eq (c out_b : Option Addr) (out_l out_c : Nat) (w : World)   (R : Option Addr → Nat → Nat → World → Prop) (sB3 : Option Addr → Option Addr → Nat → Nat → Bool → World → Prop) :
    (
  Pn c fun a =>
  LdI .i64 (a.add 48) w fun x31 =>
  Bm (x31 == (0 : Int)) (
    Pn c fun a_1 =>
    LdL (a_1.add 11) w fun x37_b x37_l x37_c =>
    sB3 c out_b out_l out_c (((x37_l : Nat) : Int) == (0 : Int)) w) (
    sB3 c out_b out_l out_c false w)) = kstep Tryz.prog 90 Tryz.f39.results.toList (Tryz.f39.body.getD .skip) (connm_Conn_Tick.RV R) (kvc Tryz.prog 90 Tryz.f39.results.toList (Tryz.f39.body.getD .skip) (connm_Conn_Tick.RV R) [([(0, [1, 1, 1, 0, 1, 0, 1, 0, 1]), (0, [1, 1, 1, 0, 1, 0, 1, 1]), (0, [1, 1, 1, 1])], fun σ w => dP (slotOf σ 0) fun c_ => dL (slotOf σ 3) fun out_b_ out_l_ out_c_ => dB (slotOf σ 40) fun t40_ => sB3 c_ out_b_ out_l_ out_c_ t40_ w)] 2000) [(0, [1, 1, 1, 0, 1, 0, 1]), (0, [1, 1, 1, 1])] [(0, .pointer c), (3, .slice out_b out_l out_c)] w := by kernel_rfl
theorem connm_Conn_Tick.B1_sound {R : Option Addr → Nat → Nat → World → Prop}  (c out_b : Option Addr) (out_l out_c : Nat) (w : World) (h : connm_Conn_Tick.B1 c out_b out_l out_c w   R) :
    KW Tryz.prog 39 90 (connm_Conn_Tick.RV R) ([(0, [1, 1, 1, 0, 1, 0, 1]), (0, [1, 1, 1, 1])].map (toItem (Tryz.f39.body.getD .skip))) [(0, .pointer c), (3, .slice out_b out_l out_c)] w := by
  exact block_spec Tryz.func39 Tryz.mixed (stops_cons (fun σ w h => by
      obtain ⟨c_, e0, h⟩ := dP_elim h
      obtain ⟨out_b_, out_l_, out_c_, e1, h⟩ := dL_elim h
      obtain ⟨t40_, e2, h⟩ := dB_elim h
      exact (connm_Conn_Tick.B3_sound  c_ out_b_ out_l_ out_c_ t40_ w h).weaken (Sub.cons (Sub.cons (Sub.cons (Sub.nil _) e2) e1) e0)) stops_nil) (Eq.mp (connm_Conn_Tick.B1_eq c out_b out_l out_c w   R (fun c_ out_b_ out_l_ out_c_ t40_ w => connm_Conn_Tick.B3 c_ out_b_ out_l_ out_c_ t40_ w  R)) h)
def connm_Conn_Tick.B2 (c out_b : Option Addr) (out_l out_c : Nat) (w : World)   (R : Option Addr → Nat → Nat → World → Prop) : Prop :=
  connm_Conn_pump.Call c w fun r88_b r88_l r88_c w1 =>
  Append 45 (.agg #[.int .i64 (0 : Int), .int .i64 (0 : Int), .int .i64 (0 : Int), .int .i64 (0 : Int), .int .i64 (0 : Int), .int .i64 (0 : Int), .slice none 0 0]) 7 72 out_b out_l out_c r88_b r88_l w1 fun b89 c89 w2 =>
  R b89 (out_l + r88_l) c89 w2
theorem connm_Conn_Tick.B2_eq (c out_b : Option Addr) (out_l out_c : Nat) (w : World)   (R : Option Addr → Nat → Nat → World → Prop)  :
    (
  connm_Conn_pump.Call c w fun r88_b r88_l r88_c w1 =>
  Append 45 (.agg #[.int .i64 (0 : Int), .int .i64 (0 : Int), .int .i64 (0 : Int), .int .i64 (0 : Int), .int .i64 (0 : Int), .int .i64 (0 : Int), .slice none 0 0]) 7 72 out_b out_l out_c r88_b r88_l w1 fun b89 c89 w2 =>
  R b89 (out_l + r88_l) c89 w2) = kstep Tryz.prog 90 Tryz.f39.results.toList (Tryz.f39.body.getD .skip) (connm_Conn_Tick.RV R) (kvc Tryz.prog 90 Tryz.f39.results.toList (Tryz.f39.body.getD .skip) (connm_Conn_Tick.RV R) [] 2000) [(0, [1, 1, 1, 1, 1, 1])] [(0, .pointer c), (3, .slice out_b out_l out_c)] w := by kernel_rfl
theorem connm_Conn_Tick.B2_sound {R : Option Addr → Nat → Nat → World → Prop}  (c out_b : Option Addr) (out_l out_c : Nat) (w : World) (h : connm_Conn_Tick.B2 c out_b out_l out_c w   R) :
    KW Tryz.prog 39 90 (connm_Conn_Tick.RV R) ([(0, [1, 1, 1, 1, 1, 1])].map (toItem (Tryz.f39.body.getD .skip))) [(0, .pointer c), (3, .slice out_b out_l out_c)] w := by
  exact block_spec Tryz.func39 Tryz.mixed stops_nil (Eq.mp (connm_Conn_Tick.B2_eq c out_b out_l out_c w   R ) h)
def connm_Conn_Tick.B0 (c : Option Addr) (w : World)   (R : Option Addr → Nat → Nat → World → Prop) : Prop :=
  New (.cells #[] 45) w fun b4 w1 =>
  Pn c fun a =>
  LdI .i64 a w1 fun x8 =>
  Bm (x8 == (0 : Int)) (
    R (some ⟨b4, 0, none⟩) 0 0 w1) (
    Pn c fun a_1 =>
    LdI .i64 a_1 w1 fun x14 =>
    Bm (x14 == (4 : Int)) (
      Pn c fun a_2 =>
      LdI .i64 (a_2.add 48) w1 fun x19 =>
      Bm (decide (x19 > (0 : Int))) (
        Pn c fun a_3 =>
        LdI .i64 (a_3.add 48) w1 fun x24 =>
        Pn c fun a_4 =>
        Sts [.int .i64 (IntKind.i64.wrap (x24 - (1 : Int)))] (a_4.add 48) 0 w1 fun w2 =>
        connm_Conn_Tick.B1 c (some ⟨b4, 0, none⟩) 0 0 w2  R) (
        connm_Conn_Tick.B1 c (some ⟨b4, 0, none⟩) 0 0 w1  R)) (
      Pn c fun a_5 =>
      Sts [.int .i64 (12 : Int)] (a_5.add 47) 0 w1 fun w3 =>
      Pn c fun a_6 =>
      LdI .i64 (a_6.add 45) w3 fun x50 =>
      Bm (decide (x50 > (0 : Int))) (
        Pn c fun a_7 =>
        LdI .i64 (a_7.add 45) w3 fun x55 =>
        Pn c fun a_8 =>
        Sts [.int .i64 (IntKind.i64.wrap (x55 - (1 : Int)))] (a_8.add 45) 0 w3 fun w4 =>
        Pn c fun a_9 =>
        LdI .i64 (a_9.add 45) w4 fun x62 =>
        Bm (x62 == (0 : Int)) (
          Pn c fun a_10 =>
          LdI .i64 (a_10.add 46) w4 fun x67 =>
          Bm (x67 == (3 : Int)) (
            connm_Conn_fail.Call c (19 : Int) w4 fun w5 =>
            R (some ⟨b4, 0, none⟩) 0 0 w5) (
            Pn c fun a_11 =>
            LdI .i64 (a_11.add 46) w4 fun x75 =>
            Pn c fun a_12 =>
            Sts [.int .i64 (IntKind.i64.wrap (x75 + (1 : Int)))] (a_12.add 46) 0 w4 fun w6 =>
            connm_Conn_arm.Call c w6 fun w7 =>
            connm_Conn_again.Call c w7 fun r83_0 r83_1 r83_2 r83_3 r83_4 r83_5 r83_6_b r83_6_l r83_6_c w8 =>
            New (.cells #[.int .i64 r83_0, .int .i64 r83_1, .int .i64 r83_2, .int .i64 r83_3, .int .i64 r83_4, .int .i64 r83_5, .slice r83_6_b r83_6_l r83_6_c] 45) w8 fun b84 w9 =>
            Append 45 (.agg #[.int .i64 (0 : Int), .int .i64 (0 : Int), .int .i64 (0 : Int), .int .i64 (0 : Int), .int .i64 (0 : Int), .int .i64 (0 : Int), .slice none 0 0]) 7 72 (some ⟨b4, 0, none⟩) 0 0 (some ⟨b84, 0, none⟩) 1 w9 fun b85 c85 w10 =>
            connm_Conn_Tick.B2 c b85 (0 + 1) c85 w10  R)) (
          connm_Conn_Tick.B2 c (some ⟨b4, 0, none⟩) 0 0 w4  R)) (
        connm_Conn_Tick.B2 c (some ⟨b4, 0, none⟩) 0 0 w3  R)))
theorem connm_Conn_Tick.B0_eq (c : Option Addr) (w : World)   (R : Option Addr → Nat → Nat → World → Prop) (sB1 : Option Addr → Option Addr → Nat → Nat → World → Prop) (sB2 : Option Addr → Option Addr → Nat → Nat → World → Prop) :
    (
  New (.cells #[] 45) w fun b4 w1 =>
  Pn c fun a =>
  LdI .i64 a w1 fun x8 =>
  Bm (x8 == (0 : Int)) (
    R (some ⟨b4, 0, none⟩) 0 0 w1) (
    Pn c fun a_1 =>
    LdI .i64 a_1 w1 fun x14 =>
    Bm (x14 == (4 : Int)) (
      Pn c fun a_2 =>
      LdI .i64 (a_2.add 48) w1 fun x19 =>
      Bm (decide (x19 > (0 : Int))) (
        Pn c fun a_3 =>
        LdI .i64 (a_3.add 48) w1 fun x24 =>
        Pn c fun a_4 =>
        Sts [.int .i64 (IntKind.i64.wrap (x24 - (1 : Int)))] (a_4.add 48) 0 w1 fun w2 =>
        sB1 c (some ⟨b4, 0, none⟩) 0 0 w2) (
        sB1 c (some ⟨b4, 0, none⟩) 0 0 w1)) (
      Pn c fun a_5 =>
      Sts [.int .i64 (12 : Int)] (a_5.add 47) 0 w1 fun w3 =>
      Pn c fun a_6 =>
      LdI .i64 (a_6.add 45) w3 fun x50 =>
      Bm (decide (x50 > (0 : Int))) (
        Pn c fun a_7 =>
        LdI .i64 (a_7.add 45) w3 fun x55 =>
        Pn c fun a_8 =>
        Sts [.int .i64 (IntKind.i64.wrap (x55 - (1 : Int)))] (a_8.add 45) 0 w3 fun w4 =>
        Pn c fun a_9 =>
        LdI .i64 (a_9.add 45) w4 fun x62 =>
        Bm (x62 == (0 : Int)) (
          Pn c fun a_10 =>
          LdI .i64 (a_10.add 46) w4 fun x67 =>
          Bm (x67 == (3 : Int)) (
            connm_Conn_fail.Call c (19 : Int) w4 fun w5 =>
            R (some ⟨b4, 0, none⟩) 0 0 w5) (
            Pn c fun a_11 =>
            LdI .i64 (a_11.add 46) w4 fun x75 =>
            Pn c fun a_12 =>
            Sts [.int .i64 (IntKind.i64.wrap (x75 + (1 : Int)))] (a_12.add 46) 0 w4 fun w6 =>
            connm_Conn_arm.Call c w6 fun w7 =>
            connm_Conn_again.Call c w7 fun r83_0 r83_1 r83_2 r83_3 r83_4 r83_5 r83_6_b r83_6_l r83_6_c w8 =>
            New (.cells #[.int .i64 r83_0, .int .i64 r83_1, .int .i64 r83_2, .int .i64 r83_3, .int .i64 r83_4, .int .i64 r83_5, .slice r83_6_b r83_6_l r83_6_c] 45) w8 fun b84 w9 =>
            Append 45 (.agg #[.int .i64 (0 : Int), .int .i64 (0 : Int), .int .i64 (0 : Int), .int .i64 (0 : Int), .int .i64 (0 : Int), .int .i64 (0 : Int), .slice none 0 0]) 7 72 (some ⟨b4, 0, none⟩) 0 0 (some ⟨b84, 0, none⟩) 1 w9 fun b85 c85 w10 =>
            sB2 c b85 (0 + 1) c85 w10)) (
          sB2 c (some ⟨b4, 0, none⟩) 0 0 w4)) (
        sB2 c (some ⟨b4, 0, none⟩) 0 0 w3)))) = kstep Tryz.prog 90 Tryz.f39.results.toList (Tryz.f39.body.getD .skip) (connm_Conn_Tick.RV R) (kvc Tryz.prog 90 Tryz.f39.results.toList (Tryz.f39.body.getD .skip) (connm_Conn_Tick.RV R) [([(0, [1, 1, 1, 0, 1, 0, 1]), (0, [1, 1, 1, 1])], fun σ w => dP (slotOf σ 0) fun c_ => dL (slotOf σ 3) fun out_b_ out_l_ out_c_ => sB1 c_ out_b_ out_l_ out_c_ w),
    ([(0, [1, 1, 1, 1, 1, 1])], fun σ w => dP (slotOf σ 0) fun c_ => dL (slotOf σ 3) fun out_b_ out_l_ out_c_ => sB2 c_ out_b_ out_l_ out_c_ w)] 2000) [(0, [])] [(0, .pointer c)] w := by kernel_rfl
theorem connm_Conn_Tick.B0_sound {R : Option Addr → Nat → Nat → World → Prop}  (c : Option Addr) (w : World) (h : connm_Conn_Tick.B0 c w   R) :
    KW Tryz.prog 39 90 (connm_Conn_Tick.RV R) ([(0, [])].map (toItem (Tryz.f39.body.getD .skip))) [(0, .pointer c)] w := by
  exact block_spec Tryz.func39 Tryz.mixed (stops_cons (fun σ w h => by
      obtain ⟨c_, e0, h⟩ := dP_elim h
      obtain ⟨out_b_, out_l_, out_c_, e1, h⟩ := dL_elim h
      exact (connm_Conn_Tick.B1_sound  c_ out_b_ out_l_ out_c_ w h).weaken (Sub.cons (Sub.cons (Sub.nil _) e1) e0)) (stops_cons (fun σ w h => by
      obtain ⟨c_, e0, h⟩ := dP_elim h
      obtain ⟨out_b_, out_l_, out_c_, e1, h⟩ := dL_elim h
      exact (connm_Conn_Tick.B2_sound  c_ out_b_ out_l_ out_c_ w h).weaken (Sub.cons (Sub.cons (Sub.nil _) e1) e0)) stops_nil)) (Eq.mp (connm_Conn_Tick.B0_eq c w   R (fun c_ out_b_ out_l_ out_c_ w => connm_Conn_Tick.B1 c_ out_b_ out_l_ out_c_ w  R) (fun c_ out_b_ out_l_ out_c_ w => connm_Conn_Tick.B2 c_ out_b_ out_l_ out_c_ w  R)) h)
theorem connm_Conn_Tick.sound (c : Option Addr) (w : World) (R : Option Addr → Nat → Nat → World → Prop) (h : connm_Conn_Tick.B0 c w R) : connm_Conn_Tick.Call c w R := by
  have hc := calls_of_block (args := #[.pointer c]) Tryz.func39 (body := (Tryz.f39.body.getD .skip)) (by kernel_rfl) (by kernel_rfl) (args_slot _) (connm_Conn_Tick.B0_sound c w h)
  exact hc.mono fun e w' he => by
    obtain ⟨v, rfl, hv⟩ := he
    exact connm_Conn_Tick.RV_elim hv
def conn_Conn_Close.B0 (c : Option Addr) (w : World)   (R : Option Addr → Nat → Nat → Int → World → Prop) : Prop :=
  Pn c fun a =>
  LdI .i64 (a.add 2) w fun x9 =>
  Bm (x9 == (0 : Int)) (
    R none 0 0 (13 : Int) w) (
    Bm (x9 == (4 : Int)) (
      conn_Conn_ended.Call c w fun r15 w1 =>
      R none 0 0 r15 w1) (
      Bm (x9 == (1 : Int)) (
        conn_Conn_fail.Call c (20 : Int) w fun w2 =>
        New (.cells #[] 45) w2 fun b21 w3 =>
        R (some ⟨b21, 0, none⟩) 0 0 (0 : Int) w3) (
        Pn c fun a_1 =>
        LdB (a_1.add 4) w fun x25 =>
        Bm x25 (
          R none 0 0 (15 : Int) w) (
          Pn c fun a_2 =>
          Sts [.bool true] (a_2.add 4) 0 w fun w4 =>
          conn_Conn_pump.Call c w4 fun r30_b r30_l r30_c w5 =>
          R r30_b r30_l r30_c (0 : Int) w5))))
theorem conn_Conn_Close.B0_eq (c : Option Addr) (w : World)   (R : Option Addr → Nat → Nat → Int → World → Prop)  :
    (
  Pn c fun a =>
  LdI .i64 (a.add 2) w fun x9 =>
  Bm (x9 == (0 : Int)) (
    R none 0 0 (13 : Int) w) (
    Bm (x9 == (4 : Int)) (
      conn_Conn_ended.Call c w fun r15 w1 =>
      R none 0 0 r15 w1) (
      Bm (x9 == (1 : Int)) (
        conn_Conn_fail.Call c (20 : Int) w fun w2 =>
        New (.cells #[] 45) w2 fun b21 w3 =>
        R (some ⟨b21, 0, none⟩) 0 0 (0 : Int) w3) (
        Pn c fun a_1 =>
        LdB (a_1.add 4) w fun x25 =>
        Bm x25 (
          R none 0 0 (15 : Int) w) (
          Pn c fun a_2 =>
          Sts [.bool true] (a_2.add 4) 0 w fun w4 =>
          conn_Conn_pump.Call c w4 fun r30_b r30_l r30_c w5 =>
          R r30_b r30_l r30_c (0 : Int) w5))))) = kstep Tryz.prog 32 Tryz.f40.results.toList (Tryz.f40.body.getD .skip) (conn_Conn_Close.RV R) (kvc Tryz.prog 32 Tryz.f40.results.toList (Tryz.f40.body.getD .skip) (conn_Conn_Close.RV R) [] 2000) [(0, [])] [(0, .pointer c)] w := by kernel_rfl
theorem conn_Conn_Close.B0_sound {R : Option Addr → Nat → Nat → Int → World → Prop}  (c : Option Addr) (w : World) (h : conn_Conn_Close.B0 c w   R) :
    KW Tryz.prog 40 32 (conn_Conn_Close.RV R) ([(0, [])].map (toItem (Tryz.f40.body.getD .skip))) [(0, .pointer c)] w := by
  exact block_spec Tryz.func40 Tryz.mixed stops_nil (Eq.mp (conn_Conn_Close.B0_eq c w   R ) h)
theorem conn_Conn_Close.sound (c : Option Addr) (w : World) (R : Option Addr → Nat → Nat → Int → World → Prop) (h : conn_Conn_Close.B0 c w R) : conn_Conn_Close.Call c w R := by
  have hc := calls_of_block (args := #[.pointer c]) Tryz.func40 (body := (Tryz.f40.body.getD .skip)) (by kernel_rfl) (by kernel_rfl) (args_slot _) (conn_Conn_Close.B0_sound c w h)
  exact hc.mono fun e w' he => by
    obtain ⟨v, rfl, hv⟩ := he
    exact conn_Conn_Close.RV_elim hv
def connm_Conn_Close.B0 (c : Option Addr) (w : World)   (R : Option Addr → Nat → Nat → Int → World → Prop) : Prop :=
  Pn c fun a =>
  LdI .i64 a w fun x7 =>
  Bm (x7 == (0 : Int)) (
    R none 0 0 (13 : Int) w) (
    Bm (x7 == (4 : Int)) (
      connm_Conn_ended.Call c w fun r13 w1 =>
      R none 0 0 r13 w1) (
      Bm (x7 == (1 : Int)) (
        connm_Conn_fail.Call c (20 : Int) w fun w2 =>
        New (.cells #[] 45) w2 fun b18 w3 =>
        R (some ⟨b18, 0, none⟩) 0 0 (0 : Int) w3) (
        Pn c fun a_1 =>
        LdB (a_1.add 2) w fun x22 =>
        Bm x22 (
          R none 0 0 (15 : Int) w) (
          Pn c fun a_2 =>
          Sts [.bool true] (a_2.add 2) 0 w fun w4 =>
          connm_Conn_pump.Call c w4 fun r27_b r27_l r27_c w5 =>
          R r27_b r27_l r27_c (0 : Int) w5))))
theorem connm_Conn_Close.B0_eq (c : Option Addr) (w : World)   (R : Option Addr → Nat → Nat → Int → World → Prop)  :
    (
  Pn c fun a =>
  LdI .i64 a w fun x7 =>
  Bm (x7 == (0 : Int)) (
    R none 0 0 (13 : Int) w) (
    Bm (x7 == (4 : Int)) (
      connm_Conn_ended.Call c w fun r13 w1 =>
      R none 0 0 r13 w1) (
      Bm (x7 == (1 : Int)) (
        connm_Conn_fail.Call c (20 : Int) w fun w2 =>
        New (.cells #[] 45) w2 fun b18 w3 =>
        R (some ⟨b18, 0, none⟩) 0 0 (0 : Int) w3) (
        Pn c fun a_1 =>
        LdB (a_1.add 2) w fun x22 =>
        Bm x22 (
          R none 0 0 (15 : Int) w) (
          Pn c fun a_2 =>
          Sts [.bool true] (a_2.add 2) 0 w fun w4 =>
          connm_Conn_pump.Call c w4 fun r27_b r27_l r27_c w5 =>
          R r27_b r27_l r27_c (0 : Int) w5))))) = kstep Tryz.prog 28 Tryz.f41.results.toList (Tryz.f41.body.getD .skip) (connm_Conn_Close.RV R) (kvc Tryz.prog 28 Tryz.f41.results.toList (Tryz.f41.body.getD .skip) (connm_Conn_Close.RV R) [] 2000) [(0, [])] [(0, .pointer c)] w := by kernel_rfl
theorem connm_Conn_Close.B0_sound {R : Option Addr → Nat → Nat → Int → World → Prop}  (c : Option Addr) (w : World) (h : connm_Conn_Close.B0 c w   R) :
    KW Tryz.prog 41 28 (connm_Conn_Close.RV R) ([(0, [])].map (toItem (Tryz.f41.body.getD .skip))) [(0, .pointer c)] w := by
  exact block_spec Tryz.func41 Tryz.mixed stops_nil (Eq.mp (connm_Conn_Close.B0_eq c w   R ) h)
theorem connm_Conn_Close.sound (c : Option Addr) (w : World) (R : Option Addr → Nat → Nat → Int → World → Prop) (h : connm_Conn_Close.B0 c w R) : connm_Conn_Close.Call c w R := by
  have hc := calls_of_block (args := #[.pointer c]) Tryz.func41 (body := (Tryz.f41.body.getD .skip)) (by kernel_rfl) (by kernel_rfl) (args_slot _) (connm_Conn_Close.B0_sound c w h)
  exact hc.mono fun e w' he => by
    obtain ⟨v, rfl, hv⟩ := he
    exact connm_Conn_Close.RV_elim hv
def conn_Conn_Send.B2 (c p_b : Option Addr) (p_l p_c : Nat) (w : World)   (R : Int → Option Addr → Nat → Nat → Int → World → Prop) : Prop :=
  Pn c fun a =>
  LdP a w fun x40 =>
  seg_SendBuf_Put.Call x40 p_b p_l p_c w fun r42 w1 =>
  conn_Conn_pump.Call c w1 fun r44_b r44_l r44_c w2 =>
  R r42 r44_b r44_l r44_c (0 : Int) w2
theorem conn_Conn_Send.B2_eq (c p_b : Option Addr) (p_l p_c : Nat) (w : World)   (R : Int → Option Addr → Nat → Nat → Int → World → Prop)  :
    (
  Pn c fun a =>
  LdP a w fun x40 =>
  seg_SendBuf_Put.Call x40 p_b p_l p_c w fun r42 w1 =>
  conn_Conn_pump.Call c w1 fun r44_b r44_l r44_c w2 =>
  R r42 r44_b r44_l r44_c (0 : Int) w2) = kstep Tryz.prog 47 Tryz.f42.results.toList (Tryz.f42.body.getD .skip) (conn_Conn_Send.RV R) (kvc Tryz.prog 47 Tryz.f42.results.toList (Tryz.f42.body.getD .skip) (conn_Conn_Send.RV R) [] 2000) [(0, [1, 1, 1, 1])] [(0, .pointer c), (1, .slice p_b p_l p_c)] w := by kernel_rfl
theorem conn_Conn_Send.B2_sound {R : Int → Option Addr → Nat → Nat → Int → World → Prop}  (c p_b : Option Addr) (p_l p_c : Nat) (w : World) (h : conn_Conn_Send.B2 c p_b p_l p_c w   R) :
    KW Tryz.prog 42 47 (conn_Conn_Send.RV R) ([(0, [1, 1, 1, 1])].map (toItem (Tryz.f42.body.getD .skip))) [(0, .pointer c), (1, .slice p_b p_l p_c)] w := by
  exact block_spec Tryz.func42 Tryz.mixed stops_nil (Eq.mp (conn_Conn_Send.B2_eq c p_b p_l p_c w   R ) h)
def conn_Conn_Send.B1 (c p_b : Option Addr) (p_l p_c : Nat) (t13 : Int) (t16 : Bool) (w : World)   (R : Int → Option Addr → Nat → Nat → Int → World → Prop) : Prop :=
  Bm t16 (
    R (0 : Int) none 0 0 (14 : Int) w) (
    Bm (t13 == (4 : Int)) (
      conn_Conn_ended.Call c w fun r22 w1 =>
      R (0 : Int) none 0 0 r22 w1) (
      Pn c fun a =>
      LdB (a.add 4) w fun x27 =>
      Bm x27 (
        R (0 : Int) none 0 0 (15 : Int) w) (
        Bm (decide (((p_l : Nat) : Int) > (0 : Int))) (
          Pn c fun a_1 =>
          LdP a_1 w fun x34 =>
          seg_SendBuf_Len.Call x34 w fun r35 w2 =>
          Bm (r35 == (16 : Int)) (
            R (0 : Int) none 0 0 (14 : Int) w2) (
            conn_Conn_Send.B2 c p_b p_l p_c w2  R)) (
          conn_Conn_Send.B2 c p_b p_l p_c w  R))))
theorem conn_Conn_Send.B1_eq (c p_b : Option Addr) (p_l p_c : Nat) (t13 : Int) (t16 : Bool) (w : World)   (R : Int → Option Addr → Nat → Nat → Int → World → Prop) (sB2 : Option Addr → Option Addr → Nat → Nat → World → Prop) :
    (
  Bm t16 (
    R (0 : Int) none 0 0 (14 : Int) w) (
    Bm (t13 == (4 : Int)) (
      conn_Conn_ended.Call c w fun r22 w1 =>
      R (0 : Int) none 0 0 r22 w1) (
      Pn c fun a =>
      LdB (a.add 4) w fun x27 =>
      Bm x27 (
        R (0 : Int) none 0 0 (15 : Int) w) (
        Bm (decide (((p_l : Nat) : Int) > (0 : Int))) (
          Pn c fun a_1 =>
          LdP a_1 w fun x34 =>
          seg_SendBuf_Len.Call x34 w fun r35 w2 =>
          Bm (r35 == (16 : Int)) (
            R (0 : Int) none 0 0 (14 : Int) w2) (
            sB2 c p_b p_l p_c w2)) (
          sB2 c p_b p_l p_c w))))) = kstep Tryz.prog 47 Tryz.f42.results.toList (Tryz.f42.body.getD .skip) (conn_Conn_Send.RV R) (kvc Tryz.prog 47 Tryz.f42.results.toList (Tryz.f42.body.getD .skip) (conn_Conn_Send.RV R) [([(0, [1, 1, 1, 1])], fun σ w => dP (slotOf σ 0) fun c_ => dL (slotOf σ 1) fun p_b_ p_l_ p_c_ => sB2 c_ p_b_ p_l_ p_c_ w)] 2000) [(0, [1, 0, 1, 0, 1, 1, 1]), (1, [0]), (0, [1, 1])] [(0, .pointer c), (1, .slice p_b p_l p_c), (13, .int .i64 t13), (16, .bool t16)] w := by kernel_rfl
theorem conn_Conn_Send.B1_sound {R : Int → Option Addr → Nat → Nat → Int → World → Prop}  (c p_b : Option Addr) (p_l p_c : Nat) (t13 : Int) (t16 : Bool) (w : World) (h : conn_Conn_Send.B1 c p_b p_l p_c t13 t16 w   R) :
    KW Tryz.prog 42 47 (conn_Conn_Send.RV R) ([(0, [1, 0, 1, 0, 1, 1, 1]), (1, [0]), (0, [1, 1])].map (toItem (Tryz.f42.body.getD .skip))) [(0, .pointer c), (1, .slice p_b p_l p_c), (13, .int .i64 t13), (16, .bool t16)] w := by
  exact block_spec Tryz.func42 Tryz.mixed (stops_cons (fun σ w h => by
      obtain ⟨c_, e0, h⟩ := dP_elim h
      obtain ⟨p_b_, p_l_, p_c_, e1, h⟩ := dL_elim h
      exact (conn_Conn_Send.B2_sound  c_ p_b_ p_l_ p_c_ w h).weaken (Sub.cons (Sub.cons (Sub.nil _) e1) e0)) stops_nil) (Eq.mp (conn_Conn_Send.B1_eq c p_b p_l p_c t13 t16 w   R (fun c_ p_b_ p_l_ p_c_ w => conn_Conn_Send.B2 c_ p_b_ p_l_ p_c_ w  R)) h)
def conn_Conn_Send.B0 (c p_b : Option Addr) (p_l p_c : Nat) (w : World)   (R : Int → Option Addr → Nat → Nat → Int → World → Prop) : Prop :=
  Pn c fun a =>
  LdI .i64 (a.add 2) w fun x13 =>
  Bm (x13 == (0 : Int)) (
    R (0 : Int) none 0 0 (13 : Int) w) (
    Bm (x13 == (1 : Int)) (
      conn_Conn_Send.B1 c p_b p_l p_c x13 (x13 == (1 : Int)) w  R) (
      conn_Conn_Send.B1 c p_b p_l p_c x13 (x13 == (2 : Int)) w  R))
theorem conn_Conn_Send.B0_eq (c p_b : Option Addr) (p_l p_c : Nat) (w : World)   (R : Int → Option Addr → Nat → Nat → Int → World → Prop) (sB1 : Option Addr → Option Addr → Nat → Nat → Int → Bool → World → Prop) :
    (
  Pn c fun a =>
  LdI .i64 (a.add 2) w fun x13 =>
  Bm (x13 == (0 : Int)) (
    R (0 : Int) none 0 0 (13 : Int) w) (
    Bm (x13 == (1 : Int)) (
      sB1 c p_b p_l p_c x13 (x13 == (1 : Int)) w) (
      sB1 c p_b p_l p_c x13 (x13 == (2 : Int)) w))) = kstep Tryz.prog 47 Tryz.f42.results.toList (Tryz.f42.body.getD .skip) (conn_Conn_Send.RV R) (kvc Tryz.prog 47 Tryz.f42.results.toList (Tryz.f42.body.getD .skip) (conn_Conn_Send.RV R) [([(0, [1, 0, 1, 0, 1, 1, 1]), (1, [0]), (0, [1, 1])], fun σ w => dP (slotOf σ 0) fun c_ => dL (slotOf σ 1) fun p_b_ p_l_ p_c_ => dI .i64 (slotOf σ 13) fun t13_ => dB (slotOf σ 16) fun t16_ => sB1 c_ p_b_ p_l_ p_c_ t13_ t16_ w)] 2000) [(0, [])] [(0, .pointer c), (1, .slice p_b p_l p_c)] w := by kernel_rfl
theorem conn_Conn_Send.B0_sound {R : Int → Option Addr → Nat → Nat → Int → World → Prop}  (c p_b : Option Addr) (p_l p_c : Nat) (w : World) (h : conn_Conn_Send.B0 c p_b p_l p_c w   R) :
    KW Tryz.prog 42 47 (conn_Conn_Send.RV R) ([(0, [])].map (toItem (Tryz.f42.body.getD .skip))) [(0, .pointer c), (1, .slice p_b p_l p_c)] w := by
  exact block_spec Tryz.func42 Tryz.mixed (stops_cons (fun σ w h => by
      obtain ⟨c_, e0, h⟩ := dP_elim h
      obtain ⟨p_b_, p_l_, p_c_, e1, h⟩ := dL_elim h
      obtain ⟨t13_, e2, h⟩ := dI_elim h
      obtain ⟨t16_, e3, h⟩ := dB_elim h
      exact (conn_Conn_Send.B1_sound  c_ p_b_ p_l_ p_c_ t13_ t16_ w h).weaken (Sub.cons (Sub.cons (Sub.cons (Sub.cons (Sub.nil _) e3) e2) e1) e0)) stops_nil) (Eq.mp (conn_Conn_Send.B0_eq c p_b p_l p_c w   R (fun c_ p_b_ p_l_ p_c_ t13_ t16_ w => conn_Conn_Send.B1 c_ p_b_ p_l_ p_c_ t13_ t16_ w  R)) h)
theorem conn_Conn_Send.sound (c p_b : Option Addr) (p_l p_c : Nat) (w : World) (R : Int → Option Addr → Nat → Nat → Int → World → Prop) (h : conn_Conn_Send.B0 c p_b p_l p_c w R) : conn_Conn_Send.Call c p_b p_l p_c w R := by
  have hc := calls_of_block (args := #[.pointer c, .slice p_b p_l p_c]) Tryz.func42 (body := (Tryz.f42.body.getD .skip)) (by kernel_rfl) (by kernel_rfl) (args_slot _) (conn_Conn_Send.B0_sound c p_b p_l p_c w h)
  exact hc.mono fun e w' he => by
    obtain ⟨v, rfl, hv⟩ := he
    exact conn_Conn_Send.RV_elim hv
def connm_Conn_Send.B3 (c p_b : Option Addr) (p_l p_c : Nat) (n : Int) (t43 : Bool) (w : World)   (R : Int → Option Addr → Nat → Nat → Int → World → Prop) : Prop :=
  Bm t43 (
    R (0 : Int) none 0 0 (14 : Int) w) (
    Pn c fun a =>
    LdL (a.add 8) w.drew fun x48_b x48_l x48_c =>
    (0 ≤ n ∧ n ≤ ((p_c : Nat) : Int)) ∧
    api_CopyBytes.Call x48_b x48_l x48_c w.drew fun r49_b r49_l r49_c w1 =>
    Append 5 (.int .u8 (0 : Int)) 1 1 r49_b r49_l r49_c (slBase p_b ((0 : Nat) : Int) ((p_c : Nat) : Int) 1) (n.toNat - ((0 : Nat) : Int).toNat) w1 fun b53 c53 w2 =>
    Pn c fun a_1 =>
    Sts [.slice b53 (r49_l + (n.toNat - ((0 : Nat) : Int).toNat)) c53] (a_1.add 8) 0 w2 fun w3 =>
    connm_Conn_pump.Call c w3 fun r58_b r58_l r58_c w4 =>
    R n r58_b r58_l r58_c (0 : Int) w4)
theorem connm_Conn_Send.B3_eq (c p_b : Option Addr) (p_l p_c : Nat) (n : Int) (t43 : Bool) (w : World)   (R : Int → Option Addr → Nat → Nat → Int → World → Prop)  :
    (
  Bm t43 (
    R (0 : Int) none 0 0 (14 : Int) w) (
    Pn c fun a =>
    LdL (a.add 8) w.drew fun x48_b x48_l x48_c =>
    (0 ≤ n ∧ n ≤ ((p_c : Nat) : Int)) ∧
    api_CopyBytes.Call x48_b x48_l x48_c w.drew fun r49_b r49_l r49_c w1 =>
    Append 5 (.int .u8 (0 : Int)) 1 1 r49_b r49_l r49_c (slBase p_b ((0 : Nat) : Int) ((p_c : Nat) : Int) 1) (n.toNat - ((0 : Nat) : Int).toNat) w1 fun b53 c53 w2 =>
    Pn c fun a_1 =>
    Sts [.slice b53 (r49_l + (n.toNat - ((0 : Nat) : Int).toNat)) c53] (a_1.add 8) 0 w2 fun w3 =>
    connm_Conn_pump.Call c w3 fun r58_b r58_l r58_c w4 =>
    R n r58_b r58_l r58_c (0 : Int) w4)) = kstep Tryz.prog 59 Tryz.f43.results.toList (Tryz.f43.body.getD .skip) (connm_Conn_Send.RV R) (kvc Tryz.prog 59 Tryz.f43.results.toList (Tryz.f43.body.getD .skip) (connm_Conn_Send.RV R) [] 2000) [(0, [1, 1, 1, 1, 1, 0, 1]), (0, [1, 1, 1, 1, 1, 1])] [(0, .pointer c), (1, .slice p_b p_l p_c), (7, .int .i64 n), (43, .bool t43)] w := by kernel_rfl
theorem connm_Conn_Send.B3_sound {R : Int → Option Addr → Nat → Nat → Int → World → Prop}  (c p_b : Option Addr) (p_l p_c : Nat) (n : Int) (t43 : Bool) (w : World) (h : connm_Conn_Send.B3 c p_b p_l p_c n t43 w   R) :
    KW Tryz.prog 43 59 (connm_Conn_Send.RV R) ([(0, [1, 1, 1, 1, 1, 0, 1]), (0, [1, 1, 1, 1, 1, 1])].map (toItem (Tryz.f43.body.getD .skip))) [(0, .pointer c), (1, .slice p_b p_l p_c), (7, .int .i64 n), (43, .bool t43)] w := by
  exact block_spec Tryz.func43 Tryz.mixed stops_nil (Eq.mp (connm_Conn_Send.B3_eq c p_b p_l p_c n t43 w   R ) h)
def connm_Conn_Send.B2 (c p_b : Option Addr) (p_l p_c : Nat) (n : Int) (w : World)   (R : Int → Option Addr → Nat → Nat → Int → World → Prop) : Prop :=
  Bm (n == (0 : Int)) (
    connm_Conn_Send.B3 c p_b p_l p_c n (decide (((p_l : Nat) : Int) > (0 : Int))) w  R) (
    connm_Conn_Send.B3 c p_b p_l p_c n false w  R)
theorem connm_Conn_Send.B2_eq (c p_b : Option Addr) (p_l p_c : Nat) (n : Int) (w : World)   (R : Int → Option Addr → Nat → Nat → Int → World → Prop) (sB3 : Option Addr → Option Addr → Nat → Nat → Int → Bool → World → Prop) :
    (
  Bm (n == (0 : Int)) (
    sB3 c p_b p_l p_c n (decide (((p_l : Nat) : Int) > (0 : Int))) w) (
    sB3 c p_b p_l p_c n false w)) = kstep Tryz.prog 59 Tryz.f43.results.toList (Tryz.f43.body.getD .skip) (connm_Conn_Send.RV R) (kvc Tryz.prog 59 Tryz.f43.results.toList (Tryz.f43.body.getD .skip) (connm_Conn_Send.RV R) [([(0, [1, 1, 1, 1, 1, 0, 1]), (0, [1, 1, 1, 1, 1, 1])], fun σ w => dP (slotOf σ 0) fun c_ => dL (slotOf σ 1) fun p_b_ p_l_ p_c_ => dI .i64 (slotOf σ 7) fun n_ => dB (slotOf σ 43) fun t43_ => sB3 c_ p_b_ p_l_ p_c_ n_ t43_ w)] 2000) [(0, [1, 1, 1, 1, 1])] [(0, .pointer c), (1, .slice p_b p_l p_c), (7, .int .i64 n)] w := by kernel_rfl
theorem connm_Conn_Send.B2_sound {R : Int → Option Addr → Nat → Nat → Int → World → Prop}  (c p_b : Option Addr) (p_l p_c : Nat) (n : Int) (w : World) (h : connm_Conn_Send.B2 c p_b p_l p_c n w   R) :
    KW Tryz.prog 43 59 (connm_Conn_Send.RV R) ([(0, [1, 1, 1, 1, 1])].map (toItem (Tryz.f43.body.getD .skip))) [(0, .pointer c), (1, .slice p_b p_l p_c), (7, .int .i64 n)] w := by
  exact block_spec Tryz.func43 Tryz.mixed (stops_cons (fun σ w h => by
      obtain ⟨c_, e0, h⟩ := dP_elim h
      obtain ⟨p_b_, p_l_, p_c_, e1, h⟩ := dL_elim h
      obtain ⟨n_, e2, h⟩ := dI_elim h
      obtain ⟨t43_, e3, h⟩ := dB_elim h
      exact (connm_Conn_Send.B3_sound  c_ p_b_ p_l_ p_c_ n_ t43_ w h).weaken (Sub.cons (Sub.cons (Sub.cons (Sub.cons (Sub.nil _) e3) e2) e1) e0)) stops_nil) (Eq.mp (connm_Conn_Send.B2_eq c p_b p_l p_c n w   R (fun c_ p_b_ p_l_ p_c_ n_ t43_ w => connm_Conn_Send.B3 c_ p_b_ p_l_ p_c_ n_ t43_ w  R)) h)
def connm_Conn_Send.B1 (c p_b : Option Addr) (p_l p_c : Nat) (t11 : Int) (t14 : Bool) (w : World)   (R : Int → Option Addr → Nat → Nat → Int → World → Prop) : Prop :=
  Bm t14 (
    R (0 : Int) none 0 0 (14 : Int) w) (
    Bm (t11 == (4 : Int)) (
      connm_Conn_ended.Call c w fun r20 w1 =>
      R (0 : Int) none 0 0 r20 w1) (
      Pn c fun a =>
      LdB (a.add 2) w fun x24 =>
      Bm x24 (
        R (0 : Int) none 0 0 (15 : Int) w) (
        Pn c fun a_1 =>
        LdL (a_1.add 8) w fun x28_b x28_l x28_c =>
        Bm (decide ((IntKind.i64.wrap ((16 : Int) - ((x28_l : Nat) : Int))) > ((p_l : Nat) : Int))) (
          connm_Conn_Send.B2 c p_b p_l p_c ((p_l : Nat) : Int) w  R) (
          connm_Conn_Send.B2 c p_b p_l p_c (IntKind.i64.wrap ((16 : Int) - ((x28_l : Nat) : Int))) w  R))))
theorem connm_Conn_Send.B1_eq (c p_b : Option Addr) (p_l p_c : Nat) (t11 : Int) (t14 : Bool) (w : World)   (R : Int → Option Addr → Nat → Nat → Int → World → Prop) (sB2 : Option Addr → Option Addr → Nat → Nat → Int → World → Prop) :
    (
  Bm t14 (
    R (0 : Int) none 0 0 (14 : Int) w) (
    Bm (t11 == (4 : Int)) (
      connm_Conn_ended.Call c w fun r20 w1 =>
      R (0 : Int) none 0 0 r20 w1) (
      Pn c fun a =>
      LdB (a.add 2) w fun x24 =>
      Bm x24 (
        R (0 : Int) none 0 0 (15 : Int) w) (
        Pn c fun a_1 =>
        LdL (a_1.add 8) w fun x28_b x28_l x28_c =>
        Bm (decide ((IntKind.i64.wrap ((16 : Int) - ((x28_l : Nat) : Int))) > ((p_l : Nat) : Int))) (
          sB2 c p_b p_l p_c ((p_l : Nat) : Int) w) (
          sB2 c p_b p_l p_c (IntKind.i64.wrap ((16 : Int) - ((x28_l : Nat) : Int))) w))))) = kstep Tryz.prog 59 Tryz.f43.results.toList (Tryz.f43.body.getD .skip) (connm_Conn_Send.RV R) (kvc Tryz.prog 59 Tryz.f43.results.toList (Tryz.f43.body.getD .skip) (connm_Conn_Send.RV R) [([(0, [1, 1, 1, 1, 1])], fun σ w => dP (slotOf σ 0) fun c_ => dL (slotOf σ 1) fun p_b_ p_l_ p_c_ => dI .i64 (slotOf σ 7) fun n_ => sB2 c_ p_b_ p_l_ p_c_ n_ w)] 2000) [(0, [1, 0, 1, 0, 1, 1, 1]), (1, [0]), (0, [1, 1])] [(0, .pointer c), (1, .slice p_b p_l p_c), (11, .int .i64 t11), (14, .bool t14)] w := by kernel_rfl
theorem connm_Conn_Send.B1_sound {R : Int → Option Addr → Nat → Nat → Int → World → Prop}  (c p_b : Option Addr) (p_l p_c : Nat) (t11 : Int) (t14 : Bool) (w : World) (h : connm_Conn_Send.B1 c p_b p_l p_c t11 t14 w   R) :
    KW Tryz.prog 43 59 (connm_Conn_Send.RV R) ([(0, [1, 0, 1, 0, 1, 1, 1]), (1, [0]), (0, [1, 1])].map (toItem (Tryz.f43.body.getD .skip))) [(0, .pointer c), (1, .slice p_b p_l p_c), (11, .int .i64 t11), (14, .bool t14)] w := by
  exact block_spec Tryz.func43 Tryz.mixed (stops_cons (fun σ w h => by
      obtain ⟨c_, e0, h⟩ := dP_elim h
      obtain ⟨p_b_, p_l_, p_c_, e1, h⟩ := dL_elim h
      obtain ⟨n_, e2, h⟩ := dI_elim h
      exact (connm_Conn_Send.B2_sound  c_ p_b_ p_l_ p_c_ n_ w h).weaken (Sub.cons (Sub.cons (Sub.cons (Sub.nil _) e2) e1) e0)) stops_nil) (Eq.mp (connm_Conn_Send.B1_eq c p_b p_l p_c t11 t14 w   R (fun c_ p_b_ p_l_ p_c_ n_ w => connm_Conn_Send.B2 c_ p_b_ p_l_ p_c_ n_ w  R)) h)
def connm_Conn_Send.B0 (c p_b : Option Addr) (p_l p_c : Nat) (w : World)   (R : Int → Option Addr → Nat → Nat → Int → World → Prop) : Prop :=
  Pn c fun a =>
  LdI .i64 a w fun x11 =>
  Bm (x11 == (0 : Int)) (
    R (0 : Int) none 0 0 (13 : Int) w) (
    Bm (x11 == (1 : Int)) (
      connm_Conn_Send.B1 c p_b p_l p_c x11 (x11 == (1 : Int)) w  R) (
      connm_Conn_Send.B1 c p_b p_l p_c x11 (x11 == (2 : Int)) w  R))
theorem connm_Conn_Send.B0_eq (c p_b : Option Addr) (p_l p_c : Nat) (w : World)   (R : Int → Option Addr → Nat → Nat → Int → World → Prop) (sB1 : Option Addr → Option Addr → Nat → Nat → Int → Bool → World → Prop) :
    (
  Pn c fun a =>
  LdI .i64 a w fun x11 =>
  Bm (x11 == (0 : Int)) (
    R (0 : Int) none 0 0 (13 : Int) w) (
    Bm (x11 == (1 : Int)) (
      sB1 c p_b p_l p_c x11 (x11 == (1 : Int)) w) (
      sB1 c p_b p_l p_c x11 (x11 == (2 : Int)) w))) = kstep Tryz.prog 59 Tryz.f43.results.toList (Tryz.f43.body.getD .skip) (connm_Conn_Send.RV R) (kvc Tryz.prog 59 Tryz.f43.results.toList (Tryz.f43.body.getD .skip) (connm_Conn_Send.RV R) [([(0, [1, 0, 1, 0, 1, 1, 1]), (1, [0]), (0, [1, 1])], fun σ w => dP (slotOf σ 0) fun c_ => dL (slotOf σ 1) fun p_b_ p_l_ p_c_ => dI .i64 (slotOf σ 11) fun t11_ => dB (slotOf σ 14) fun t14_ => sB1 c_ p_b_ p_l_ p_c_ t11_ t14_ w)] 2000) [(0, [])] [(0, .pointer c), (1, .slice p_b p_l p_c)] w := by kernel_rfl
theorem connm_Conn_Send.B0_sound {R : Int → Option Addr → Nat → Nat → Int → World → Prop}  (c p_b : Option Addr) (p_l p_c : Nat) (w : World) (h : connm_Conn_Send.B0 c p_b p_l p_c w   R) :
    KW Tryz.prog 43 59 (connm_Conn_Send.RV R) ([(0, [])].map (toItem (Tryz.f43.body.getD .skip))) [(0, .pointer c), (1, .slice p_b p_l p_c)] w := by
  exact block_spec Tryz.func43 Tryz.mixed (stops_cons (fun σ w h => by
      obtain ⟨c_, e0, h⟩ := dP_elim h
      obtain ⟨p_b_, p_l_, p_c_, e1, h⟩ := dL_elim h
      obtain ⟨t11_, e2, h⟩ := dI_elim h
      obtain ⟨t14_, e3, h⟩ := dB_elim h
      exact (connm_Conn_Send.B1_sound  c_ p_b_ p_l_ p_c_ t11_ t14_ w h).weaken (Sub.cons (Sub.cons (Sub.cons (Sub.cons (Sub.nil _) e3) e2) e1) e0)) stops_nil) (Eq.mp (connm_Conn_Send.B0_eq c p_b p_l p_c w   R (fun c_ p_b_ p_l_ p_c_ t11_ t14_ w => connm_Conn_Send.B1 c_ p_b_ p_l_ p_c_ t11_ t14_ w  R)) h)
theorem connm_Conn_Send.sound (c p_b : Option Addr) (p_l p_c : Nat) (w : World) (R : Int → Option Addr → Nat → Nat → Int → World → Prop) (h : connm_Conn_Send.B0 c p_b p_l p_c w R) : connm_Conn_Send.Call c p_b p_l p_c w R := by
  have hc := calls_of_block (args := #[.pointer c, .slice p_b p_l p_c]) Tryz.func43 (body := (Tryz.f43.body.getD .skip)) (by kernel_rfl) (by kernel_rfl) (args_slot _) (connm_Conn_Send.B0_sound c p_b p_l p_c w h)
  exact hc.mono fun e w' he => by
    obtain ⟨v, rfl, hv⟩ := he
    exact connm_Conn_Send.RV_elim hv
def connlaw_Scribble.L1b (b_b : Option Addr) (b_l b_c : Nat) (i : Int) (w : World)  (N1 : Option Addr → Nat → Nat → Int → World → Prop) (R : World → Prop) : Prop :=
  Bm (decide (i < ((b_l : Nat) : Int))) (
    Pn b_b fun a =>
    (0 ≤ i ∧ i < ((b_l : Nat) : Int)) ∧
    LdI .u8 (Addr.add a (i.toNat * 1)) w fun x12 =>
    Pn b_b fun a_1 =>
    (0 ≤ i ∧ i < ((b_l : Nat) : Int)) ∧
    Sts [.int .u8 (IntKind.u8.wrap (BitVec.ofInt IntKind.u8.bits x12 ^^^ BitVec.ofInt IntKind.u8.bits (255 : Int)).toNat)] (Addr.add a_1 (i.toNat * 1)) 0 w fun w1 =>
    N1 b_b b_l b_c (IntKind.i64.wrap (i + (1 : Int))) w1) (
    R  w)
theorem connlaw_Scribble.L1b_eq (b_b : Option Addr) (b_l b_c : Nat) (i : Int) (w : World)  (N1 : Option Addr → Nat → Nat → Int → World → Prop) (R : World → Prop)  :
    (
  Bm (decide (i < ((b_l : Nat) : Int))) (
    Pn b_b fun a =>
    (0 ≤ i ∧ i < ((b_l : Nat) : Int)) ∧
    LdI .u8 (Addr.add a (i.toNat * 1)) w fun x12 =>
    Pn b_b fun a_1 =>
    (0 ≤ i ∧ i < ((b_l : Nat) : Int)) ∧
    Sts [.int .u8 (IntKind.u8.wrap (BitVec.ofInt IntKind.u8.bits x12 ^^^ BitVec.ofInt IntKind.u8.bits (255 : Int)).toNat)] (Addr.add a_1 (i.toNat * 1)) 0 w fun w1 =>
    N1 b_b b_l b_c (IntKind.i64.wrap (i + (1 : Int))) w1) (
    R  w)) = kstep Tryz.prog 15 Tryz.f44.results.toList (Tryz.f44.body.getD .skip) (connlaw_Scribble.RV R) (kvc Tryz.prog 15 Tryz.f44.results.toList (Tryz.f44.body.getD .skip) (connlaw_Scribble.RV R) [([(0, [1, 0, 0]), (2, [1, 0, 0]), (1, [0])], fun σ w => dL (slotOf σ 0) fun b_b_ b_l_ b_c_ => dI .i64 (slotOf σ 2) fun i_ => N1 b_b_ b_l_ b_c_ i_ w)] 2000) [(0, [1, 0, 0]), (2, [1, 0, 0]), (1, [0])] [(0, .slice b_b b_l b_c), (2, .int .i64 i)] w := by kernel_rfl
theorem connlaw_Scribble.L1b_sound {R : World → Prop} {N1 : Option Addr → Nat → Nat → Int → World → Prop} (hN1 : ∀ b_b b_l b_c i w, N1 b_b b_l b_c i w → KW Tryz.prog 44 15 (connlaw_Scribble.RV R) ([(0, [1, 0, 0]), (2, [1, 0, 0]), (1, [0])].map (toItem (Tryz.f44.body.getD .skip))) [(0, .slice b_b b_l b_c), (2, .int .i64 i)] w) (b_b : Option Addr) (b_l b_c : Nat) (i : Int) (w : World) (h : connlaw_Scribble.L1b b_b b_l b_c i w  N1 R) :
    KW Tryz.prog 44 15 (connlaw_Scribble.RV R) ([(0, [1, 0, 0]), (2, [1, 0, 0]), (1, [0])].map (toItem (Tryz.f44.body.getD .skip))) [(0, .slice b_b b_l b_c), (2, .int .i64 i)] w := by
  exact block_spec Tryz.func44 Tryz.mixed (stops_cons (fun σ w h => by
      obtain ⟨b_b_, b_l_, b_c_, e0, h⟩ := dL_elim h
      obtain ⟨i_, e1, h⟩ := dI_elim h
      exact (hN1 b_b_ b_l_ b_c_ i_ w h).weaken (Sub.cons (Sub.cons (Sub.nil _) e1) e0)) stops_nil) (Eq.mp (connlaw_Scribble.L1b_eq b_b b_l b_c i w  N1 R ) h)
def connlaw_Scribble.L1 (b_b : Option Addr) (b_l b_c : Nat) (i : Int) (w : World)  (R : World → Prop) : Prop :=
  ∃ (I : Nat → Option Addr → Nat → Nat → Int → World → Prop) (m : Nat), I m b_b b_l b_c i w ∧ ∀ m b_b b_l b_c i w, I m b_b b_l b_c i w → connlaw_Scribble.L1b b_b b_l b_c i w  (fun b_b' b_l' b_c' i' w' => ∃ m', m' < m ∧ I m' b_b' b_l' b_c' i' w') R
theorem connlaw_Scribble.L1_sound {R : World → Prop}  (b_b : Option Addr) (b_l b_c : Nat) (i : Int) (w : World) (h : connlaw_Scribble.L1 b_b b_l b_c i w  R) :
    KW Tryz.prog 44 15 (connlaw_Scribble.RV R) ([(0, [1, 0, 0]), (2, [1, 0, 0]), (1, [0])].map (toItem (Tryz.f44.body.getD .skip))) [(0, .slice b_b b_l b_c), (2, .int .i64 i)] w := by
  obtain ⟨I, m, hBase, hr⟩ := h
  refine KW.loop (fun m σ w => ∃ (b_b : Option Addr) (b_l b_c : Nat) (i : Int), σ = [(0, .slice b_b b_l b_c), (2, .int .i64 i)] ∧ I m b_b b_l b_c i w) ?_ m _ w ⟨b_b, b_l, b_c, i, rfl, hBase⟩
  rintro m ih σ w ⟨b_b, b_l, b_c, i, rfl, hI⟩
  exact connlaw_Scribble.L1b_sound  (N1 := fun b_b' b_l' b_c' i' w' => ∃ m', m' < m ∧ I m' b_b' b_l' b_c' i' w') (fun b_b' b_l' b_c' i' w' hx => by obtain ⟨m', hlt, hI'⟩ := hx; exact ih m' hlt _ w' ⟨b_b', b_l', b_c', i', rfl, hI'⟩) b_b b_l b_c i w (hr m b_b b_l b_c i w hI)
def connlaw_Scribble.B0 (b_b : Option Addr) (b_l b_c : Nat) (w : World)   (R : World → Prop) : Prop :=
  connlaw_Scribble.L1 b_b b_l b_c (0 : Int) w  R
theorem connlaw_Scribble.B0_eq (b_b : Option Addr) (b_l b_c : Nat) (w : World)   (R : World → Prop) (sL1 : Option Addr → Nat → Nat → Int → World → Prop) :
    (
  sL1 b_b b_l b_c (0 : Int) w) = kstep Tryz.prog 15 Tryz.f44.results.toList (Tryz.f44.body.getD .skip) (connlaw_Scribble.RV R) (kvc Tryz.prog 15 Tryz.f44.results.toList (Tryz.f44.body.getD .skip) (connlaw_Scribble.RV R) [([(0, [1, 0, 0]), (2, [1, 0, 0]), (1, [0])], fun σ w => dL (slotOf σ 0) fun b_b_ b_l_ b_c_ => dI .i64 (slotOf σ 2) fun i_ => sL1 b_b_ b_l_ b_c_ i_ w)] 2000) [(0, [])] [(0, .slice b_b b_l b_c)] w := by kernel_rfl
theorem connlaw_Scribble.B0_sound {R : World → Prop}  (b_b : Option Addr) (b_l b_c : Nat) (w : World) (h : connlaw_Scribble.B0 b_b b_l b_c w   R) :
    KW Tryz.prog 44 15 (connlaw_Scribble.RV R) ([(0, [])].map (toItem (Tryz.f44.body.getD .skip))) [(0, .slice b_b b_l b_c)] w := by
  exact block_spec Tryz.func44 Tryz.mixed (stops_cons (fun σ w h => by
      obtain ⟨b_b_, b_l_, b_c_, e0, h⟩ := dL_elim h
      obtain ⟨i_, e1, h⟩ := dI_elim h
      exact (connlaw_Scribble.L1_sound  b_b_ b_l_ b_c_ i_ w h).weaken (Sub.cons (Sub.cons (Sub.nil _) e1) e0)) stops_nil) (Eq.mp (connlaw_Scribble.B0_eq b_b b_l b_c w   R (fun b_b_ b_l_ b_c_ i_ w => connlaw_Scribble.L1 b_b_ b_l_ b_c_ i_ w  R)) h)
theorem connlaw_Scribble.sound (b_b : Option Addr) (b_l b_c : Nat) (w : World) (R : World → Prop) (h : connlaw_Scribble.B0 b_b b_l b_c w R) : connlaw_Scribble.Call b_b b_l b_c w R := by
  have hc := calls_of_block (args := #[.slice b_b b_l b_c]) Tryz.func44 (body := (Tryz.f44.body.getD .skip)) (by kernel_rfl) (by kernel_rfl) (args_slot _) (connlaw_Scribble.B0_sound b_b b_l b_c w h)
  exact hc.mono fun e w' he => by
    obtain ⟨v, rfl, hv⟩ := he
    exact connlaw_Scribble.RV_elim hv
end Go.Proofs.Qxb6500422aGreat
