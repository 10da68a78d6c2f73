import Derived.Test.Qxb6500422aGreatSig
set_option maxRecDepth 100000
set_option linter.unusedVariables false
open Go.Vc
namespace Go.Proofs.Qxb6500422aGreat
def api_SeqAdd.B0 (a n : Int) (w : World)   (R : Int → World → Prop) : Prop :=
  (256 : Int) ≠ 0 ∧
  (256 : Int) ≠ 0 ∧
  (256 : Int) ≠ 0 ∧
  (256 : Int) ≠ 0 ∧
  R ((IntKind.i64.wrap (((IntKind.i64.wrap ((a.tmod (256 : Int)) + (n.tmod (256 : Int)))).tmod (256 : Int)) + (256 : Int))).tmod (256 : Int)) w
theorem api_SeqAdd.B0_eq (a n : Int) (w : World)   (R : Int → World → Prop)  :
    (
  (256 : Int) ≠ 0 ∧
  (256 : Int) ≠ 0 ∧
  (256 : Int) ≠ 0 ∧
  (256 : Int) ≠ 0 ∧
  R ((IntKind.i64.wrap (((IntKind.i64.wrap ((a.tmod (256 : Int)) + (n.tmod (256 : Int)))).tmod (256 : Int)) + (256 : Int))).tmod (256 : Int)) w) = kstep Tryz.prog 13 Tryz.f60.results.toList (Tryz.f60.body.getD .skip) (api_SeqAdd.RV R) (kvc Tryz.prog 13 Tryz.f60.results.toList (Tryz.f60.body.getD .skip) (api_SeqAdd.RV R) [] 2000) [(0, [])] [(0, .int .i64 a), (1, .int .i64 n)] w := by kernel_rfl
theorem api_SeqAdd.B0_sound {R : Int → World → Prop}  (a n : Int) (w : World) (h : api_SeqAdd.B0 a n w   R) :
    KW Tryz.prog 60 13 (api_SeqAdd.RV R) ([(0, [])].map (toItem (Tryz.f60.body.getD .skip))) [(0, .int .i64 a), (1, .int .i64 n)] w := by
  exact block_spec Tryz.func60 Tryz.mixed stops_nil (Eq.mp (api_SeqAdd.B0_eq a n w   R ) h)
theorem api_SeqAdd.sound (a n : Int) (w : World) (R : Int → World → Prop) (h : api_SeqAdd.B0 a n w R) : api_SeqAdd.Call a n w R := by
  have hc := calls_of_block (args := #[.int .i64 a, .int .i64 n]) Tryz.func60 (body := (Tryz.f60.body.getD .skip)) (by kernel_rfl) (by kernel_rfl) (args_slot _) (api_SeqAdd.B0_sound a n w h)
  exact hc.mono fun e w' he => by
    obtain ⟨v, rfl, hv⟩ := he
    exact api_SeqAdd.RV_elim hv
def api_CopyBytes.B0 (b_b : Option Addr) (b_l b_c : Nat) (w : World)   (R : Option Addr → Nat → Nat → World → Prop) : Prop :=
  Make 5 (.int .u8 (0 : Int)) 1 1 ((b_l : Nat) : Int) ((b_l : Nat) : Int) w fun b6 w1 =>
  Copy 1 (some ⟨b6, 0, none⟩) (((b_l : Nat) : Int).toNat) b_b b_l w1 fun n9 w2 =>
  R (some ⟨b6, 0, none⟩) (((b_l : Nat) : Int).toNat) (((b_l : Nat) : Int).toNat) w2
theorem api_CopyBytes.B0_eq (b_b : Option Addr) (b_l b_c : Nat) (w : World)   (R : Option Addr → Nat → Nat → World → Prop)  :
    (
  Make 5 (.int .u8 (0 : Int)) 1 1 ((b_l : Nat) : Int) ((b_l : Nat) : Int) w fun b6 w1 =>
  Copy 1 (some ⟨b6, 0, none⟩) (((b_l : Nat) : Int).toNat) b_b b_l w1 fun n9 w2 =>
  R (some ⟨b6, 0, none⟩) (((b_l : Nat) : Int).toNat) (((b_l : Nat) : Int).toNat) w2) = kstep Tryz.prog 11 Tryz.f61.results.toList (Tryz.f61.body.getD .skip) (api_CopyBytes.RV R) (kvc Tryz.prog 11 Tryz.f61.results.toList (Tryz.f61.body.getD .skip) (api_CopyBytes.RV R) [] 2000) [(0, [])] [(0, .slice b_b b_l b_c)] w := by kernel_rfl
theorem api_CopyBytes.B0_sound {R : Option Addr → Nat → Nat → World → Prop}  (b_b : Option Addr) (b_l b_c : Nat) (w : World) (h : api_CopyBytes.B0 b_b b_l b_c w   R) :
    KW Tryz.prog 61 11 (api_CopyBytes.RV R) ([(0, [])].map (toItem (Tryz.f61.body.getD .skip))) [(0, .slice b_b b_l b_c)] w := by
  exact block_spec Tryz.func61 Tryz.mixed stops_nil (Eq.mp (api_CopyBytes.B0_eq b_b b_l b_c w   R ) h)
theorem api_CopyBytes.sound (b_b : Option Addr) (b_l b_c : Nat) (w : World) (R : Option Addr → Nat → Nat → World → Prop) (h : api_CopyBytes.B0 b_b b_l b_c w R) : api_CopyBytes.Call b_b b_l b_c w R := by
  have hc := calls_of_block (args := #[.slice b_b b_l b_c]) Tryz.func61 (body := (Tryz.f61.body.getD .skip)) (by kernel_rfl) (by kernel_rfl) (args_slot _) (api_CopyBytes.B0_sound b_b b_l b_c w h)
  exact hc.mono fun e w' he => by
    obtain ⟨v, rfl, hv⟩ := he
    exact api_CopyBytes.RV_elim hv
def conn_Conn_sent.B0 (c : Option Addr) (w : World)   (R : Int → World → Prop) : Prop :=
  Pn c fun a =>
  LdP a w fun x8 =>
  seg_SendBuf_Len.Call x8 w fun r9 w1 =>
  Pn c fun a_1 =>
  LdP a_1 w1 fun x13 =>
  seg_SendBuf_Unsent.Call x13 w1 fun r14 w2 =>
  R (IntKind.i64.wrap (r9 - r14)) w2
theorem conn_Conn_sent.B0_eq (c : Option Addr) (w : World)   (R : Int → World → Prop)  :
    (
  Pn c fun a =>
  LdP a w fun x8 =>
  seg_SendBuf_Len.Call x8 w fun r9 w1 =>
  Pn c fun a_1 =>
  LdP a_1 w1 fun x13 =>
  seg_SendBuf_Unsent.Call x13 w1 fun r14 w2 =>
  R (IntKind.i64.wrap (r9 - r14)) w2) = kstep Tryz.prog 18 Tryz.f62.results.toList (Tryz.f62.body.getD .skip) (conn_Conn_sent.RV R) (kvc Tryz.prog 18 Tryz.f62.results.toList (Tryz.f62.body.getD .skip) (conn_Conn_sent.RV R) [] 2000) [(0, [])] [(0, .pointer c)] w := by kernel_rfl
theorem conn_Conn_sent.B0_sound {R : Int → World → Prop}  (c : Option Addr) (w : World) (h : conn_Conn_sent.B0 c w   R) :
    KW Tryz.prog 62 18 (conn_Conn_sent.RV R) ([(0, [])].map (toItem (Tryz.f62.body.getD .skip))) [(0, .pointer c)] w := by
  exact block_spec Tryz.func62 Tryz.mixed stops_nil (Eq.mp (conn_Conn_sent.B0_eq c w   R ) h)
theorem conn_Conn_sent.sound (c : Option Addr) (w : World) (R : Int → World → Prop) (h : conn_Conn_sent.B0 c w R) : conn_Conn_sent.Call c w R := by
  have hc := calls_of_block (args := #[.pointer c]) Tryz.func62 (body := (Tryz.f62.body.getD .skip)) (by kernel_rfl) (by kernel_rfl) (args_slot _) (conn_Conn_sent.B0_sound c w h)
  exact hc.mono fun e w' he => by
    obtain ⟨v, rfl, hv⟩ := he
    exact conn_Conn_sent.RV_elim hv
def connlaw_CopySeg.B0 (s_0 s_1 s_2 s_3 s_4 s_5 : Int) (s_6_b : Option Addr) (s_6_l s_6_c : Nat) (w : World)   (R : Int → Int → Int → Int → Int → Int → Option Addr → Nat → Nat → World → Prop) : Prop :=
  New (.cells #[.int .i64 s_0, .int .i64 s_1, .int .i64 s_2, .int .i64 s_3, .int .i64 s_4, .int .i64 s_5, .slice s_6_b s_6_l s_6_c] 45) w fun s_ w1 =>
  New (.cells #[.int .i64 (0 : Int), .int .i64 (0 : Int), .int .i64 (0 : Int), .int .i64 (0 : Int), .int .i64 (0 : Int), .int .i64 (0 : Int), .slice none 0 0] 45) w1 fun b2 w2 =>
  LdL ⟨s_, 6, none⟩ w2 fun x4_b x4_l x4_c =>
  api_CopyBytes.Call x4_b x4_l x4_c w2 fun r5_b r5_l r5_c w3 =>
  Sts [.slice r5_b r5_l r5_c] ⟨s_, 6, none⟩ 0 w3 fun w4 =>
  LdI .i64 ⟨s_, 0, none⟩ w4 fun x7_0 =>
  LdI .i64 ⟨s_, 1, none⟩ w4 fun x7_1 =>
  LdI .i64 ⟨s_, 2, none⟩ w4 fun x7_2 =>
  LdI .i64 ⟨s_, 3, none⟩ w4 fun x7_3 =>
  LdI .i64 ⟨s_, 4, none⟩ w4 fun x7_4 =>
  LdI .i64 ⟨s_, 5, none⟩ w4 fun x7_5 =>
  LdL ⟨s_, 6, none⟩ w4 fun x7_6_b x7_6_l x7_6_c =>
  Sts [.int .i64 x7_0, .int .i64 x7_1, .int .i64 x7_2, .int .i64 x7_3, .int .i64 x7_4, .int .i64 x7_5, .slice x7_6_b x7_6_l x7_6_c] ⟨b2, 0, none⟩ 0 w4 fun w5 =>
  LdI .i64 ⟨b2, 0, none⟩ w5 fun r_0 =>
  LdI .i64 ⟨b2, 1, none⟩ w5 fun r_1 =>
  LdI .i64 ⟨b2, 2, none⟩ w5 fun r_2 =>
  LdI .i64 ⟨b2, 3, none⟩ w5 fun r_3 =>
  LdI .i64 ⟨b2, 4, none⟩ w5 fun r_4 =>
  LdI .i64 ⟨b2, 5, none⟩ w5 fun r_5 =>
  LdL ⟨b2, 6, none⟩ w5 fun r_6_b r_6_l r_6_c =>
  R r_0 r_1 r_2 r_3 r_4 r_5 r_6_b r_6_l r_6_c w5
theorem connlaw_CopySeg.B0_eq (s_0 s_1 s_2 s_3 s_4 s_5 : Int) (s_6_b : Option Addr) (s_6_l s_6_c : Nat) (w : World)   (R : Int → Int → Int → Int → Int → Int → Option Addr → Nat → Nat → World → Prop)  :
    (
  New (.cells #[.int .i64 s_0, .int .i64 s_1, .int .i64 s_2, .int .i64 s_3, .int .i64 s_4, .int .i64 s_5, .slice s_6_b s_6_l s_6_c] 45) w fun s_ w1 =>
  New (.cells #[.int .i64 (0 : Int), .int .i64 (0 : Int), .int .i64 (0 : Int), .int .i64 (0 : Int), .int .i64 (0 : Int), .int .i64 (0 : Int), .slice none 0 0] 45) w1 fun b2 w2 =>
  LdL ⟨s_, 6, none⟩ w2 fun x4_b x4_l x4_c =>
  api_CopyBytes.Call x4_b x4_l x4_c w2 fun r5_b r5_l r5_c w3 =>
  Sts [.slice r5_b r5_l r5_c] ⟨s_, 6, none⟩ 0 w3 fun w4 =>
  LdI .i64 ⟨s_, 0, none⟩ w4 fun x7_0 =>
  LdI .i64 ⟨s_, 1, none⟩ w4 fun x7_1 =>
  LdI .i64 ⟨s_, 2, none⟩ w4 fun x7_2 =>
  LdI .i64 ⟨s_, 3, none⟩ w4 fun x7_3 =>
  LdI .i64 ⟨s_, 4, none⟩ w4 fun x7_4 =>
  LdI .i64 ⟨s_, 5, none⟩ w4 fun x7_5 =>
  LdL ⟨s_, 6, none⟩ w4 fun x7_6_b x7_6_l x7_6_c =>
  Sts [.int .i64 x7_0, .int .i64 x7_1, .int .i64 x7_2, .int .i64 x7_3, .int .i64 x7_4, .int .i64 x7_5, .slice x7_6_b x7_6_l x7_6_c] ⟨b2, 0, none⟩ 0 w4 fun w5 =>
  LdI .i64 ⟨b2, 0, none⟩ w5 fun r_0 =>
  LdI .i64 ⟨b2, 1, none⟩ w5 fun r_1 =>
  LdI .i64 ⟨b2, 2, none⟩ w5 fun r_2 =>
  LdI .i64 ⟨b2, 3, none⟩ w5 fun r_3 =>
  LdI .i64 ⟨b2, 4, none⟩ w5 fun r_4 =>
  LdI .i64 ⟨b2, 5, none⟩ w5 fun r_5 =>
  LdL ⟨b2, 6, none⟩ w5 fun r_6_b r_6_l r_6_c =>
  R r_0 r_1 r_2 r_3 r_4 r_5 r_6_b r_6_l r_6_c w5) = kstep Tryz.prog 8 Tryz.f63.results.toList (Tryz.f63.body.getD .skip) (connlaw_CopySeg.RV R) (kvc Tryz.prog 8 Tryz.f63.results.toList (Tryz.f63.body.getD .skip) (connlaw_CopySeg.RV R) [] 2000) [(0, [])] [(0, .agg #[.int .i64 s_0, .int .i64 s_1, .int .i64 s_2, .int .i64 s_3, .int .i64 s_4, .int .i64 s_5, .slice s_6_b s_6_l s_6_c])] w := by kernel_rfl
theorem connlaw_CopySeg.B0_sound {R : Int → Int → Int → Int → Int → Int → Option Addr → Nat → Nat → World → Prop}  (s_0 s_1 s_2 s_3 s_4 s_5 : Int) (s_6_b : Option Addr) (s_6_l s_6_c : Nat) (w : World) (h : connlaw_CopySeg.B0 s_0 s_1 s_2 s_3 s_4 s_5 s_6_b s_6_l s_6_c w   R) :
    KW Tryz.prog 63 8 (connlaw_CopySeg.RV R) ([(0, [])].map (toItem (Tryz.f63.body.getD .skip))) [(0, .agg #[.int .i64 s_0, .int .i64 s_1, .int .i64 s_2, .int .i64 s_3, .int .i64 s_4, .int .i64 s_5, .slice s_6_b s_6_l s_6_c])] w := by
  exact block_spec Tryz.func63 Tryz.mixed stops_nil (Eq.mp (connlaw_CopySeg.B0_eq s_0 s_1 s_2 s_3 s_4 s_5 s_6_b s_6_l s_6_c w   R ) h)
theorem connlaw_CopySeg.sound (s_0 s_1 s_2 s_3 s_4 s_5 : Int) (s_6_b : Option Addr) (s_6_l s_6_c : Nat) (w : World) (R : Int → Int → Int → Int → Int → Int → Option Addr → Nat → Nat → World → Prop) (h : connlaw_CopySeg.B0 s_0 s_1 s_2 s_3 s_4 s_5 s_6_b s_6_l s_6_c w R) : connlaw_CopySeg.Call s_0 s_1 s_2 s_3 s_4 s_5 s_6_b s_6_l s_6_c w R := by
  have hc := calls_of_block (args := #[.agg #[.int .i64 s_0, .int .i64 s_1, .int .i64 s_2, .int .i64 s_3, .int .i64 s_4, .int .i64 s_5, .slice s_6_b s_6_l s_6_c]]) Tryz.func63 (body := (Tryz.f63.body.getD .skip)) (by kernel_rfl) (by kernel_rfl) (args_slot _) (connlaw_CopySeg.B0_sound s_0 s_1 s_2 s_3 s_4 s_5 s_6_b s_6_l s_6_c w h)
  exact hc.mono fun e w' he => by
    obtain ⟨v, rfl, hv⟩ := he
    exact connlaw_CopySeg.RV_elim hv
def conn_Conn_Input.B1 (c : Option Addr) (s : Nat) (t31 : Bool) (w : World)   (R : Option Addr → Nat → Nat → World → Prop) : Prop :=
  Bm t31 (
    LdI .i64 ⟨s, 0, none⟩ w fun x35_0 =>
    LdI .i64 ⟨s, 1, none⟩ w fun x35_1 =>
    LdI .i64 ⟨s, 2, none⟩ w fun x35_2 =>
    LdI .i64 ⟨s, 3, none⟩ w fun x35_3 =>
    LdI .i64 ⟨s, 4, none⟩ w fun x35_4 =>
    LdI .i64 ⟨s, 5, none⟩ w fun x35_5 =>
    LdL ⟨s, 6, none⟩ w fun x35_6_b x35_6_l x35_6_c =>
    conn_Conn_inSync.Call c x35_0 x35_1 x35_2 x35_3 x35_4 x35_5 x35_6_b x35_6_l x35_6_c w fun r36_b r36_l r36_c w1 =>
    R r36_b r36_l r36_c w1) (
    New (.cells #[] 45) w fun b37 w2 =>
    R (some ⟨b37, 0, none⟩) 0 0 w2)
theorem conn_Conn_Input.B1_eq (c : Option Addr) (s : Nat) (t31 : Bool) (w : World)   (R : Option Addr → Nat → Nat → World → Prop)  :
    (
  Bm t31 (
    LdI .i64 ⟨s, 0, none⟩ w fun x35_0 =>
    LdI .i64 ⟨s, 1, none⟩ w fun x35_1 =>
    LdI .i64 ⟨s, 2, none⟩ w fun x35_2 =>
    LdI .i64 ⟨s, 3, none⟩ w fun x35_3 =>
    LdI .i64 ⟨s, 4, none⟩ w fun x35_4 =>
    LdI .i64 ⟨s, 5, none⟩ w fun x35_5 =>
    LdL ⟨s, 6, none⟩ w fun x35_6_b x35_6_l x35_6_c =>
    conn_Conn_inSync.Call c x35_0 x35_1 x35_2 x35_3 x35_4 x35_5 x35_6_b x35_6_l x35_6_c w fun r36_b r36_l r36_c w1 =>
    R r36_b r36_l r36_c w1) (
    New (.cells #[] 45) w fun b37 w2 =>
    R (some ⟨b37, 0, none⟩) 0 0 w2)) = kstep Tryz.prog 38 Tryz.f64.results.toList (Tryz.f64.body.getD .skip) (conn_Conn_Input.RV R) (kvc Tryz.prog 38 Tryz.f64.results.toList (Tryz.f64.body.getD .skip) (conn_Conn_Input.RV R) [] 2000) [(0, [1, 1, 1, 1, 0, 1, 0, 1, 1, 1, 1, 1]), (1, [0]), (0, [1, 1, 1, 1, 1])] [(0, .pointer c), (3, .pointer (some ⟨s, 0, none⟩)), (31, .bool t31)] w := by kernel_rfl
theorem conn_Conn_Input.B1_sound {R : Option Addr → Nat → Nat → World → Prop}  (c : Option Addr) (s : Nat) (t31 : Bool) (w : World) (h : conn_Conn_Input.B1 c s t31 w   R) :
    KW Tryz.prog 64 38 (conn_Conn_Input.RV R) ([(0, [1, 1, 1, 1, 0, 1, 0, 1, 1, 1, 1, 1]), (1, [0]), (0, [1, 1, 1, 1, 1])].map (toItem (Tryz.f64.body.getD .skip))) [(0, .pointer c), (3, .pointer (some ⟨s, 0, none⟩)), (31, .bool t31)] w := by
  exact block_spec Tryz.func64 Tryz.mixed stops_nil (Eq.mp (conn_Conn_Input.B1_eq c s t31 w   R ) h)
def conn_Conn_Input.B0 (c : Option Addr) (s_0 s_1 s_2 s_3 s_4 s_5 : Int) (s_6_b : Option Addr) (s_6_l s_6_c : Nat) (w : World)   (R : Option Addr → Nat → Nat → World → Prop) : Prop :=
  New (.cells #[.int .i64 s_0, .int .i64 s_1, .int .i64 s_2, .int .i64 s_3, .int .i64 s_4, .int .i64 s_5, .slice s_6_b s_6_l s_6_c] 45) w fun s_ w1 =>
  LdI .i64 ⟨s_, 2, none⟩ w1 fun x6 =>
  api_SeqAdd.Call x6 (0 : Int) w1 fun r7 w2 =>
  Sts [.int .i64 r7] ⟨s_, 2, none⟩ 0 w2 fun w3 =>
  LdI .i64 ⟨s_, 3, none⟩ w3 fun x10 =>
  api_SeqAdd.Call x10 (0 : Int) w3 fun r11 w4 =>
  Sts [.int .i64 r11] ⟨s_, 3, none⟩ 0 w4 fun w5 =>
  LdI .i64 ⟨s_, 4, none⟩ w5 fun x14 =>
  Sts [.int .i64 (IntKind.i64.wrap (BitVec.ofInt IntKind.i64.bits x14 &&& BitVec.ofInt IntKind.i64.bits (15 : Int)).toNat)] ⟨s_, 4, none⟩ 0 w5 fun w6 =>
  Pn c fun a =>
  LdI .i64 (a.add 2) w6 fun x20 =>
  Bm (x20 == (4 : Int)) (
    LdI .i64 ⟨s_, 0, none⟩ w6 fun x24_0 =>
    LdI .i64 ⟨s_, 1, none⟩ w6 fun x24_1 =>
    LdI .i64 ⟨s_, 2, none⟩ w6 fun x24_2 =>
    LdI .i64 ⟨s_, 3, none⟩ w6 fun x24_3 =>
    LdI .i64 ⟨s_, 4, none⟩ w6 fun x24_4 =>
    LdI .i64 ⟨s_, 5, none⟩ w6 fun x24_5 =>
    LdL ⟨s_, 6, none⟩ w6 fun x24_6_b x24_6_l x24_6_c =>
    conn_Conn_inQuiet.Call c x24_0 x24_1 x24_2 x24_3 x24_4 x24_5 x24_6_b x24_6_l x24_6_c w6 fun r25_b r25_l r25_c w7 =>
    R r25_b r25_l r25_c w7) (
    Bm (x20 == (1 : Int)) (
      LdI .i64 ⟨s_, 0, none⟩ w6 fun x29_0 =>
      LdI .i64 ⟨s_, 1, none⟩ w6 fun x29_1 =>
      LdI .i64 ⟨s_, 2, none⟩ w6 fun x29_2 =>
      LdI .i64 ⟨s_, 3, none⟩ w6 fun x29_3 =>
      LdI .i64 ⟨s_, 4, none⟩ w6 fun x29_4 =>
      LdI .i64 ⟨s_, 5, none⟩ w6 fun x29_5 =>
      LdL ⟨s_, 6, none⟩ w6 fun x29_6_b x29_6_l x29_6_c =>
      conn_Conn_inSynSent.Call c x29_0 x29_1 x29_2 x29_3 x29_4 x29_5 x29_6_b x29_6_l x29_6_c w6 fun r30_b r30_l r30_c w8 =>
      R r30_b r30_l r30_c w8) (
      Bm (x20 == (2 : Int)) (
        conn_Conn_Input.B1 c s_ (x20 == (2 : Int)) w6  R) (
        conn_Conn_Input.B1 c s_ (x20 == (3 : Int)) w6  R)))
theorem conn_Conn_Input.B0_eq (c : Option Addr) (s_0 s_1 s_2 s_3 s_4 s_5 : Int) (s_6_b : Option Addr) (s_6_l s_6_c : Nat) (w : World)   (R : Option Addr → Nat → Nat → World → Prop) (sB1 : Option Addr → Nat → Bool → World → Prop) :
    (
  New (.cells #[.int .i64 s_0, .int .i64 s_1, .int .i64 s_2, .int .i64 s_3, .int .i64 s_4, .int .i64 s_5, .slice s_6_b s_6_l s_6_c] 45) w fun s_ w1 =>
  LdI .i64 ⟨s_, 2, none⟩ w1 fun x6 =>
  api_SeqAdd.Call x6 (0 : Int) w1 fun r7 w2 =>
  Sts [.int .i64 r7] ⟨s_, 2, none⟩ 0 w2 fun w3 =>
  LdI .i64 ⟨s_, 3, none⟩ w3 fun x10 =>
  api_SeqAdd.Call x10 (0 : Int) w3 fun r11 w4 =>
  Sts [.int .i64 r11] ⟨s_, 3, none⟩ 0 w4 fun w5 =>
  LdI .i64 ⟨s_, 4, none⟩ w5 fun x14 =>
  Sts [.int .i64 (IntKind.i64.wrap (BitVec.ofInt IntKind.i64.bits x14 &&& BitVec.ofInt IntKind.i64.bits (15 : Int)).toNat)] ⟨s_, 4, none⟩ 0 w5 fun w6 =>
  Pn c fun a =>
  LdI .i64 (a.add 2) w6 fun x20 =>
  Bm (x20 == (4 : Int)) (
    LdI .i64 ⟨s_, 0, none⟩ w6 fun x24_0 =>
    LdI .i64 ⟨s_, 1, none⟩ w6 fun x24_1 =>
    LdI .i64 ⟨s_, 2, none⟩ w6 fun x24_2 =>
    LdI .i64 ⟨s_, 3, none⟩ w6 fun x24_3 =>
    LdI .i64 ⟨s_, 4, none⟩ w6 fun x24_4 =>
    LdI .i64 ⟨s_, 5, none⟩ w6 fun x24_5 =>
    LdL ⟨s_, 6, none⟩ w6 fun x24_6_b x24_6_l x24_6_c =>
    conn_Conn_inQuiet.Call c x24_0 x24_1 x24_2 x24_3 x24_4 x24_5 x24_6_b x24_6_l x24_6_c w6 fun r25_b r25_l r25_c w7 =>
    R r25_b r25_l r25_c w7) (
    Bm (x20 == (1 : Int)) (
      LdI .i64 ⟨s_, 0, none⟩ w6 fun x29_0 =>
      LdI .i64 ⟨s_, 1, none⟩ w6 fun x29_1 =>
      LdI .i64 ⟨s_, 2, none⟩ w6 fun x29_2 =>
      LdI .i64 ⟨s_, 3, none⟩ w6 fun x29_3 =>
      LdI .i64 ⟨s_, 4, none⟩ w6 fun x29_4 =>
      LdI .i64 ⟨s_, 5, none⟩ w6 fun x29_5 =>
      LdL ⟨s_, 6, none⟩ w6 fun x29_6_b x29_6_l x29_6_c =>
      conn_Conn_inSynSent.Call c x29_0 x29_1 x29_2 x29_3 x29_4 x29_5 x29_6_b x29_6_l x29_6_c w6 fun r30_b r30_l r30_c w8 =>
      R r30_b r30_l r30_c w8) (
      Bm (x20 == (2 : Int)) (
        sB1 c s_ (x20 == (2 : Int)) w6) (
        sB1 c s_ (x20 == (3 : Int)) w6)))) = kstep Tryz.prog 38 Tryz.f64.results.toList (Tryz.f64.body.getD .skip) (conn_Conn_Input.RV R) (kvc Tryz.prog 38 Tryz.f64.results.toList (Tryz.f64.body.getD .skip) (conn_Conn_Input.RV R) [([(0, [1, 1, 1, 1, 0, 1, 0, 1, 1, 1, 1, 1]), (1, [0]), (0, [1, 1, 1, 1, 1])], fun σ w => dP (slotOf σ 0) fun c_ => dK (slotOf σ 3) fun s_ => dB (slotOf σ 31) fun t31_ => sB1 c_ s_ t31_ w)] 2000) [(0, [])] [(0, .pointer c), (1, .agg #[.int .i64 s_0, .int .i64 s_1, .int .i64 s_2, .int .i64 s_3, .int .i64 s_4, .int .i64 s_5, .slice s_6_b s_6_l s_6_c])] w := by kernel_rfl
theorem conn_Conn_Input.B0_sound {R : Option Addr → Nat → Nat → World → Prop}  (c : Option Addr) (s_0 s_1 s_2 s_3 s_4 s_5 : Int) (s_6_b : Option Addr) (s_6_l s_6_c : Nat) (w : World) (h : conn_Conn_Input.B0 c s_0 s_1 s_2 s_3 s_4 s_5 s_6_b s_6_l s_6_c w   R) :
    KW Tryz.prog 64 38 (conn_Conn_Input.RV R) ([(0, [])].map (toItem (Tryz.f64.body.getD .skip))) [(0, .pointer c), (1, .agg #[.int .i64 s_0, .int .i64 s_1, .int .i64 s_2, .int .i64 s_3, .int .i64 s_4, .int .i64 s_5, .slice s_6_b s_6_l s_6_c])] w := by
  exact block_spec Tryz.func64 Tryz.mixed (stops_cons (fun σ w h => by
      obtain ⟨c_, e0, h⟩ := dP_elim h
      obtain ⟨s_, e1, h⟩ := dK_elim h
      obtain ⟨t31_, e2, h⟩ := dB_elim h
      exact (conn_Conn_Input.B1_sound  c_ s_ t31_ w h).weaken (Sub.cons (Sub.cons (Sub.cons (Sub.nil _) e2) e1) e0)) stops_nil) (Eq.mp (conn_Conn_Input.B0_eq c s_0 s_1 s_2 s_3 s_4 s_5 s_6_b s_6_l s_6_c w   R (fun c_ s_ t31_ w => conn_Conn_Input.B1 c_ s_ t31_ w  R)) h)
theorem conn_Conn_Input.sound (c : Option Addr) (s_0 s_1 s_2 s_3 s_4 s_5 : Int) (s_6_b : Option Addr) (s_6_l s_6_c : Nat) (w : World) (R : Option Addr → Nat → Nat → World → Prop) (h : conn_Conn_Input.B0 c s_0 s_1 s_2 s_3 s_4 s_5 s_6_b s_6_l s_6_c w R) : conn_Conn_Input.Call c s_0 s_1 s_2 s_3 s_4 s_5 s_6_b s_6_l s_6_c w R := by
  have hc := calls_of_block (args := #[.pointer c, .agg #[.int .i64 s_0, .int .i64 s_1, .int .i64 s_2, .int .i64 s_3, .int .i64 s_4, .int .i64 s_5, .slice s_6_b s_6_l s_6_c]]) Tryz.func64 (body := (Tryz.f64.body.getD .skip)) (by kernel_rfl) (by kernel_rfl) (args_slot _) (conn_Conn_Input.B0_sound c s_0 s_1 s_2 s_3 s_4 s_5 s_6_b s_6_l s_6_c w h)
  exact hc.mono fun e w' he => by
    obtain ⟨v, rfl, hv⟩ := he
    exact conn_Conn_Input.RV_elim hv
def connm_Conn_Input.B1 (c none0_b : Option Addr) (none0_l none0_c : Nat) (t54 : Bool) (w : World)   (R : Option Addr → Nat → Nat → World → Prop) : Prop :=
  Bm t54 (
    connm_Conn_ack.Call c w fun r56_0 r56_1 r56_2 r56_3 r56_4 r56_5 r56_6_b r56_6_l r56_6_c w1 =>
    New (.cells #[.int .i64 r56_0, .int .i64 r56_1, .int .i64 r56_2, .int .i64 r56_3, .int .i64 r56_4, .int .i64 r56_5, .slice r56_6_b r56_6_l r56_6_c] 45) w1 fun b57 w2 =>
    R (some ⟨b57, 0, none⟩) 1 1 w2) (
    R none0_b none0_l none0_c w)
theorem connm_Conn_Input.B1_eq (c none0_b : Option Addr) (none0_l none0_c : Nat) (t54 : Bool) (w : World)   (R : Option Addr → Nat → Nat → World → Prop)  :
    (
  Bm t54 (
    connm_Conn_ack.Call c w fun r56_0 r56_1 r56_2 r56_3 r56_4 r56_5 r56_6_b r56_6_l r56_6_c w1 =>
    New (.cells #[.int .i64 r56_0, .int .i64 r56_1, .int .i64 r56_2, .int .i64 r56_3, .int .i64 r56_4, .int .i64 r56_5, .slice r56_6_b r56_6_l r56_6_c] 45) w1 fun b57 w2 =>
    R (some ⟨b57, 0, none⟩) 1 1 w2) (
    R none0_b none0_l none0_c w)) = kstep Tryz.prog 360 Tryz.f65.results.toList (Tryz.f65.body.getD .skip) (connm_Conn_Input.RV R) (kvc Tryz.prog 360 Tryz.f65.results.toList (Tryz.f65.body.getD .skip) (connm_Conn_Input.RV R) [] 2000) [(0, [1, 1, 1, 1, 1, 0, 1, 0, 1, 1, 1, 0, 0, 1]), (0, [1, 1, 1, 1, 1, 0, 1, 0, 1, 1, 1, 0, 1]), (1, [0]), (0, [1, 1, 1, 1, 1, 1])] [(0, .pointer c), (8, .slice none0_b none0_l none0_c), (54, .bool t54)] w := by kernel_rfl
theorem connm_Conn_Input.B1_sound {R : Option Addr → Nat → Nat → World → Prop}  (c none0_b : Option Addr) (none0_l none0_c : Nat) (t54 : Bool) (w : World) (h : connm_Conn_Input.B1 c none0_b none0_l none0_c t54 w   R) :
    KW Tryz.prog 65 360 (connm_Conn_Input.RV R) ([(0, [1, 1, 1, 1, 1, 0, 1, 0, 1, 1, 1, 0, 0, 1]), (0, [1, 1, 1, 1, 1, 0, 1, 0, 1, 1, 1, 0, 1]), (1, [0]), (0, [1, 1, 1, 1, 1, 1])].map (toItem (Tryz.f65.body.getD .skip))) [(0, .pointer c), (8, .slice none0_b none0_l none0_c), (54, .bool t54)] w := by
  exact block_spec Tryz.func65 Tryz.mixed stops_nil (Eq.mp (connm_Conn_Input.B1_eq c none0_b none0_l none0_c t54 w   R ) h)
def connm_Conn_Input.B5 (c : Option Addr) (s : Nat) (seq ackn : Int) (none0_b : Option Addr) (none0_l none0_c : Nat) (t96 : Bool) (w : World)   (R : Option Addr → Nat → Nat → World → Prop) : Prop :=
  Bm t96 (
    R none0_b none0_l none0_c w) (
    api_SeqAdd.Call seq (1 : Int) w fun r99 w1 =>
    LdI .i64 ⟨s, 5, none⟩ w1 fun x101 =>
    connm_wnd.Call x101 w1 fun r102 w2 =>
    Pn c fun a =>
    Sts [.int .i64 (3 : Int)] a 0 w2 fun w3 =>
    Pn c fun a_1 =>
    Sts [.int .i64 ackn] (a_1.add 7) 0 w3 fun w4 =>
    Pn c fun a_2 =>
    Sts [.int .i64 r99] (a_2.add 10) 0 w4 fun w5 =>
    Pn c fun a_3 =>
    Sts [.int .i64 r102] (a_3.add 44) 0 w5 fun w6 =>
    Pn c fun a_4 =>
    Sts [.int .i64 (0 : Int)] (a_4.add 45) 0 w6 fun w7 =>
    Pn c fun a_5 =>
    Sts [.int .i64 (0 : Int)] (a_5.add 46) 0 w7 fun w8 =>
    connm_Conn_ack.Call c w8 fun r125_0 r125_1 r125_2 r125_3 r125_4 r125_5 r125_6_b r125_6_l r125_6_c w9 =>
    New (.cells #[.int .i64 r125_0, .int .i64 r125_1, .int .i64 r125_2, .int .i64 r125_3, .int .i64 r125_4, .int .i64 r125_5, .slice r125_6_b r125_6_l r125_6_c] 45) w9 fun b126 w10 =>
    R (some ⟨b126, 0, none⟩) 1 1 w10)
theorem connm_Conn_Input.B5_eq (c : Option Addr) (s : Nat) (seq ackn : Int) (none0_b : Option Addr) (none0_l none0_c : Nat) (t96 : Bool) (w : World)   (R : Option Addr → Nat → Nat → World → Prop)  :
    (
  Bm t96 (
    R none0_b none0_l none0_c w) (
    api_SeqAdd.Call seq (1 : Int) w fun r99 w1 =>
    LdI .i64 ⟨s, 5, none⟩ w1 fun x101 =>
    connm_wnd.Call x101 w1 fun r102 w2 =>
    Pn c fun a =>
    Sts [.int .i64 (3 : Int)] a 0 w2 fun w3 =>
    Pn c fun a_1 =>
    Sts [.int .i64 ackn] (a_1.add 7) 0 w3 fun w4 =>
    Pn c fun a_2 =>
    Sts [.int .i64 r99] (a_2.add 10) 0 w4 fun w5 =>
    Pn c fun a_3 =>
    Sts [.int .i64 r102] (a_3.add 44) 0 w5 fun w6 =>
    Pn c fun a_4 =>
    Sts [.int .i64 (0 : Int)] (a_4.add 45) 0 w6 fun w7 =>
    Pn c fun a_5 =>
    Sts [.int .i64 (0 : Int)] (a_5.add 46) 0 w7 fun w8 =>
    connm_Conn_ack.Call c w8 fun r125_0 r125_1 r125_2 r125_3 r125_4 r125_5 r125_6_b r125_6_l r125_6_c w9 =>
    New (.cells #[.int .i64 r125_0, .int .i64 r125_1, .int .i64 r125_2, .int .i64 r125_3, .int .i64 r125_4, .int .i64 r125_5, .slice r125_6_b r125_6_l r125_6_c] 45) w9 fun b126 w10 =>
    R (some ⟨b126, 0, none⟩) 1 1 w10)) = kstep Tryz.prog 360 Tryz.f65.results.toList (Tryz.f65.body.getD .skip) (connm_Conn_Input.RV R) (kvc Tryz.prog 360 Tryz.f65.results.toList (Tryz.f65.body.getD .skip) (connm_Conn_Input.RV R) [] 2000) [(0, [1, 1, 1, 1, 1, 0, 1, 0, 1, 1, 1, 1, 1, 0, 1, 1, 0, 1]), (0, [1, 1, 1, 1, 1, 0, 1, 0, 1, 1, 1, 1, 1, 0, 1, 1, 1]), (1, [0]), (0, [1, 1, 1, 1, 1, 1])] [(0, .pointer c), (3, .pointer (some ⟨s, 0, none⟩)), (5, .int .i64 seq), (6, .int .i64 ackn), (8, .slice none0_b none0_l none0_c), (96, .bool t96)] w := by kernel_rfl
theorem connm_Conn_Input.B5_sound {R : Option Addr → Nat → Nat → World → Prop}  (c : Option Addr) (s : Nat) (seq ackn : Int) (none0_b : Option Addr) (none0_l none0_c : Nat) (t96 : Bool) (w : World) (h : connm_Conn_Input.B5 c s seq ackn none0_b none0_l none0_c t96 w   R) :
    KW Tryz.prog 65 360 (connm_Conn_Input.RV R) ([(0, [1, 1, 1, 1, 1, 0, 1, 0, 1, 1, 1, 1, 1, 0, 1, 1, 0, 1]), (0, [1, 1, 1, 1, 1, 0, 1, 0, 1, 1, 1, 1, 1, 0, 1, 1, 1]), (1, [0]), (0, [1, 1, 1, 1, 1, 1])].map (toItem (Tryz.f65.body.getD .skip))) [(0, .pointer c), (3, .pointer (some ⟨s, 0, none⟩)), (5, .int .i64 seq), (6, .int .i64 ackn), (8, .slice none0_b none0_l none0_c), (96, .bool t96)] w := by
  exact block_spec Tryz.func65 Tryz.mixed stops_nil (Eq.mp (connm_Conn_Input.B5_eq c s seq ackn none0_b none0_l none0_c t96 w   R ) h)
def connm_Conn_Input.B2 (c : Option Addr) (s : Nat) (seq ackn f : Int) (none0_b : Option Addr) (none0_l none0_c : Nat) (t72 : Bool) (w : World)   (R : Option Addr → Nat → Nat → World → Prop) : Prop :=
  Bm t72 (
    Bm ((IntKind.i64.wrap (BitVec.ofInt IntKind.i64.bits f &&& BitVec.ofInt IntKind.i64.bits (8 : Int)).toNat) != (0 : Int)) (
      R none0_b none0_l none0_c w) (
      connm_rst.Call ackn w fun r78_0 r78_1 r78_2 r78_3 r78_4 r78_5 r78_6_b r78_6_l r78_6_c w1 =>
      New (.cells #[.int .i64 r78_0, .int .i64 r78_1, .int .i64 r78_2, .int .i64 r78_3, .int .i64 r78_4, .int .i64 r78_5, .slice r78_6_b r78_6_l r78_6_c] 45) w1 fun b79 w2 =>
      R (some ⟨b79, 0, none⟩) 1 1 w2)) (
    Bm ((IntKind.i64.wrap (BitVec.ofInt IntKind.i64.bits f &&& BitVec.ofInt IntKind.i64.bits (8 : Int)).toNat) != (0 : Int)) (
      Bm ((IntKind.i64.wrap (BitVec.ofInt IntKind.i64.bits f &&& BitVec.ofInt IntKind.i64.bits (2 : Int)).toNat) != (0 : Int)) (
        connm_Conn_fail.Call c (18 : Int) w fun w3 =>
        R none0_b none0_l none0_c w3) (
        R none0_b none0_l none0_c w)) (
      Bm ((IntKind.i64.wrap (BitVec.ofInt IntKind.i64.bits f &&& BitVec.ofInt IntKind.i64.bits (1 : Int)).toNat) == (0 : Int)) (
        connm_Conn_Input.B5 c s seq ackn none0_b none0_l none0_c true w  R) (
        connm_Conn_Input.B5 c s seq ackn none0_b none0_l none0_c ((IntKind.i64.wrap (BitVec.ofInt IntKind.i64.bits f &&& BitVec.ofInt IntKind.i64.bits (2 : Int)).toNat) == (0 : Int)) w  R)))
theorem connm_Conn_Input.B2_eq (c : Option Addr) (s : Nat) (seq ackn f : Int) (none0_b : Option Addr) (none0_l none0_c : Nat) (t72 : Bool) (w : World)   (R : Option Addr → Nat → Nat → World → Prop) (sB5 : Option Addr → Nat → Int → Int → Option Addr → Nat → Nat → Bool → World → Prop) :
    (
  Bm t72 (
    Bm ((IntKind.i64.wrap (BitVec.ofInt IntKind.i64.bits f &&& BitVec.ofInt IntKind.i64.bits (8 : Int)).toNat) != (0 : Int)) (
      R none0_b none0_l none0_c w) (
      connm_rst.Call ackn w fun r78_0 r78_1 r78_2 r78_3 r78_4 r78_5 r78_6_b r78_6_l r78_6_c w1 =>
      New (.cells #[.int .i64 r78_0, .int .i64 r78_1, .int .i64 r78_2, .int .i64 r78_3, .int .i64 r78_4, .int .i64 r78_5, .slice r78_6_b r78_6_l r78_6_c] 45) w1 fun b79 w2 =>
      R (some ⟨b79, 0, none⟩) 1 1 w2)) (
    Bm ((IntKind.i64.wrap (BitVec.ofInt IntKind.i64.bits f &&& BitVec.ofInt IntKind.i64.bits (8 : Int)).toNat) != (0 : Int)) (
      Bm ((IntKind.i64.wrap (BitVec.ofInt IntKind.i64.bits f &&& BitVec.ofInt IntKind.i64.bits (2 : Int)).toNat) != (0 : Int)) (
        connm_Conn_fail.Call c (18 : Int) w fun w3 =>
        R none0_b none0_l none0_c w3) (
        R none0_b none0_l none0_c w)) (
      Bm ((IntKind.i64.wrap (BitVec.ofInt IntKind.i64.bits f &&& BitVec.ofInt IntKind.i64.bits (1 : Int)).toNat) == (0 : Int)) (
        sB5 c s seq ackn none0_b none0_l none0_c true w) (
        sB5 c s seq ackn none0_b none0_l none0_c ((IntKind.i64.wrap (BitVec.ofInt IntKind.i64.bits f &&& BitVec.ofInt IntKind.i64.bits (2 : Int)).toNat) == (0 : Int)) w)))) = kstep Tryz.prog 360 Tryz.f65.results.toList (Tryz.f65.body.getD .skip) (connm_Conn_Input.RV R) (kvc Tryz.prog 360 Tryz.f65.results.toList (Tryz.f65.body.getD .skip) (connm_Conn_Input.RV R) [([(0, [1, 1, 1, 1, 1, 0, 1, 0, 1, 1, 1, 1, 1, 0, 1, 1, 0, 1]), (0, [1, 1, 1, 1, 1, 0, 1, 0, 1, 1, 1, 1, 1, 0, 1, 1, 1]), (1, [0]), (0, [1, 1, 1, 1, 1, 1])], fun σ w => dP (slotOf σ 0) fun c_ => dK (slotOf σ 3) fun s_ => dI .i64 (slotOf σ 5) fun seq_ => dI .i64 (slotOf σ 6) fun ackn_ => dL (slotOf σ 8) fun none0_b_ none0_l_ none0_c_ => dB (slotOf σ 96) fun t96_ => sB5 c_ s_ seq_ ackn_ none0_b_ none0_l_ none0_c_ t96_ w)] 2000) [(0, [1, 1, 1, 1, 1, 0, 1, 0, 1, 1, 1, 1, 1, 0, 0, 1]), (0, [1, 1, 1, 1, 1, 0, 1, 0, 1, 1, 1, 1, 1, 0, 1]), (1, [0]), (0, [1, 1, 1, 1, 1, 1])] [(0, .pointer c), (3, .pointer (some ⟨s, 0, none⟩)), (5, .int .i64 seq), (6, .int .i64 ackn), (7, .int .i64 f), (8, .slice none0_b none0_l none0_c), (72, .bool t72)] w := by kernel_rfl
theorem connm_Conn_Input.B2_sound {R : Option Addr → Nat → Nat → World → Prop}  (c : Option Addr) (s : Nat) (seq ackn f : Int) (none0_b : Option Addr) (none0_l none0_c : Nat) (t72 : Bool) (w : World) (h : connm_Conn_Input.B2 c s seq ackn f none0_b none0_l none0_c t72 w   R) :
    KW Tryz.prog 65 360 (connm_Conn_Input.RV R) ([(0, [1, 1, 1, 1, 1, 0, 1, 0, 1, 1, 1, 1, 1, 0, 0, 1]), (0, [1, 1, 1, 1, 1, 0, 1, 0, 1, 1, 1, 1, 1, 0, 1]), (1, [0]), (0, [1, 1, 1, 1, 1, 1])].map (toItem (Tryz.f65.body.getD .skip))) [(0, .pointer c), (3, .pointer (some ⟨s, 0, none⟩)), (5, .int .i64 seq), (6, .int .i64 ackn), (7, .int .i64 f), (8, .slice none0_b none0_l none0_c), (72, .bool t72)] w := by
  exact block_spec Tryz.func65 Tryz.mixed (stops_cons (fun σ w h => by
      obtain ⟨c_, e0, h⟩ := dP_elim h
      obtain ⟨s_, e1, h⟩ := dK_elim h
      obtain ⟨seq_, e2, h⟩ := dI_elim h
      obtain ⟨ackn_, e3, h⟩ := dI_elim h
      obtain ⟨none0_b_, none0_l_, none0_c_, e4, h⟩ := dL_elim h
      obtain ⟨t96_, e5, h⟩ := dB_elim h
      exact (connm_Conn_Input.B5_sound  c_ s_ seq_ ackn_ none0_b_ none0_l_ none0_c_ t96_ w h).weaken (Sub.cons (Sub.cons (Sub.cons (Sub.cons (Sub.cons (Sub.cons (Sub.nil _) e5) e4) e3) e2) e1) e0)) stops_nil) (Eq.mp (connm_Conn_Input.B2_eq c s seq ackn f none0_b none0_l none0_c t72 w   R (fun c_ s_ seq_ ackn_ none0_b_ none0_l_ none0_c_ t96_ w => connm_Conn_Input.B5 c_ s_ seq_ ackn_ none0_b_ none0_l_ none0_c_ t96_ w  R)) h)
def connm_Conn_Input.B3 (c none0_b : Option Addr) (none0_l none0_c : Nat) (t141 : Bool) (w : World)   (R : Option Addr → Nat → Nat → World → Prop) : Prop :=
  Bm t141 (
    connm_Conn_fail.Call c (17 : Int) w fun w1 =>
    R none0_b none0_l none0_c w1) (
    R none0_b none0_l none0_c w)
theorem connm_Conn_Input.B3_eq (c none0_b : Option Addr) (none0_l none0_c : Nat) (t141 : Bool) (w : World)   (R : Option Addr → Nat → Nat → World → Prop)  :
    (
  Bm t141 (
    connm_Conn_fail.Call c (17 : Int) w fun w1 =>
    R none0_b none0_l none0_c w1) (
    R none0_b none0_l none0_c w)) = kstep Tryz.prog 360 Tryz.f65.results.toList (Tryz.f65.body.getD .skip) (connm_Conn_Input.RV R) (kvc Tryz.prog 360 Tryz.f65.results.toList (Tryz.f65.body.getD .skip) (connm_Conn_Input.RV R) [] 2000) [(0, [1, 1, 1, 1, 1, 1, 0, 1, 0, 1, 0, 1]), (0, [1, 1, 1, 1, 1, 1, 0, 1, 0, 1, 1]), (0, [1, 1, 1, 1, 1, 1, 1])] [(0, .pointer c), (8, .slice none0_b none0_l none0_c), (141, .bool t141)] w := by kernel_rfl
theorem connm_Conn_Input.B3_sound {R : Option Addr → Nat → Nat → World → Prop}  (c none0_b : Option Addr) (none0_l none0_c : Nat) (t141 : Bool) (w : World) (h : connm_Conn_Input.B3 c none0_b none0_l none0_c t141 w   R) :
    KW Tryz.prog 65 360 (connm_Conn_Input.RV R) ([(0, [1, 1, 1, 1, 1, 1, 0, 1, 0, 1, 0, 1]), (0, [1, 1, 1, 1, 1, 1, 0, 1, 0, 1, 1]), (0, [1, 1, 1, 1, 1, 1, 1])].map (toItem (Tryz.f65.body.getD .skip))) [(0, .pointer c), (8, .slice none0_b none0_l none0_c), (141, .bool t141)] w := by
  exact block_spec Tryz.func65 Tryz.mixed stops_nil (Eq.mp (connm_Conn_Input.B3_eq c none0_b none0_l none0_c t141 w   R ) h)
def connm_Conn_Input.B12 (c out_b : Option Addr) (out_l out_c : Nat) (t337 : Bool) (w : World)   (R : Option Addr → Nat → Nat → World → Prop) : Prop :=
  Bm t337 (
    Pn c fun a =>
    Sts [.int .i64 (4 : Int)] a 0 w fun w1 =>
    Pn c fun a_1 =>
    Sts [.int .i64 (0 : Int)] (a_1.add 1) 0 w1 fun w2 =>
    Pn c fun a_2 =>
    Sts [.int .i64 (10 : Int)] (a_2.add 48) 0 w2 fun w3 =>
    Pn c fun a_3 =>
    Sts [.int .i64 (0 : Int)] (a_3.add 45) 0 w3 fun w4 =>
    Pn c fun a_4 =>
    Sts [.int .i64 (0 : Int)] (a_4.add 46) 0 w4 fun w5 =>
    Pn c fun a_5 =>
    Sts [.int .i64 (0 : Int)] (a_5.add 47) 0 w5 fun w6 =>
    Pn c fun a_6 =>
    Sts [.int .i64 (0 : Int)] (a_6.add 44) 0 w6 fun w7 =>
    R out_b out_l out_c w7) (
    R out_b out_l out_c w)
theorem connm_Conn_Input.B12_eq (c out_b : Option Addr) (out_l out_c : Nat) (t337 : Bool) (w : World)   (R : Option Addr → Nat → Nat → World → Prop)  :
    (
  Bm t337 (
    Pn c fun a =>
    Sts [.int .i64 (4 : Int)] a 0 w fun w1 =>
    Pn c fun a_1 =>
    Sts [.int .i64 (0 : Int)] (a_1.add 1) 0 w1 fun w2 =>
    Pn c fun a_2 =>
    Sts [.int .i64 (10 : Int)] (a_2.add 48) 0 w2 fun w3 =>
    Pn c fun a_3 =>
    Sts [.int .i64 (0 : Int)] (a_3.add 45) 0 w3 fun w4 =>
    Pn c fun a_4 =>
    Sts [.int .i64 (0 : Int)] (a_4.add 46) 0 w4 fun w5 =>
    Pn c fun a_5 =>
    Sts [.int .i64 (0 : Int)] (a_5.add 47) 0 w5 fun w6 =>
    Pn c fun a_6 =>
    Sts [.int .i64 (0 : Int)] (a_6.add 44) 0 w6 fun w7 =>
    R out_b out_l out_c w7) (
    R out_b out_l out_c w)) = kstep Tryz.prog 360 Tryz.f65.results.toList (Tryz.f65.body.getD .skip) (connm_Conn_Input.RV R) (kvc Tryz.prog 360 Tryz.f65.results.toList (Tryz.f65.body.getD .skip) (connm_Conn_Input.RV R) [] 2000) [(0, [1, 1, 1, 1, 1, 1, 1, 1, 1, 1, 1, 1, 1, 1, 1, 1, 1, 0, 1]), (0, [1, 1, 1, 1, 1, 1, 1, 1, 1, 1, 1, 1, 1, 1, 1, 1, 1, 1])] [(0, .pointer c), (14, .slice out_b out_l out_c), (337, .bool t337)] w := by kernel_rfl
theorem connm_Conn_Input.B12_sound {R : Option Addr → Nat → Nat → World → Prop}  (c out_b : Option Addr) (out_l out_c : Nat) (t337 : Bool) (w : World) (h : connm_Conn_Input.B12 c out_b out_l out_c t337 w   R) :
    KW Tryz.prog 65 360 (connm_Conn_Input.RV R) ([(0, [1, 1, 1, 1, 1, 1, 1, 1, 1, 1, 1, 1, 1, 1, 1, 1, 1, 0, 1]), (0, [1, 1, 1, 1, 1, 1, 1, 1, 1, 1, 1, 1, 1, 1, 1, 1, 1, 1])].map (toItem (Tryz.f65.body.getD .skip))) [(0, .pointer c), (14, .slice out_b out_l out_c), (337, .bool t337)] w := by
  exact block_spec Tryz.func65 Tryz.mixed stops_nil (Eq.mp (connm_Conn_Input.B12_eq c out_b out_l out_c t337 w   R ) h)
def connm_Conn_Input.B11 (c out_b : Option Addr) (out_l out_c : Nat) (w : World)   (R : Option Addr → Nat → Nat → World → Prop) : Prop :=
  connm_Conn_ack.Call c w fun r321_0 r321_1 r321_2 r321_3 r321_4 r321_5 r321_6_b r321_6_l r321_6_c w1 =>
  New (.cells #[.int .i64 r321_0, .int .i64 r321_1, .int .i64 r321_2, .int .i64 r321_3, .int .i64 r321_4, .int .i64 r321_5, .slice r321_6_b r321_6_l r321_6_c] 45) w1 fun b322 w2 =>
  Append 45 (.agg #[.int .i64 (0 : Int), .int .i64 (0 : Int), .int .i64 (0 : Int), .int .i64 (0 : Int), .int .i64 (0 : Int), .int .i64 (0 : Int), .slice none 0 0]) 7 72 out_b out_l out_c (some ⟨b322, 0, none⟩) 1 w2 fun b323 c323 w3 =>
  connm_Conn_pump.Call c w3 fun r326_b r326_l r326_c w4 =>
  Append 45 (.agg #[.int .i64 (0 : Int), .int .i64 (0 : Int), .int .i64 (0 : Int), .int .i64 (0 : Int), .int .i64 (0 : Int), .int .i64 (0 : Int), .slice none 0 0]) 7 72 b323 (out_l + 1) c323 r326_b r326_l w4 fun b327 c327 w5 =>
  Pn c fun a =>
  LdB (a.add 4) w5 fun x331 =>
  Bm x331 (
    Pn c fun a_1 =>
    LdB (a_1.add 5) w5 fun x336 =>
    connm_Conn_Input.B12 c b327 ((out_l + 1) + r326_l) c327 x336 w5  R) (
    connm_Conn_Input.B12 c b327 ((out_l + 1) + r326_l) c327 false w5  R)
theorem connm_Conn_Input.B11_eq (c out_b : Option Addr) (out_l out_c : Nat) (w : World)   (R : Option Addr → Nat → Nat → World → Prop) (sB12 : Option Addr → Option Addr → Nat → Nat → Bool → World → Prop) :
    (
  connm_Conn_ack.Call c w fun r321_0 r321_1 r321_2 r321_3 r321_4 r321_5 r321_6_b r321_6_l r321_6_c w1 =>
  New (.cells #[.int .i64 r321_0, .int .i64 r321_1, .int .i64 r321_2, .int .i64 r321_3, .int .i64 r321_4, .int .i64 r321_5, .slice r321_6_b r321_6_l r321_6_c] 45) w1 fun b322 w2 =>
  Append 45 (.agg #[.int .i64 (0 : Int), .int .i64 (0 : Int), .int .i64 (0 : Int), .int .i64 (0 : Int), .int .i64 (0 : Int), .int .i64 (0 : Int), .slice none 0 0]) 7 72 out_b out_l out_c (some ⟨b322, 0, none⟩) 1 w2 fun b323 c323 w3 =>
  connm_Conn_pump.Call c w3 fun r326_b r326_l r326_c w4 =>
  Append 45 (.agg #[.int .i64 (0 : Int), .int .i64 (0 : Int), .int .i64 (0 : Int), .int .i64 (0 : Int), .int .i64 (0 : Int), .int .i64 (0 : Int), .slice none 0 0]) 7 72 b323 (out_l + 1) c323 r326_b r326_l w4 fun b327 c327 w5 =>
  Pn c fun a =>
  LdB (a.add 4) w5 fun x331 =>
  Bm x331 (
    Pn c fun a_1 =>
    LdB (a_1.add 5) w5 fun x336 =>
    sB12 c b327 ((out_l + 1) + r326_l) c327 x336 w5) (
    sB12 c b327 ((out_l + 1) + r326_l) c327 false w5)) = kstep Tryz.prog 360 Tryz.f65.results.toList (Tryz.f65.body.getD .skip) (connm_Conn_Input.RV R) (kvc Tryz.prog 360 Tryz.f65.results.toList (Tryz.f65.body.getD .skip) (connm_Conn_Input.RV R) [([(0, [1, 1, 1, 1, 1, 1, 1, 1, 1, 1, 1, 1, 1, 1, 1, 1, 1, 0, 1]), (0, [1, 1, 1, 1, 1, 1, 1, 1, 1, 1, 1, 1, 1, 1, 1, 1, 1, 1])], fun σ w => dP (slotOf σ 0) fun c_ => dL (slotOf σ 14) fun out_b_ out_l_ out_c_ => dB (slotOf σ 337) fun t337_ => sB12 c_ out_b_ out_l_ out_c_ t337_ w)] 2000) [(0, [1, 1, 1, 1, 1, 1, 1, 1, 1, 1, 1, 1, 1, 1, 1, 0, 1, 0, 1]), (0, [1, 1, 1, 1, 1, 1, 1, 1, 1, 1, 1, 1, 1, 1, 1, 1])] [(0, .pointer c), (14, .slice out_b out_l out_c)] w := by kernel_rfl
theorem connm_Conn_Input.B11_sound {R : Option Addr → Nat → Nat → World → Prop}  (c out_b : Option Addr) (out_l out_c : Nat) (w : World) (h : connm_Conn_Input.B11 c out_b out_l out_c w   R) :
    KW Tryz.prog 65 360 (connm_Conn_Input.RV R) ([(0, [1, 1, 1, 1, 1, 1, 1, 1, 1, 1, 1, 1, 1, 1, 1, 0, 1, 0, 1]), (0, [1, 1, 1, 1, 1, 1, 1, 1, 1, 1, 1, 1, 1, 1, 1, 1])].map (toItem (Tryz.f65.body.getD .skip))) [(0, .pointer c), (14, .slice out_b out_l out_c)] w := by
  exact block_spec Tryz.func65 Tryz.mixed (stops_cons (fun σ w h => by
      obtain ⟨c_, e0, h⟩ := dP_elim h
      obtain ⟨out_b_, out_l_, out_c_, e1, h⟩ := dL_elim h
      obtain ⟨t337_, e2, h⟩ := dB_elim h
      exact (connm_Conn_Input.B12_sound  c_ out_b_ out_l_ out_c_ t337_ w h).weaken (Sub.cons (Sub.cons (Sub.cons (Sub.nil _) e2) e1) e0)) stops_nil) (Eq.mp (connm_Conn_Input.B11_eq c out_b out_l out_c w   R (fun c_ out_b_ out_l_ out_c_ t337_ w => connm_Conn_Input.B12 c_ out_b_ out_l_ out_c_ t337_ w  R)) h)
def connm_Conn_Input.B10 (c out_b : Option Addr) (out_l out_c : Nat) (t307 : Bool) (w : World)   (R : Option Addr → Nat → Nat → World → Prop) : Prop :=
  Bm t307 (
    Pn c fun a =>
    Sts [.bool true] (a.add 5) 0 w fun w1 =>
    Pn c fun a_1 =>
    LdI .i64 (a_1.add 10) w1 fun x315 =>
    api_SeqAdd.Call x315 (1 : Int) w1 fun r316 w2 =>
    Pn c fun a_2 =>
    Sts [.int .i64 r316] (a_2.add 10) 0 w2 fun w3 =>
    connm_Conn_Input.B11 c out_b out_l out_c w3  R) (
    connm_Conn_Input.B11 c out_b out_l out_c w  R)
theorem connm_Conn_Input.B10_eq (c out_b : Option Addr) (out_l out_c : Nat) (t307 : Bool) (w : World)   (R : Option Addr → Nat → Nat → World → Prop) (sB11 : Option Addr → Option Addr → Nat → Nat → World → Prop) :
    (
  Bm t307 (
    Pn c fun a =>
    Sts [.bool true] (a.add 5) 0 w fun w1 =>
    Pn c fun a_1 =>
    LdI .i64 (a_1.add 10) w1 fun x315 =>
    api_SeqAdd.Call x315 (1 : Int) w1 fun r316 w2 =>
    Pn c fun a_2 =>
    Sts [.int .i64 r316] (a_2.add 10) 0 w2 fun w3 =>
    sB11 c out_b out_l out_c w3) (
    sB11 c out_b out_l out_c w)) = kstep Tryz.prog 360 Tryz.f65.results.toList (Tryz.f65.body.getD .skip) (connm_Conn_Input.RV R) (kvc Tryz.prog 360 Tryz.f65.results.toList (Tryz.f65.body.getD .skip) (connm_Conn_Input.RV R) [([(0, [1, 1, 1, 1, 1, 1, 1, 1, 1, 1, 1, 1, 1, 1, 1, 0, 1, 0, 1]), (0, [1, 1, 1, 1, 1, 1, 1, 1, 1, 1, 1, 1, 1, 1, 1, 1])], fun σ w => dP (slotOf σ 0) fun c_ => dL (slotOf σ 14) fun out_b_ out_l_ out_c_ => sB11 c_ out_b_ out_l_ out_c_ w)] 2000) [(0, [1, 1, 1, 1, 1, 1, 1, 1, 1, 1, 1, 1, 1, 1, 1, 0, 1, 0, 0, 1, 0, 1, 1]), (0, [1, 1, 1, 1, 1, 1, 1, 1, 1, 1, 1, 1, 1, 1, 1, 0, 1, 0, 1]), (0, [1, 1, 1, 1, 1, 1, 1, 1, 1, 1, 1, 1, 1, 1, 1, 1])] [(0, .pointer c), (14, .slice out_b out_l out_c), (307, .bool t307)] w := by kernel_rfl
theorem connm_Conn_Input.B10_sound {R : Option Addr → Nat → Nat → World → Prop}  (c out_b : Option Addr) (out_l out_c : Nat) (t307 : Bool) (w : World) (h : connm_Conn_Input.B10 c out_b out_l out_c t307 w   R) :
    KW Tryz.prog 65 360 (connm_Conn_Input.RV R) ([(0, [1, 1, 1, 1, 1, 1, 1, 1, 1, 1, 1, 1, 1, 1, 1, 0, 1, 0, 0, 1, 0, 1, 1]), (0, [1, 1, 1, 1, 1, 1, 1, 1, 1, 1, 1, 1, 1, 1, 1, 0, 1, 0, 1]), (0, [1, 1, 1, 1, 1, 1, 1, 1, 1, 1, 1, 1, 1, 1, 1, 1])].map (toItem (Tryz.f65.body.getD .skip))) [(0, .pointer c), (14, .slice out_b out_l out_c), (307, .bool t307)] w := by
  exact block_spec Tryz.func65 Tryz.mixed (stops_cons (fun σ w h => by
      obtain ⟨c_, e0, h⟩ := dP_elim h
      obtain ⟨out_b_, out_l_, out_c_, e1, h⟩ := dL_elim h
      exact (connm_Conn_Input.B11_sound  c_ out_b_ out_l_ out_c_ w h).weaken (Sub.cons (Sub.cons (Sub.nil _) e1) e0)) stops_nil) (Eq.mp (connm_Conn_Input.B10_eq c out_b out_l out_c t307 w   R (fun c_ out_b_ out_l_ out_c_ w => connm_Conn_Input.B11 c_ out_b_ out_l_ out_c_ w  R)) h)
def connm_Conn_Input.B9 (c : Option Addr) (s : Nat) (seq f : Int) (out_b : Option Addr) (out_l out_c : Nat) (t275 : Bool) (w : World)   (R : Option Addr → Nat → Nat → World → Prop) : Prop :=
  Bm t275 (
    Pn c fun a =>
    LdB (a.add 5) w fun x279 =>
    Bm (!x279) (
      LdL ⟨s, 6, none⟩ w fun x284_b x284_l x284_c =>
      connm_Conn_insert.Call c seq x284_b x284_l x284_c w fun w1 =>
      Bm ((IntKind.i64.wrap (BitVec.ofInt IntKind.i64.bits f &&& BitVec.ofInt IntKind.i64.bits (4 : Int)).toNat) != (0 : Int)) (
        LdL ⟨s, 6, none⟩ w1.drew fun x292_b x292_l x292_c =>
        (256 : Int) ≠ 0 ∧
        Pn c fun a_1 =>
        LdI .i64 (a_1.add 10) w1.drew fun x299 =>
        api_SeqAdd.Call seq (((x292_l : Nat) : Int).tmod (256 : Int)) w1.drew fun r295 w2 =>
        w2.cell? (a_1.add 10) = some (.int .i64 x299) ∧
        Bm (r295 == x299) (
          LdL ⟨s, 6, none⟩ w2 fun x304_b x304_l x304_c =>
          connm_Conn_Input.B10 c out_b out_l out_c (decide (((x304_l : Nat) : Int) ≤ (16 : Int))) w2  R) (
          connm_Conn_Input.B10 c out_b out_l out_c false w2  R)) (
        connm_Conn_Input.B10 c out_b out_l out_c false w1.drew  R)) (
      connm_Conn_Input.B11 c out_b out_l out_c w  R)) (
    connm_Conn_pump.Call c w fun r326_b r326_l r326_c w3 =>
    Append 45 (.agg #[.int .i64 (0 : Int), .int .i64 (0 : Int), .int .i64 (0 : Int), .int .i64 (0 : Int), .int .i64 (0 : Int), .int .i64 (0 : Int), .slice none 0 0]) 7 72 out_b out_l out_c r326_b r326_l w3 fun b327 c327 w4 =>
    Pn c fun a_2 =>
    LdB (a_2.add 4) w4 fun x331 =>
    Bm x331 (
      Pn c fun a_3 =>
      LdB (a_3.add 5) w4 fun x336 =>
      connm_Conn_Input.B12 c b327 (out_l + r326_l) c327 x336 w4  R) (
      connm_Conn_Input.B12 c b327 (out_l + r326_l) c327 false w4  R))
theorem connm_Conn_Input.B9_eq (c : Option Addr) (s : Nat) (seq f : Int) (out_b : Option Addr) (out_l out_c : Nat) (t275 : Bool) (w : World)   (R : Option Addr → Nat → Nat → World → Prop) (sB10 : Option Addr → Option Addr → Nat → Nat → Bool → World → Prop) (sB11 : Option Addr → Option Addr → Nat → Nat → World → Prop) (sB12 : Option Addr → Option Addr → Nat → Nat → Bool → World → Prop) :
    (
  Bm t275 (
    Pn c fun a =>
    LdB (a.add 5) w fun x279 =>
    Bm (!x279) (
      LdL ⟨s, 6, none⟩ w fun x284_b x284_l x284_c =>
      connm_Conn_insert.Call c seq x284_b x284_l x284_c w fun w1 =>
      Bm ((IntKind.i64.wrap (BitVec.ofInt IntKind.i64.bits f &&& BitVec.ofInt IntKind.i64.bits (4 : Int)).toNat) != (0 : Int)) (
        LdL ⟨s, 6, none⟩ w1.drew fun x292_b x292_l x292_c =>
        (256 : Int) ≠ 0 ∧
        Pn c fun a_1 =>
        LdI .i64 (a_1.add 10) w1.drew fun x299 =>
        api_SeqAdd.Call seq (((x292_l : Nat) : Int).tmod (256 : Int)) w1.drew fun r295 w2 =>
        w2.cell? (a_1.add 10) = some (.int .i64 x299) ∧
        Bm (r295 == x299) (
          LdL ⟨s, 6, none⟩ w2 fun x304_b x304_l x304_c =>
          sB10 c out_b out_l out_c (decide (((x304_l : Nat) : Int) ≤ (16 : Int))) w2) (
          sB10 c out_b out_l out_c false w2)) (
        sB10 c out_b out_l out_c false w1.drew)) (
      sB11 c out_b out_l out_c w)) (
    connm_Conn_pump.Call c w fun r326_b r326_l r326_c w3 =>
    Append 45 (.agg #[.int .i64 (0 : Int), .int .i64 (0 : Int), .int .i64 (0 : Int), .int .i64 (0 : Int), .int .i64 (0 : Int), .int .i64 (0 : Int), .slice none 0 0]) 7 72 out_b out_l out_c r326_b r326_l w3 fun b327 c327 w4 =>
    Pn c fun a_2 =>
    LdB (a_2.add 4) w4 fun x331 =>
    Bm x331 (
      Pn c fun a_3 =>
      LdB (a_3.add 5) w4 fun x336 =>
      sB12 c b327 (out_l + r326_l) c327 x336 w4) (
      sB12 c b327 (out_l + r326_l) c327 false w4))) = kstep Tryz.prog 360 Tryz.f65.results.toList (Tryz.f65.body.getD .skip) (connm_Conn_Input.RV R) (kvc Tryz.prog 360 Tryz.f65.results.toList (Tryz.f65.body.getD .skip) (connm_Conn_Input.RV R) [([(0, [1, 1, 1, 1, 1, 1, 1, 1, 1, 1, 1, 1, 1, 1, 1, 0, 1, 0, 0, 1, 0, 1, 1]), (0, [1, 1, 1, 1, 1, 1, 1, 1, 1, 1, 1, 1, 1, 1, 1, 0, 1, 0, 1]), (0, [1, 1, 1, 1, 1, 1, 1, 1, 1, 1, 1, 1, 1, 1, 1, 1])], fun σ w => dP (slotOf σ 0) fun c_ => dL (slotOf σ 14) fun out_b_ out_l_ out_c_ => dB (slotOf σ 307) fun t307_ => sB10 c_ out_b_ out_l_ out_c_ t307_ w),
    ([(0, [1, 1, 1, 1, 1, 1, 1, 1, 1, 1, 1, 1, 1, 1, 1, 0, 1, 0, 1]), (0, [1, 1, 1, 1, 1, 1, 1, 1, 1, 1, 1, 1, 1, 1, 1, 1])], fun σ w => dP (slotOf σ 0) fun c_ => dL (slotOf σ 14) fun out_b_ out_l_ out_c_ => sB11 c_ out_b_ out_l_ out_c_ w),
    ([(0, [1, 1, 1, 1, 1, 1, 1, 1, 1, 1, 1, 1, 1, 1, 1, 1, 1, 0, 1]), (0, [1, 1, 1, 1, 1, 1, 1, 1, 1, 1, 1, 1, 1, 1, 1, 1, 1, 1])], fun σ w => dP (slotOf σ 0) fun c_ => dL (slotOf σ 14) fun out_b_ out_l_ out_c_ => dB (slotOf σ 337) fun t337_ => sB12 c_ out_b_ out_l_ out_c_ t337_ w)] 2000) [(0, [1, 1, 1, 1, 1, 1, 1, 1, 1, 1, 1, 1, 1, 1, 1, 0, 1]), (0, [1, 1, 1, 1, 1, 1, 1, 1, 1, 1, 1, 1, 1, 1, 1, 1])] [(0, .pointer c), (3, .pointer (some ⟨s, 0, none⟩)), (5, .int .i64 seq), (7, .int .i64 f), (14, .slice out_b out_l out_c), (275, .bool t275)] w := by kernel_rfl
theorem connm_Conn_Input.B9_sound {R : Option Addr → Nat → Nat → World → Prop}  (c : Option Addr) (s : Nat) (seq f : Int) (out_b : Option Addr) (out_l out_c : Nat) (t275 : Bool) (w : World) (h : connm_Conn_Input.B9 c s seq f out_b out_l out_c t275 w   R) :
    KW Tryz.prog 65 360 (connm_Conn_Input.RV R) ([(0, [1, 1, 1, 1, 1, 1, 1, 1, 1, 1, 1, 1, 1, 1, 1, 0, 1]), (0, [1, 1, 1, 1, 1, 1, 1, 1, 1, 1, 1, 1, 1, 1, 1, 1])].map (toItem (Tryz.f65.body.getD .skip))) [(0, .pointer c), (3, .pointer (some ⟨s, 0, none⟩)), (5, .int .i64 seq), (7, .int .i64 f), (14, .slice out_b out_l out_c), (275, .bool t275)] w := by
  exact block_spec Tryz.func65 Tryz.mixed (stops_cons (fun σ w h => by
      obtain ⟨c_, e0, h⟩ := dP_elim h
      obtain ⟨out_b_, out_l_, out_c_, e1, h⟩ := dL_elim h
      obtain ⟨t307_, e2, h⟩ := dB_elim h
      exact (connm_Conn_Input.B10_sound  c_ out_b_ out_l_ out_c_ t307_ w h).weaken (Sub.cons (Sub.cons (Sub.cons (Sub.nil _) e2) e1) e0)) (stops_cons (fun σ w h => by
      obtain ⟨c_, e0, h⟩ := dP_elim h
      obtain ⟨out_b_, out_l_, out_c_, e1, h⟩ := dL_elim h
      exact (connm_Conn_Input.B11_sound  c_ out_b_ out_l_ out_c_ w h).weaken (Sub.cons (Sub.cons (Sub.nil _) e1) e0)) (stops_cons (fun σ w h => by
      obtain ⟨c_, e0, h⟩ := dP_elim h
      obtain ⟨out_b_, out_l_, out_c_, e1, h⟩ := dL_elim h
      obtain ⟨t337_, e2, h⟩ := dB_elim h
      exact (connm_Conn_Input.B12_sound  c_ out_b_ out_l_ out_c_ t337_ w h).weaken (Sub.cons (Sub.cons (Sub.cons (Sub.nil _) e2) e1) e0)) stops_nil))) (Eq.mp (connm_Conn_Input.B9_eq c s seq f out_b out_l out_c t275 w   R (fun c_ out_b_ out_l_ out_c_ t307_ w => connm_Conn_Input.B10 c_ out_b_ out_l_ out_c_ t307_ w  R) (fun c_ out_b_ out_l_ out_c_ w => connm_Conn_Input.B11 c_ out_b_ out_l_ out_c_ w  R) (fun c_ out_b_ out_l_ out_c_ t337_ w => connm_Conn_Input.B12 c_ out_b_ out_l_ out_c_ t337_ w  R)) h)
def connm_Conn_Input.B8 (c : Option Addr) (s : Nat) (seq f : Int) (none0_b : Option Addr) (none0_l none0_c : Nat) (w : World)   (R : Option Addr → Nat → Nat → World → Prop) : Prop :=
  LdL ⟨s, 6, none⟩ w fun x268_b x268_l x268_c =>
  Bm (decide (((x268_l : Nat) : Int) > (0 : Int))) (
    connm_Conn_Input.B9 c s seq f none0_b none0_l none0_c true w  R) (
    connm_Conn_Input.B9 c s seq f none0_b none0_l none0_c ((IntKind.i64.wrap (BitVec.ofInt IntKind.i64.bits f &&& BitVec.ofInt IntKind.i64.bits (4 : Int)).toNat) != (0 : Int)) w  R)
theorem connm_Conn_Input.B8_eq (c : Option Addr) (s : Nat) (seq f : Int) (none0_b : Option Addr) (none0_l none0_c : Nat) (w : World)   (R : Option Addr → Nat → Nat → World → Prop) (sB9 : Option Addr → Nat → Int → Int → Option Addr → Nat → Nat → Bool → World → Prop) :
    (
  LdL ⟨s, 6, none⟩ w fun x268_b x268_l x268_c =>
  Bm (decide (((x268_l : Nat) : Int) > (0 : Int))) (
    sB9 c s seq f none0_b none0_l none0_c true w) (
    sB9 c s seq f none0_b none0_l none0_c ((IntKind.i64.wrap (BitVec.ofInt IntKind.i64.bits f &&& BitVec.ofInt IntKind.i64.bits (4 : Int)).toNat) != (0 : Int)) w)) = kstep Tryz.prog 360 Tryz.f65.results.toList (Tryz.f65.body.getD .skip) (connm_Conn_Input.RV R) (kvc Tryz.prog 360 Tryz.f65.results.toList (Tryz.f65.body.getD .skip) (connm_Conn_Input.RV R) [([(0, [1, 1, 1, 1, 1, 1, 1, 1, 1, 1, 1, 1, 1, 1, 1, 0, 1]), (0, [1, 1, 1, 1, 1, 1, 1, 1, 1, 1, 1, 1, 1, 1, 1, 1])], fun σ w => dP (slotOf σ 0) fun c_ => dK (slotOf σ 3) fun s_ => dI .i64 (slotOf σ 5) fun seq_ => dI .i64 (slotOf σ 7) fun f_ => dL (slotOf σ 14) fun out_b_ out_l_ out_c_ => dB (slotOf σ 275) fun t275_ => sB9 c_ s_ seq_ f_ out_b_ out_l_ out_c_ t275_ w)] 2000) [(0, [1, 1, 1, 1, 1, 1, 1, 1, 1, 1, 1, 1, 1, 1])] [(0, .pointer c), (3, .pointer (some ⟨s, 0, none⟩)), (5, .int .i64 seq), (7, .int .i64 f), (8, .slice none0_b none0_l none0_c)] w := by kernel_rfl
theorem connm_Conn_Input.B8_sound {R : Option Addr → Nat → Nat → World → Prop}  (c : Option Addr) (s : Nat) (seq f : Int) (none0_b : Option Addr) (none0_l none0_c : Nat) (w : World) (h : connm_Conn_Input.B8 c s seq f none0_b none0_l none0_c w   R) :
    KW Tryz.prog 65 360 (connm_Conn_Input.RV R) ([(0, [1, 1, 1, 1, 1, 1, 1, 1, 1, 1, 1, 1, 1, 1])].map (toItem (Tryz.f65.body.getD .skip))) [(0, .pointer c), (3, .pointer (some ⟨s, 0, none⟩)), (5, .int .i64 seq), (7, .int .i64 f), (8, .slice none0_b none0_l none0_c)] w := by
  exact block_spec Tryz.func65 Tryz.mixed (stops_cons (fun σ w h => by
      obtain ⟨c_, e0, h⟩ := dP_elim h
      obtain ⟨s_, e1, h⟩ := dK_elim h
      obtain ⟨seq_, e2, h⟩ := dI_elim h
      obtain ⟨f_, e3, h⟩ := dI_elim h
      obtain ⟨out_b_, out_l_, out_c_, e4, h⟩ := dL_elim h
      obtain ⟨t275_, e5, h⟩ := dB_elim h
      exact (connm_Conn_Input.B9_sound  c_ s_ seq_ f_ out_b_ out_l_ out_c_ t275_ w h).weaken (Sub.cons (Sub.cons (Sub.cons (Sub.cons (Sub.cons (Sub.cons (Sub.nil _) e5) e4) e3) e2) e1) e0)) stops_nil) (Eq.mp (connm_Conn_Input.B8_eq c s seq f none0_b none0_l none0_c w   R (fun c_ s_ seq_ f_ out_b_ out_l_ out_c_ t275_ w => connm_Conn_Input.B9 c_ s_ seq_ f_ out_b_ out_l_ out_c_ t275_ w  R)) h)
def connm_Conn_Input.B7 (c : Option Addr) (s : Nat) (seq f : Int) (none0_b : Option Addr) (none0_l none0_c : Nat) (d k : Int) (w : World)   (R : Option Addr → Nat → Nat → World → Prop) : Prop :=
  Pn c fun a =>
  LdL (a.add 8) w fun x235_b x235_l x235_c =>
  (0 ≤ k ∧ k ≤ ((x235_l : Nat) : Int)) ∧
  api_CopyBytes.Call (slBase x235_b k ((x235_c : Nat) : Int) 1) (((x235_l : Nat) : Int).toNat - k.toNat) (((x235_c : Nat) : Int).toNat - k.toNat) w fun r238_b r238_l r238_c w1 =>
  Pn c fun a_1 =>
  Sts [.slice r238_b r238_l r238_c] (a_1.add 8) 0 w1 fun w2 =>
  Pn c fun a_2 =>
  LdI .i64 (a_2.add 9) w2 fun x244 =>
  Pn c fun a_3 =>
  Sts [.int .i64 (IntKind.i64.wrap (x244 - k))] (a_3.add 9) 0 w2 fun w3 =>
  Pn c fun a_4 =>
  LdI .i64 (a_4.add 7) w3 fun x253 =>
  api_SeqAdd.Call x253 d w3 fun r255 w4 =>
  Pn c fun a_5 =>
  Sts [.int .i64 r255] (a_5.add 7) 0 w4 fun w5 =>
  Pn c fun a_6 =>
  Sts [.int .i64 (0 : Int)] (a_6.add 45) 0 w5 fun w6 =>
  connm_Conn_out.Call c w6 fun r262 w7 =>
  Bm (decide (r262 > (0 : Int))) (
    connm_Conn_arm.Call c w7 fun w8 =>
    connm_Conn_Input.B8 c s seq f none0_b none0_l none0_c w8  R) (
    connm_Conn_Input.B8 c s seq f none0_b none0_l none0_c w7  R)
theorem connm_Conn_Input.B7_eq (c : Option Addr) (s : Nat) (seq f : Int) (none0_b : Option Addr) (none0_l none0_c : Nat) (d k : Int) (w : World)   (R : Option Addr → Nat → Nat → World → Prop) (sB8 : Option Addr → Nat → Int → Int → Option Addr → Nat → Nat → World → Prop) :
    (
  Pn c fun a =>
  LdL (a.add 8) w fun x235_b x235_l x235_c =>
  (0 ≤ k ∧ k ≤ ((x235_l : Nat) : Int)) ∧
  api_CopyBytes.Call (slBase x235_b k ((x235_c : Nat) : Int) 1) (((x235_l : Nat) : Int).toNat - k.toNat) (((x235_c : Nat) : Int).toNat - k.toNat) w fun r238_b r238_l r238_c w1 =>
  Pn c fun a_1 =>
  Sts [.slice r238_b r238_l r238_c] (a_1.add 8) 0 w1 fun w2 =>
  Pn c fun a_2 =>
  LdI .i64 (a_2.add 9) w2 fun x244 =>
  Pn c fun a_3 =>
  Sts [.int .i64 (IntKind.i64.wrap (x244 - k))] (a_3.add 9) 0 w2 fun w3 =>
  Pn c fun a_4 =>
  LdI .i64 (a_4.add 7) w3 fun x253 =>
  api_SeqAdd.Call x253 d w3 fun r255 w4 =>
  Pn c fun a_5 =>
  Sts [.int .i64 r255] (a_5.add 7) 0 w4 fun w5 =>
  Pn c fun a_6 =>
  Sts [.int .i64 (0 : Int)] (a_6.add 45) 0 w5 fun w6 =>
  connm_Conn_out.Call c w6 fun r262 w7 =>
  Bm (decide (r262 > (0 : Int))) (
    connm_Conn_arm.Call c w7 fun w8 =>
    sB8 c s seq f none0_b none0_l none0_c w8) (
    sB8 c s seq f none0_b none0_l none0_c w7)) = kstep Tryz.prog 360 Tryz.f65.results.toList (Tryz.f65.body.getD .skip) (connm_Conn_Input.RV R) (kvc Tryz.prog 360 Tryz.f65.results.toList (Tryz.f65.body.getD .skip) (connm_Conn_Input.RV R) [([(0, [1, 1, 1, 1, 1, 1, 1, 1, 1, 1, 1, 1, 1, 1])], fun σ w => dP (slotOf σ 0) fun c_ => dK (slotOf σ 3) fun s_ => dI .i64 (slotOf σ 5) fun seq_ => dI .i64 (slotOf σ 7) fun f_ => dL (slotOf σ 8) fun none0_b_ none0_l_ none0_c_ => sB8 c_ s_ seq_ f_ none0_b_ none0_l_ none0_c_ w)] 2000) [(0, [1, 1, 1, 1, 1, 1, 1, 1, 1, 1, 1, 1, 1, 0, 1, 0, 1, 1]), (0, [1, 1, 1, 1, 1, 1, 1, 1, 1, 1, 1, 1, 1, 1])] [(0, .pointer c), (3, .pointer (some ⟨s, 0, none⟩)), (5, .int .i64 seq), (7, .int .i64 f), (8, .slice none0_b none0_l none0_c), (12, .int .i64 d), (13, .int .i64 k)] w := by kernel_rfl
theorem connm_Conn_Input.B7_sound {R : Option Addr → Nat → Nat → World → Prop}  (c : Option Addr) (s : Nat) (seq f : Int) (none0_b : Option Addr) (none0_l none0_c : Nat) (d k : Int) (w : World) (h : connm_Conn_Input.B7 c s seq f none0_b none0_l none0_c d k w   R) :
    KW Tryz.prog 65 360 (connm_Conn_Input.RV R) ([(0, [1, 1, 1, 1, 1, 1, 1, 1, 1, 1, 1, 1, 1, 0, 1, 0, 1, 1]), (0, [1, 1, 1, 1, 1, 1, 1, 1, 1, 1, 1, 1, 1, 1])].map (toItem (Tryz.f65.body.getD .skip))) [(0, .pointer c), (3, .pointer (some ⟨s, 0, none⟩)), (5, .int .i64 seq), (7, .int .i64 f), (8, .slice none0_b none0_l none0_c), (12, .int .i64 d), (13, .int .i64 k)] w := by
  exact block_spec Tryz.func65 Tryz.mixed (stops_cons (fun σ w h => by
      obtain ⟨c_, e0, h⟩ := dP_elim h
      obtain ⟨s_, e1, h⟩ := dK_elim h
      obtain ⟨seq_, e2, h⟩ := dI_elim h
      obtain ⟨f_, e3, h⟩ := dI_elim h
      obtain ⟨none0_b_, none0_l_, none0_c_, e4, h⟩ := dL_elim h
      exact (connm_Conn_Input.B8_sound  c_ s_ seq_ f_ none0_b_ none0_l_ none0_c_ w h).weaken (Sub.cons (Sub.cons (Sub.cons (Sub.cons (Sub.cons (Sub.nil _) e4) e3) e2) e1) e0)) stops_nil) (Eq.mp (connm_Conn_Input.B7_eq c s seq f none0_b none0_l none0_c d k w   R (fun c_ s_ seq_ f_ none0_b_ none0_l_ none0_c_ w => connm_Conn_Input.B8 c_ s_ seq_ f_ none0_b_ none0_l_ none0_c_ w  R)) h)
def connm_Conn_Input.B6 (c : Option Addr) (s : Nat) (seq f : Int) (none0_b : Option Addr) (none0_l none0_c : Nat) (d : Int) (w : World)   (R : Option Addr → Nat → Nat → World → Prop) : Prop :=
  Bm (decide (d > (0 : Int))) (
    Pn c fun a =>
    LdI .i64 (a.add 9) w fun x222 =>
    Bm (decide (d > x222)) (
      Pn c fun a_1 =>
      LdI .i64 (a_1.add 9) w fun x227 =>
      Pn c fun a_2 =>
      Sts [.bool true] (a_2.add 4) 0 w fun w1 =>
      connm_Conn_Input.B7 c s seq f none0_b none0_l none0_c d x227 w1  R) (
      connm_Conn_Input.B7 c s seq f none0_b none0_l none0_c d d w  R)) (
    connm_Conn_Input.B8 c s seq f none0_b none0_l none0_c w  R)
theorem connm_Conn_Input.B6_eq (c : Option Addr) (s : Nat) (seq f : Int) (none0_b : Option Addr) (none0_l none0_c : Nat) (d : Int) (w : World)   (R : Option Addr → Nat → Nat → World → Prop) (sB7 : Option Addr → Nat → Int → Int → Option Addr → Nat → Nat → Int → Int → World → Prop) (sB8 : Option Addr → Nat → Int → Int → Option Addr → Nat → Nat → World → Prop) :
    (
  Bm (decide (d > (0 : Int))) (
    Pn c fun a =>
    LdI .i64 (a.add 9) w fun x222 =>
    Bm (decide (d > x222)) (
      Pn c fun a_1 =>
      LdI .i64 (a_1.add 9) w fun x227 =>
      Pn c fun a_2 =>
      Sts [.bool true] (a_2.add 4) 0 w fun w1 =>
      sB7 c s seq f none0_b none0_l none0_c d x227 w1) (
      sB7 c s seq f none0_b none0_l none0_c d d w)) (
    sB8 c s seq f none0_b none0_l none0_c w)) = kstep Tryz.prog 360 Tryz.f65.results.toList (Tryz.f65.body.getD .skip) (connm_Conn_Input.RV R) (kvc Tryz.prog 360 Tryz.f65.results.toList (Tryz.f65.body.getD .skip) (connm_Conn_Input.RV R) [([(0, [1, 1, 1, 1, 1, 1, 1, 1, 1, 1, 1, 1, 1, 0, 1, 0, 1, 1]), (0, [1, 1, 1, 1, 1, 1, 1, 1, 1, 1, 1, 1, 1, 1])], fun σ w => dP (slotOf σ 0) fun c_ => dK (slotOf σ 3) fun s_ => dI .i64 (slotOf σ 5) fun seq_ => dI .i64 (slotOf σ 7) fun f_ => dL (slotOf σ 8) fun none0_b_ none0_l_ none0_c_ => dI .i64 (slotOf σ 12) fun d_ => dI .i64 (slotOf σ 13) fun k_ => sB7 c_ s_ seq_ f_ none0_b_ none0_l_ none0_c_ d_ k_ w),
    ([(0, [1, 1, 1, 1, 1, 1, 1, 1, 1, 1, 1, 1, 1, 1])], fun σ w => dP (slotOf σ 0) fun c_ => dK (slotOf σ 3) fun s_ => dI .i64 (slotOf σ 5) fun seq_ => dI .i64 (slotOf σ 7) fun f_ => dL (slotOf σ 8) fun none0_b_ none0_l_ none0_c_ => sB8 c_ s_ seq_ f_ none0_b_ none0_l_ none0_c_ w)] 2000) [(0, [1, 1, 1, 1, 1, 1, 1, 1, 1, 1, 1, 1, 1])] [(0, .pointer c), (3, .pointer (some ⟨s, 0, none⟩)), (5, .int .i64 seq), (7, .int .i64 f), (8, .slice none0_b none0_l none0_c), (12, .int .i64 d)] w := by kernel_rfl
theorem connm_Conn_Input.B6_sound {R : Option Addr → Nat → Nat → World → Prop}  (c : Option Addr) (s : Nat) (seq f : Int) (none0_b : Option Addr) (none0_l none0_c : Nat) (d : Int) (w : World) (h : connm_Conn_Input.B6 c s seq f none0_b none0_l none0_c d w   R) :
    KW Tryz.prog 65 360 (connm_Conn_Input.RV R) ([(0, [1, 1, 1, 1, 1, 1, 1, 1, 1, 1, 1, 1, 1])].map (toItem (Tryz.f65.body.getD .skip))) [(0, .pointer c), (3, .pointer (some ⟨s, 0, none⟩)), (5, .int .i64 seq), (7, .int .i64 f), (8, .slice none0_b none0_l none0_c), (12, .int .i64 d)] w := by
  exact block_spec Tryz.func65 Tryz.mixed (stops_cons (fun σ w h => by
      obtain ⟨c_, e0, h⟩ := dP_elim h
      obtain ⟨s_, e1, h⟩ := dK_elim h
      obtain ⟨seq_, e2, h⟩ := dI_elim h
      obtain ⟨f_, e3, h⟩ := dI_elim h
      obtain ⟨none0_b_, none0_l_, none0_c_, e4, h⟩ := dL_elim h
      obtain ⟨d_, e5, h⟩ := dI_elim h
      obtain ⟨k_, e6, h⟩ := dI_elim h
      exact (connm_Conn_Input.B7_sound  c_ s_ seq_ f_ none0_b_ none0_l_ none0_c_ d_ k_ w h).weaken (Sub.cons (Sub.cons (Sub.cons (Sub.cons (Sub.cons (Sub.cons (Sub.cons (Sub.nil _) e6) e5) e4) e3) e2) e1) e0)) (stops_cons (fun σ w h => by
      obtain ⟨c_, e0, h⟩ := dP_elim h
      obtain ⟨s_, e1, h⟩ := dK_elim h
      obtain ⟨seq_, e2, h⟩ := dI_elim h
      obtain ⟨f_, e3, h⟩ := dI_elim h
      obtain ⟨none0_b_, none0_l_, none0_c_, e4, h⟩ := dL_elim h
      exact (connm_Conn_Input.B8_sound  c_ s_ seq_ f_ none0_b_ none0_l_ none0_c_ w h).weaken (Sub.cons (Sub.cons (Sub.cons (Sub.cons (Sub.cons (Sub.nil _) e4) e3) e2) e1) e0)) stops_nil)) (Eq.mp (connm_Conn_Input.B6_eq c s seq f none0_b none0_l none0_c d w   R (fun c_ s_ seq_ f_ none0_b_ none0_l_ none0_c_ d_ k_ w => connm_Conn_Input.B7 c_ s_ seq_ f_ none0_b_ none0_l_ none0_c_ d_ k_ w  R) (fun c_ s_ seq_ f_ none0_b_ none0_l_ none0_c_ w => connm_Conn_Input.B8 c_ s_ seq_ f_ none0_b_ none0_l_ none0_c_ w  R)) h)
def connm_Conn_Input.B4 (c : Option Addr) (s : Nat) (seq ackn f : Int) (none0_b : Option Addr) (none0_l none0_c : Nat) (w : World)   (R : Option Addr → Nat → Nat → World → Prop) : Prop :=
  Pn c fun a =>
  LdI .i64 (a.add 7) w fun x195 =>
  api_SeqDiff.Call ackn x195 w fun r196 w1 =>
  connm_Conn_out.Call c w1 fun r199 w2 =>
  Bm (decide (r196 > r199)) (
    connm_Conn_ack.Call c w2 fun r202_0 r202_1 r202_2 r202_3 r202_4 r202_5 r202_6_b r202_6_l r202_6_c w3 =>
    New (.cells #[.int .i64 r202_0, .int .i64 r202_1, .int .i64 r202_2, .int .i64 r202_3, .int .i64 r202_4, .int .i64 r202_5, .slice r202_6_b r202_6_l r202_6_c] 45) w3 fun b203 w4 =>
    R (some ⟨b203, 0, none⟩) 1 1 w4) (
    Bm (decide (r196 ≥ (0 : Int))) (
      LdI .i64 ⟨s, 5, none⟩ w2 fun x209 =>
      connm_wnd.Call x209 w2 fun r210 w5 =>
      Pn c fun a_1 =>
      Sts [.int .i64 r210] (a_1.add 44) 0 w5 fun w6 =>
      Pn c fun a_2 =>
      Sts [.int .i64 (0 : Int)] (a_2.add 46) 0 w6 fun w7 =>
      connm_Conn_Input.B6 c s seq f none0_b none0_l none0_c r196 w7  R) (
      connm_Conn_Input.B6 c s seq f none0_b none0_l none0_c r196 w2  R))
theorem connm_Conn_Input.B4_eq (c : Option Addr) (s : Nat) (seq ackn f : Int) (none0_b : Option Addr) (none0_l none0_c : Nat) (w : World)   (R : Option Addr → Nat → Nat → World → Prop) (sB6 : Option Addr → Nat → Int → Int → Option Addr → Nat → Nat → Int → World → Prop) :
    (
  Pn c fun a =>
  LdI .i64 (a.add 7) w fun x195 =>
  api_SeqDiff.Call ackn x195 w fun r196 w1 =>
  connm_Conn_out.Call c w1 fun r199 w2 =>
  Bm (decide (r196 > r199)) (
    connm_Conn_ack.Call c w2 fun r202_0 r202_1 r202_2 r202_3 r202_4 r202_5 r202_6_b r202_6_l r202_6_c w3 =>
    New (.cells #[.int .i64 r202_0, .int .i64 r202_1, .int .i64 r202_2, .int .i64 r202_3, .int .i64 r202_4, .int .i64 r202_5, .slice r202_6_b r202_6_l r202_6_c] 45) w3 fun b203 w4 =>
    R (some ⟨b203, 0, none⟩) 1 1 w4) (
    Bm (decide (r196 ≥ (0 : Int))) (
      LdI .i64 ⟨s, 5, none⟩ w2 fun x209 =>
      connm_wnd.Call x209 w2 fun r210 w5 =>
      Pn c fun a_1 =>
      Sts [.int .i64 r210] (a_1.add 44) 0 w5 fun w6 =>
      Pn c fun a_2 =>
      Sts [.int .i64 (0 : Int)] (a_2.add 46) 0 w6 fun w7 =>
      sB6 c s seq f none0_b none0_l none0_c r196 w7) (
      sB6 c s seq f none0_b none0_l none0_c r196 w2))) = kstep Tryz.prog 360 Tryz.f65.results.toList (Tryz.f65.body.getD .skip) (connm_Conn_Input.RV R) (kvc Tryz.prog 360 Tryz.f65.results.toList (Tryz.f65.body.getD .skip) (connm_Conn_Input.RV R) [([(0, [1, 1, 1, 1, 1, 1, 1, 1, 1, 1, 1, 1, 1])], fun σ w => dP (slotOf σ 0) fun c_ => dK (slotOf σ 3) fun s_ => dI .i64 (slotOf σ 5) fun seq_ => dI .i64 (slotOf σ 7) fun f_ => dL (slotOf σ 8) fun none0_b_ none0_l_ none0_c_ => dI .i64 (slotOf σ 12) fun d_ => sB6 c_ s_ seq_ f_ none0_b_ none0_l_ none0_c_ d_ w)] 2000) [(0, [1, 1, 1, 1, 1, 1, 1, 1, 1, 1])] [(0, .pointer c), (3, .pointer (some ⟨s, 0, none⟩)), (5, .int .i64 seq), (6, .int .i64 ackn), (7, .int .i64 f), (8, .slice none0_b none0_l none0_c)] w := by kernel_rfl
theorem connm_Conn_Input.B4_sound {R : Option Addr → Nat → Nat → World → Prop}  (c : Option Addr) (s : Nat) (seq ackn f : Int) (none0_b : Option Addr) (none0_l none0_c : Nat) (w : World) (h : connm_Conn_Input.B4 c s seq ackn f none0_b none0_l none0_c w   R) :
    KW Tryz.prog 65 360 (connm_Conn_Input.RV R) ([(0, [1, 1, 1, 1, 1, 1, 1, 1, 1, 1])].map (toItem (Tryz.f65.body.getD .skip))) [(0, .pointer c), (3, .pointer (some ⟨s, 0, none⟩)), (5, .int .i64 seq), (6, .int .i64 ackn), (7, .int .i64 f), (8, .slice none0_b none0_l none0_c)] w := by
  exact block_spec Tryz.func65 Tryz.mixed (stops_cons (fun σ w h => by
      obtain ⟨c_, e0, h⟩ := dP_elim h
      obtain ⟨s_, e1, h⟩ := dK_elim h
      obtain ⟨seq_, e2, h⟩ := dI_elim h
      obtain ⟨f_, e3, h⟩ := dI_elim h
      obtain ⟨none0_b_, none0_l_, none0_c_, e4, h⟩ := dL_elim h
      obtain ⟨d_, e5, h⟩ := dI_elim h
      exact (connm_Conn_Input.B6_sound  c_ s_ seq_ f_ none0_b_ none0_l_ none0_c_ d_ w h).weaken (Sub.cons (Sub.cons (Sub.cons (Sub.cons (Sub.cons (Sub.cons (Sub.nil _) e5) e4) e3) e2) e1) e0)) stops_nil) (Eq.mp (connm_Conn_Input.B4_eq c s seq ackn f none0_b none0_l none0_c w   R (fun c_ s_ seq_ f_ none0_b_ none0_l_ none0_c_ d_ w => connm_Conn_Input.B6 c_ s_ seq_ f_ none0_b_ none0_l_ none0_c_ d_ w  R)) h)
def connm_Conn_Input.B0 (c : Option Addr) (s_0 s_1 s_2 s_3 s_4 s_5 : Int) (s_6_b : Option Addr) (s_6_l s_6_c : Nat) (w : World)   (R : Option Addr → Nat → Nat → World → Prop) : Prop :=
  New (.cells #[.int .i64 s_0, .int .i64 s_1, .int .i64 s_2, .int .i64 s_3, .int .i64 s_4, .int .i64 s_5, .slice s_6_b s_6_l s_6_c] 45) w fun s_ w1 =>
  LdI .i64 ⟨s_, 2, none⟩ w1 fun x16 =>
  api_SeqAdd.Call x16 (0 : Int) w1 fun r17 w2 =>
  LdI .i64 ⟨s_, 3, none⟩ w2 fun x19 =>
  api_SeqAdd.Call x19 (0 : Int) w2 fun r20 w3 =>
  LdI .i64 ⟨s_, 4, none⟩ w3 fun x22 =>
  New (.cells #[] 45) w3 fun b24 w4 =>
  Pn c fun a =>
  LdI .i64 a w4 fun x28 =>
  Bm (x28 == (0 : Int)) (
    R (some ⟨b24, 0, none⟩) 0 0 w4) (
    Bm (x28 == (4 : Int)) (
      Pn c fun a_1 =>
      LdI .i64 (a_1.add 1) w4 fun x37 =>
      Bm (x37 == (0 : Int)) (
        Bm ((IntKind.i64.wrap (BitVec.ofInt IntKind.i64.bits (IntKind.i64.wrap (BitVec.ofInt IntKind.i64.bits x22 &&& BitVec.ofInt IntKind.i64.bits (15 : Int)).toNat) &&& BitVec.ofInt IntKind.i64.bits (8 : Int)).toNat) == (0 : Int)) (
          Bm ((IntKind.i64.wrap (BitVec.ofInt IntKind.i64.bits (IntKind.i64.wrap (BitVec.ofInt IntKind.i64.bits x22 &&& BitVec.ofInt IntKind.i64.bits (15 : Int)).toNat) &&& BitVec.ofInt IntKind.i64.bits (4 : Int)).toNat) != (0 : Int)) (
            connm_Conn_Input.B1 c (some ⟨b24, 0, none⟩) 0 0 true w4  R) (
            LdL ⟨s_, 6, none⟩ w4 fun x50_b x50_l x50_c =>
            connm_Conn_Input.B1 c (some ⟨b24, 0, none⟩) 0 0 (decide (((x50_l : Nat) : Int) > (0 : Int))) w4  R)) (
          connm_Conn_Input.B1 c (some ⟨b24, 0, none⟩) 0 0 false w4  R)) (
        connm_Conn_Input.B1 c (some ⟨b24, 0, none⟩) 0 0 false w4  R)) (
      Bm (x28 == (1 : Int)) (
        Bm ((IntKind.i64.wrap (BitVec.ofInt IntKind.i64.bits (IntKind.i64.wrap (BitVec.ofInt IntKind.i64.bits x22 &&& BitVec.ofInt IntKind.i64.bits (15 : Int)).toNat) &&& BitVec.ofInt IntKind.i64.bits (2 : Int)).toNat) != (0 : Int)) (
          Pn c fun a_2 =>
          LdI .i64 (a_2.add 6) w4 fun x69 =>
          api_SeqAdd.Call x69 (1 : Int) w4 fun r70 w5 =>
          connm_Conn_Input.B2 c s_ r17 r20 (IntKind.i64.wrap (BitVec.ofInt IntKind.i64.bits x22 &&& BitVec.ofInt IntKind.i64.bits (15 : Int)).toNat) (some ⟨b24, 0, none⟩) 0 0 (r20 != r70) w5  R) (
          connm_Conn_Input.B2 c s_ r17 r20 (IntKind.i64.wrap (BitVec.ofInt IntKind.i64.bits x22 &&& BitVec.ofInt IntKind.i64.bits (15 : Int)).toNat) (some ⟨b24, 0, none⟩) 0 0 false w4  R)) (
        Bm ((IntKind.i64.wrap (BitVec.ofInt IntKind.i64.bits (IntKind.i64.wrap (BitVec.ofInt IntKind.i64.bits x22 &&& BitVec.ofInt IntKind.i64.bits (15 : Int)).toNat) &&& BitVec.ofInt IntKind.i64.bits (8 : Int)).toNat) != (0 : Int)) (
          Pn c fun a_3 =>
          LdI .i64 (a_3.add 10) w4 fun x134 =>
          api_SeqDiff.Call r17 x134 w4 fun r135 w6 =>
          Bm (decide (r135 ≥ (0 : Int))) (
            connm_Conn_Input.B3 c (some ⟨b24, 0, none⟩) 0 0 (decide (r135 ≤ (17 : Int))) w6  R) (
            connm_Conn_Input.B3 c (some ⟨b24, 0, none⟩) 0 0 false w6  R)) (
          Bm ((IntKind.i64.wrap (BitVec.ofInt IntKind.i64.bits (IntKind.i64.wrap (BitVec.ofInt IntKind.i64.bits x22 &&& BitVec.ofInt IntKind.i64.bits (15 : Int)).toNat) &&& BitVec.ofInt IntKind.i64.bits (1 : Int)).toNat) != (0 : Int)) (
            Pn c fun a_4 =>
            LdI .i64 a_4 w4 fun x151 =>
            Bm (x151 == (2 : Int)) (
              connm_Conn_again.Call c w4 fun r154_0 r154_1 r154_2 r154_3 r154_4 r154_5 r154_6_b r154_6_l r154_6_c w7 =>
              New (.cells #[.int .i64 r154_0, .int .i64 r154_1, .int .i64 r154_2, .int .i64 r154_3, .int .i64 r154_4, .int .i64 r154_5, .slice r154_6_b r154_6_l r154_6_c] 45) w7 fun b155 w8 =>
              R (some ⟨b155, 0, none⟩) 1 1 w8) (
              connm_Conn_ack.Call c w4 fun r157_0 r157_1 r157_2 r157_3 r157_4 r157_5 r157_6_b r157_6_l r157_6_c w9 =>
              New (.cells #[.int .i64 r157_0, .int .i64 r157_1, .int .i64 r157_2, .int .i64 r157_3, .int .i64 r157_4, .int .i64 r157_5, .slice r157_6_b r157_6_l r157_6_c] 45) w9 fun b158 w10 =>
              R (some ⟨b158, 0, none⟩) 1 1 w10)) (
            Bm ((IntKind.i64.wrap (BitVec.ofInt IntKind.i64.bits (IntKind.i64.wrap (BitVec.ofInt IntKind.i64.bits x22 &&& BitVec.ofInt IntKind.i64.bits (15 : Int)).toNat) &&& BitVec.ofInt IntKind.i64.bits (2 : Int)).toNat) == (0 : Int)) (
              R (some ⟨b24, 0, none⟩) 0 0 w4) (
              Pn c fun a_5 =>
              LdI .i64 a_5 w4 fun x166 =>
              Bm (x166 == (2 : Int)) (
                Pn c fun a_6 =>
                LdI .i64 (a_6.add 6) w4 fun x172 =>
                api_SeqAdd.Call x172 (1 : Int) w4 fun r173 w11 =>
                Bm (r20 != r173) (
                  connm_rst.Call r20 w11 fun r176_0 r176_1 r176_2 r176_3 r176_4 r176_5 r176_6_b r176_6_l r176_6_c w12 =>
                  New (.cells #[.int .i64 r176_0, .int .i64 r176_1, .int .i64 r176_2, .int .i64 r176_3, .int .i64 r176_4, .int .i64 r176_5, .slice r176_6_b r176_6_l r176_6_c] 45) w12 fun b177 w13 =>
                  R (some ⟨b177, 0, none⟩) 1 1 w13) (
                  Pn c fun a_7 =>
                  Sts [.int .i64 (3 : Int)] a_7 0 w11 fun w14 =>
                  Pn c fun a_8 =>
                  Sts [.int .i64 r20] (a_8.add 7) 0 w14 fun w15 =>
                  Pn c fun a_9 =>
                  Sts [.int .i64 (0 : Int)] (a_9.add 45) 0 w15 fun w16 =>
                  Pn c fun a_10 =>
                  Sts [.int .i64 (0 : Int)] (a_10.add 46) 0 w16 fun w17 =>
                  connm_Conn_Input.B4 c s_ r17 r20 (IntKind.i64.wrap (BitVec.ofInt IntKind.i64.bits x22 &&& BitVec.ofInt IntKind.i64.bits (15 : Int)).toNat) (some ⟨b24, 0, none⟩) 0 0 w17  R)) (
                connm_Conn_Input.B4 c s_ r17 r20 (IntKind.i64.wrap (BitVec.ofInt IntKind.i64.bits x22 &&& BitVec.ofInt IntKind.i64.bits (15 : Int)).toNat) (some ⟨b24, 0, none⟩) 0 0 w4  R)))))))
theorem connm_Conn_Input.B0_eq (c : Option Addr) (s_0 s_1 s_2 s_3 s_4 s_5 : Int) (s_6_b : Option Addr) (s_6_l s_6_c : Nat) (w : World)   (R : Option Addr → Nat → Nat → World → Prop) (sB1 : Option Addr → Option Addr → Nat → Nat → Bool → World → Prop) (sB2 : Option Addr → Nat → Int → Int → Int → Option Addr → Nat → Nat → Bool → World → Prop) (sB3 : Option Addr → Option Addr → Nat → Nat → Bool → World → Prop) (sB4 : Option Addr → Nat → Int → Int → Int → Option Addr → Nat → Nat → World → Prop) :
    (
  New (.cells #[.int .i64 s_0, .int .i64 s_1, .int .i64 s_2, .int .i64 s_3, .int .i64 s_4, .int .i64 s_5, .slice s_6_b s_6_l s_6_c] 45) w fun s_ w1 =>
  LdI .i64 ⟨s_, 2, none⟩ w1 fun x16 =>
  api_SeqAdd.Call x16 (0 : Int) w1 fun r17 w2 =>
  LdI .i64 ⟨s_, 3, none⟩ w2 fun x19 =>
  api_SeqAdd.Call x19 (0 : Int) w2 fun r20 w3 =>
  LdI .i64 ⟨s_, 4, none⟩ w3 fun x22 =>
  New (.cells #[] 45) w3 fun b24 w4 =>
  Pn c fun a =>
  LdI .i64 a w4 fun x28 =>
  Bm (x28 == (0 : Int)) (
    R (some ⟨b24, 0, none⟩) 0 0 w4) (
    Bm (x28 == (4 : Int)) (
      Pn c fun a_1 =>
      LdI .i64 (a_1.add 1) w4 fun x37 =>
      Bm (x37 == (0 : Int)) (
        Bm ((IntKind.i64.wrap (BitVec.ofInt IntKind.i64.bits (IntKind.i64.wrap (BitVec.ofInt IntKind.i64.bits x22 &&& BitVec.ofInt IntKind.i64.bits (15 : Int)).toNat) &&& BitVec.ofInt IntKind.i64.bits (8 : Int)).toNat) == (0 : Int)) (
          Bm ((IntKind.i64.wrap (BitVec.ofInt IntKind.i64.bits (IntKind.i64.wrap (BitVec.ofInt IntKind.i64.bits x22 &&& BitVec.ofInt IntKind.i64.bits (15 : Int)).toNat) &&& BitVec.ofInt IntKind.i64.bits (4 : Int)).toNat) != (0 : Int)) (
            sB1 c (some ⟨b24, 0, none⟩) 0 0 true w4) (
            LdL ⟨s_, 6, none⟩ w4 fun x50_b x50_l x50_c =>
            sB1 c (some ⟨b24, 0, none⟩) 0 0 (decide (((x50_l : Nat) : Int) > (0 : Int))) w4)) (
          sB1 c (some ⟨b24, 0, none⟩) 0 0 false w4)) (
        sB1 c (some ⟨b24, 0, none⟩) 0 0 false w4)) (
      Bm (x28 == (1 : Int)) (
        Bm ((IntKind.i64.wrap (BitVec.ofInt IntKind.i64.bits (IntKind.i64.wrap (BitVec.ofInt IntKind.i64.bits x22 &&& BitVec.ofInt IntKind.i64.bits (15 : Int)).toNat) &&& BitVec.ofInt IntKind.i64.bits (2 : Int)).toNat) != (0 : Int)) (
          Pn c fun a_2 =>
          LdI .i64 (a_2.add 6) w4 fun x69 =>
          api_SeqAdd.Call x69 (1 : Int) w4 fun r70 w5 =>
          sB2 c s_ r17 r20 (IntKind.i64.wrap (BitVec.ofInt IntKind.i64.bits x22 &&& BitVec.ofInt IntKind.i64.bits (15 : Int)).toNat) (some ⟨b24, 0, none⟩) 0 0 (r20 != r70) w5) (
          sB2 c s_ r17 r20 (IntKind.i64.wrap (BitVec.ofInt IntKind.i64.bits x22 &&& BitVec.ofInt IntKind.i64.bits (15 : Int)).toNat) (some ⟨b24, 0, none⟩) 0 0 false w4)) (
        Bm ((IntKind.i64.wrap (BitVec.ofInt IntKind.i64.bits (IntKind.i64.wrap (BitVec.ofInt IntKind.i64.bits x22 &&& BitVec.ofInt IntKind.i64.bits (15 : Int)).toNat) &&& BitVec.ofInt IntKind.i64.bits (8 : Int)).toNat) != (0 : Int)) (
          Pn c fun a_3 =>
          LdI .i64 (a_3.add 10) w4 fun x134 =>
          api_SeqDiff.Call r17 x134 w4 fun r135 w6 =>
          Bm (decide (r135 ≥ (0 : Int))) (
            sB3 c (some ⟨b24, 0, none⟩) 0 0 (decide (r135 ≤ (17 : Int))) w6) (
            sB3 c (some ⟨b24, 0, none⟩) 0 0 false w6)) (
          Bm ((IntKind.i64.wrap (BitVec.ofInt IntKind.i64.bits (IntKind.i64.wrap (BitVec.ofInt IntKind.i64.bits x22 &&& BitVec.ofInt IntKind.i64.bits (15 : Int)).toNat) &&& BitVec.ofInt IntKind.i64.bits (1 : Int)).toNat) != (0 : Int)) (
            Pn c fun a_4 =>
            LdI .i64 a_4 w4 fun x151 =>
            Bm (x151 == (2 : Int)) (
              connm_Conn_again.Call c w4 fun r154_0 r154_1 r154_2 r154_3 r154_4 r154_5 r154_6_b r154_6_l r154_6_c w7 =>
              New (.cells #[.int .i64 r154_0, .int .i64 r154_1, .int .i64 r154_2, .int .i64 r154_3, .int .i64 r154_4, .int .i64 r154_5, .slice r154_6_b r154_6_l r154_6_c] 45) w7 fun b155 w8 =>
              R (some ⟨b155, 0, none⟩) 1 1 w8) (
              connm_Conn_ack.Call c w4 fun r157_0 r157_1 r157_2 r157_3 r157_4 r157_5 r157_6_b r157_6_l r157_6_c w9 =>
              New (.cells #[.int .i64 r157_0, .int .i64 r157_1, .int .i64 r157_2, .int .i64 r157_3, .int .i64 r157_4, .int .i64 r157_5, .slice r157_6_b r157_6_l r157_6_c] 45) w9 fun b158 w10 =>
              R (some ⟨b158, 0, none⟩) 1 1 w10)) (
            Bm ((IntKind.i64.wrap (BitVec.ofInt IntKind.i64.bits (IntKind.i64.wrap (BitVec.ofInt IntKind.i64.bits x22 &&& BitVec.ofInt IntKind.i64.bits (15 : Int)).toNat) &&& BitVec.ofInt IntKind.i64.bits (2 : Int)).toNat) == (0 : Int)) (
              R (some ⟨b24, 0, none⟩) 0 0 w4) (
              Pn c fun a_5 =>
              LdI .i64 a_5 w4 fun x166 =>
              Bm (x166 == (2 : Int)) (
                Pn c fun a_6 =>
                LdI .i64 (a_6.add 6) w4 fun x172 =>
                api_SeqAdd.Call x172 (1 : Int) w4 fun r173 w11 =>
                Bm (r20 != r173) (
                  connm_rst.Call r20 w11 fun r176_0 r176_1 r176_2 r176_3 r176_4 r176_5 r176_6_b r176_6_l r176_6_c w12 =>
                  New (.cells #[.int .i64 r176_0, .int .i64 r176_1, .int .i64 r176_2, .int .i64 r176_3, .int .i64 r176_4, .int .i64 r176_5, .slice r176_6_b r176_6_l r176_6_c] 45) w12 fun b177 w13 =>
                  R (some ⟨b177, 0, none⟩) 1 1 w13) (
                  Pn c fun a_7 =>
                  Sts [.int .i64 (3 : Int)] a_7 0 w11 fun w14 =>
                  Pn c fun a_8 =>
                  Sts [.int .i64 r20] (a_8.add 7) 0 w14 fun w15 =>
                  Pn c fun a_9 =>
                  Sts [.int .i64 (0 : Int)] (a_9.add 45) 0 w15 fun w16 =>
                  Pn c fun a_10 =>
                  Sts [.int .i64 (0 : Int)] (a_10.add 46) 0 w16 fun w17 =>
                  sB4 c s_ r17 r20 (IntKind.i64.wrap (BitVec.ofInt IntKind.i64.bits x22 &&& BitVec.ofInt IntKind.i64.bits (15 : Int)).toNat) (some ⟨b24, 0, none⟩) 0 0 w17)) (
                sB4 c s_ r17 r20 (IntKind.i64.wrap (BitVec.ofInt IntKind.i64.bits x22 &&& BitVec.ofInt IntKind.i64.bits (15 : Int)).toNat) (some ⟨b24, 0, none⟩) 0 0 w4)))))))) = kstep Tryz.prog 360 Tryz.f65.results.toList (Tryz.f65.body.getD .skip) (connm_Conn_Input.RV R) (kvc Tryz.prog 360 Tryz.f65.results.toList (Tryz.f65.body.getD .skip) (connm_Conn_Input.RV R) [([(0, [1, 1, 1, 1, 1, 0, 1, 0, 1, 1, 1, 0, 0, 1]), (0, [1, 1, 1, 1, 1, 0, 1, 0, 1, 1, 1, 0, 1]), (1, [0]), (0, [1, 1, 1, 1, 1, 1])], fun σ w => dP (slotOf σ 0) fun c_ => dL (slotOf σ 8) fun none0_b_ none0_l_ none0_c_ => dB (slotOf σ 54) fun t54_ => sB1 c_ none0_b_ none0_l_ none0_c_ t54_ w),
    ([(0, [1, 1, 1, 1, 1, 0, 1, 0, 1, 1, 1, 1, 1, 0, 0, 1]), (0, [1, 1, 1, 1, 1, 0, 1, 0, 1, 1, 1, 1, 1, 0, 1]), (1, [0]), (0, [1, 1, 1, 1, 1, 1])], fun σ w => dP (slotOf σ 0) fun c_ => dK (slotOf σ 3) fun s_ => dI .i64 (slotOf σ 5) fun seq_ => dI .i64 (slotOf σ 6) fun ackn_ => dI .i64 (slotOf σ 7) fun f_ => dL (slotOf σ 8) fun none0_b_ none0_l_ none0_c_ => dB (slotOf σ 72) fun t72_ => sB2 c_ s_ seq_ ackn_ f_ none0_b_ none0_l_ none0_c_ t72_ w),
    ([(0, [1, 1, 1, 1, 1, 1, 0, 1, 0, 1, 0, 1]), (0, [1, 1, 1, 1, 1, 1, 0, 1, 0, 1, 1]), (0, [1, 1, 1, 1, 1, 1, 1])], fun σ w => dP (slotOf σ 0) fun c_ => dL (slotOf σ 8) fun none0_b_ none0_l_ none0_c_ => dB (slotOf σ 141) fun t141_ => sB3 c_ none0_b_ none0_l_ none0_c_ t141_ w),
    ([(0, [1, 1, 1, 1, 1, 1, 1, 1, 1, 1])], fun σ w => dP (slotOf σ 0) fun c_ => dK (slotOf σ 3) fun s_ => dI .i64 (slotOf σ 5) fun seq_ => dI .i64 (slotOf σ 6) fun ackn_ => dI .i64 (slotOf σ 7) fun f_ => dL (slotOf σ 8) fun none0_b_ none0_l_ none0_c_ => sB4 c_ s_ seq_ ackn_ f_ none0_b_ none0_l_ none0_c_ w)] 2000) [(0, [])] [(0, .pointer c), (1, .agg #[.int .i64 s_0, .int .i64 s_1, .int .i64 s_2, .int .i64 s_3, .int .i64 s_4, .int .i64 s_5, .slice s_6_b s_6_l s_6_c])] w := by kernel_rfl
theorem connm_Conn_Input.B0_sound {R : Option Addr → Nat → Nat → World → Prop}  (c : Option Addr) (s_0 s_1 s_2 s_3 s_4 s_5 : Int) (s_6_b : Option Addr) (s_6_l s_6_c : Nat) (w : World) (h : connm_Conn_Input.B0 c s_0 s_1 s_2 s_3 s_4 s_5 s_6_b s_6_l s_6_c w   R) :
    KW Tryz.prog 65 360 (connm_Conn_Input.RV R) ([(0, [])].map (toItem (Tryz.f65.body.getD .skip))) [(0, .pointer c), (1, .agg #[.int .i64 s_0, .int .i64 s_1, .int .i64 s_2, .int .i64 s_3, .int .i64 s_4, .int .i64 s_5, .slice s_6_b s_6_l s_6_c])] w := by
  exact block_spec Tryz.func65 Tryz.mixed (stops_cons (fun σ w h => by
      obtain ⟨c_, e0, h⟩ := dP_elim h
      obtain ⟨none0_b_, none0_l_, none0_c_, e1, h⟩ := dL_elim h
      obtain ⟨t54_, e2, h⟩ := dB_elim h
      exact (connm_Conn_Input.B1_sound  c_ none0_b_ none0_l_ none0_c_ t54_ w h).weaken (Sub.cons (Sub.cons (Sub.cons (Sub.nil _) e2) e1) e0)) (stops_cons (fun σ w h => by
      obtain ⟨c_, e0, h⟩ := dP_elim h
      obtain ⟨s_, e1, h⟩ := dK_elim h
      obtain ⟨seq_, e2, h⟩ := dI_elim h
      obtain ⟨ackn_, e3, h⟩ := dI_elim h
      obtain ⟨f_, e4, h⟩ := dI_elim h
      obtain ⟨none0_b_, none0_l_, none0_c_, e5, h⟩ := dL_elim h
      obtain ⟨t72_, e6, h⟩ := dB_elim h
      exact (connm_Conn_Input.B2_sound  c_ s_ seq_ ackn_ f_ none0_b_ none0_l_ none0_c_ t72_ w h).weaken (Sub.cons (Sub.cons (Sub.cons (Sub.cons (Sub.cons (Sub.cons (Sub.cons (Sub.nil _) e6) e5) e4) e3) e2) e1) e0)) (stops_cons (fun σ w h => by
      obtain ⟨c_, e0, h⟩ := dP_elim h
      obtain ⟨none0_b_, none0_l_, none0_c_, e1, h⟩ := dL_elim h
      obtain ⟨t141_, e2, h⟩ := dB_elim h
      exact (connm_Conn_Input.B3_sound  c_ none0_b_ none0_l_ none0_c_ t141_ w h).weaken (Sub.cons (Sub.cons (Sub.cons (Sub.nil _) e2) e1) e0)) (stops_cons (fun σ w h => by
      obtain ⟨c_, e0, h⟩ := dP_elim h
      obtain ⟨s_, e1, h⟩ := dK_elim h
      obtain ⟨seq_, e2, h⟩ := dI_elim h
      obtain ⟨ackn_, e3, h⟩ := dI_elim h
      obtain ⟨f_, e4, h⟩ := dI_elim h
      obtain ⟨none0_b_, none0_l_, none0_c_, e5, h⟩ := dL_elim h
      exact (connm_Conn_Input.B4_sound  c_ s_ seq_ ackn_ f_ none0_b_ none0_l_ none0_c_ w h).weaken (Sub.cons (Sub.cons (Sub.cons (Sub.cons (Sub.cons (Sub.cons (Sub.nil _) e5) e4) e3) e2) e1) e0)) stops_nil)))) (Eq.mp (connm_Conn_Input.B0_eq c s_0 s_1 s_2 s_3 s_4 s_5 s_6_b s_6_l s_6_c w   R (fun c_ none0_b_ none0_l_ none0_c_ t54_ w => connm_Conn_Input.B1 c_ none0_b_ none0_l_ none0_c_ t54_ w  R) (fun c_ s_ seq_ ackn_ f_ none0_b_ none0_l_ none0_c_ t72_ w => connm_Conn_Input.B2 c_ s_ seq_ ackn_ f_ none0_b_ none0_l_ none0_c_ t72_ w  R) (fun c_ none0_b_ none0_l_ none0_c_ t141_ w => connm_Conn_Input.B3 c_ none0_b_ none0_l_ none0_c_ t141_ w  R) (fun c_ s_ seq_ ackn_ f_ none0_b_ none0_l_ none0_c_ w => connm_Conn_Input.B4 c_ s_ seq_ ackn_ f_ none0_b_ none0_l_ none0_c_ w  R)) h)
theorem connm_Conn_Input.sound (c : Option Addr) (s_0 s_1 s_2 s_3 s_4 s_5 : Int) (s_6_b : Option Addr) (s_6_l s_6_c : Nat) (w : World) (R : Option Addr → Nat → Nat → World → Prop) (h : connm_Conn_Input.B0 c s_0 s_1 s_2 s_3 s_4 s_5 s_6_b s_6_l s_6_c w R) : connm_Conn_Input.Call c s_0 s_1 s_2 s_3 s_4 s_5 s_6_b s_6_l s_6_c w R := by
  have hc := calls_of_block (args := #[.pointer c, .agg #[.int .i64 s_0, .int .i64 s_1, .int .i64 s_2, .int .i64 s_3, .int .i64 s_4, .int .i64 s_5, .slice s_6_b s_6_l s_6_c]]) Tryz.func65 (body := (Tryz.f65.body.getD .skip)) (by kernel_rfl) (by kernel_rfl) (args_slot _) (connm_Conn_Input.B0_sound c s_0 s_1 s_2 s_3 s_4 s_5 s_6_b s_6_l s_6_c w h)
  exact hc.mono fun e w' he => by
    obtain ⟨v, rfl, hv⟩ := he
    exact connm_Conn_Input.RV_elim hv
end Go.Proofs.Qxb6500422aGreat
