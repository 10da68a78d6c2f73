import Derived.Test.Qxb6500422aGreatSig
set_option maxRecDepth 100000
set_option linter.unusedVariables false
open Go.Vc
namespace Go.Proofs.Qxb6500422aGreat
def seg_SendBuf_Reset.B0 (b : Option Addr) (seq : Int) (w : World)   (R : World → Prop) : Prop :=
  api_SeqAdd.Call seq (0 : Int) w fun r6 w1 =>
  Pn b fun a =>
  Sts [.int .u8 (IntKind.u8.wrap r6)] (a.add 19) 0 w1 fun w2 =>
  Pn b fun a_1 =>
  Sts [.int .i64 (0 : Int)] (a_1.add 16) 0 w2 fun w3 =>
  Pn b fun a_2 =>
  Sts [.int .i64 (0 : Int)] (a_2.add 17) 0 w3 fun w4 =>
  Pn b fun a_3 =>
  Sts [.int .i64 (0 : Int)] (a_3.add 18) 0 w4 fun w5 =>
  R  w5
theorem seg_SendBuf_Reset.B0_eq (b : Option Addr) (seq : Int) (w : World)   (R : World → Prop)  :
    (
  api_SeqAdd.Call seq (0 : Int) w fun r6 w1 =>
  Pn b fun a =>
  Sts [.int .u8 (IntKind.u8.wrap r6)] (a.add 19) 0 w1 fun w2 =>
  Pn b fun a_1 =>
  Sts [.int .i64 (0 : Int)] (a_1.add 16) 0 w2 fun w3 =>
  Pn b fun a_2 =>
  Sts [.int .i64 (0 : Int)] (a_2.add 17) 0 w3 fun w4 =>
  Pn b fun a_3 =>
  Sts [.int .i64 (0 : Int)] (a_3.add 18) 0 w4 fun w5 =>
  R  w5) = kstep Tryz.prog 21 Tryz.f100.results.toList (Tryz.f100.body.getD .skip) (seg_SendBuf_Reset.RV R) (kvc Tryz.prog 21 Tryz.f100.results.toList (Tryz.f100.body.getD .skip) (seg_SendBuf_Reset.RV R) [] 2000) [(0, [])] [(0, .pointer b), (1, .int .i64 seq)] w := by kernel_rfl
theorem seg_SendBuf_Reset.B0_sound {R : World → Prop}  (b : Option Addr) (seq : Int) (w : World) (h : seg_SendBuf_Reset.B0 b seq w   R) :
    KW Tryz.prog 100 21 (seg_SendBuf_Reset.RV R) ([(0, [])].map (toItem (Tryz.f100.body.getD .skip))) [(0, .pointer b), (1, .int .i64 seq)] w := by
  exact block_spec Tryz.func100 Tryz.mixed stops_nil (Eq.mp (seg_SendBuf_Reset.B0_eq b seq w   R ) h)
theorem seg_SendBuf_Reset.sound (b : Option Addr) (seq : Int) (w : World) (R : World → Prop) (h : seg_SendBuf_Reset.B0 b seq w R) : seg_SendBuf_Reset.Call b seq w R := by
  have hc := calls_of_block (args := #[.pointer b, .int .i64 seq]) Tryz.func100 (body := (Tryz.f100.body.getD .skip)) (by kernel_rfl) (by kernel_rfl) (args_slot _) (seg_SendBuf_Reset.B0_sound b seq w h)
  exact hc.mono fun e w' he => by
    obtain ⟨v, rfl, hv⟩ := he
    exact seg_SendBuf_Reset.RV_elim hv
def conn_Conn_mk.B2 (t8 s : Nat) (w : World)   (R : Int → Int → Int → Int → Int → Int → Option Addr → Nat → Nat → World → Prop) : Prop :=
  LdI .i64 ⟨s, 0, none⟩ w fun x30_0 =>
  LdI .i64 ⟨s, 1, none⟩ w fun x30_1 =>
  LdI .i64 ⟨s, 2, none⟩ w fun x30_2 =>
  LdI .i64 ⟨s, 3, none⟩ w fun x30_3 =>
  LdI .i64 ⟨s, 4, none⟩ w fun x30_4 =>
  LdI .i64 ⟨s, 5, none⟩ w fun x30_5 =>
  LdL ⟨s, 6, none⟩ w fun x30_6_b x30_6_l x30_6_c =>
  Sts [.int .i64 x30_0, .int .i64 x30_1, .int .i64 x30_2, .int .i64 x30_3, .int .i64 x30_4, .int .i64 x30_5, .slice x30_6_b x30_6_l x30_6_c] ⟨t8, 0, none⟩ 0 w fun w1 =>
  LdI .i64 ⟨t8, 0, none⟩ w1 fun r_0 =>
  LdI .i64 ⟨t8, 1, none⟩ w1 fun r_1 =>
  LdI .i64 ⟨t8, 2, none⟩ w1 fun r_2 =>
  LdI .i64 ⟨t8, 3, none⟩ w1 fun r_3 =>
  LdI .i64 ⟨t8, 4, none⟩ w1 fun r_4 =>
  LdI .i64 ⟨t8, 5, none⟩ w1 fun r_5 =>
  LdL ⟨t8, 6, none⟩ w1 fun r_6_b r_6_l r_6_c =>
  R r_0 r_1 r_2 r_3 r_4 r_5 r_6_b r_6_l r_6_c w1
theorem conn_Conn_mk.B2_eq (t8 s : Nat) (w : World)   (R : Int → Int → Int → Int → Int → Int → Option Addr → Nat → Nat → World → Prop)  :
    (
  LdI .i64 ⟨s, 0, none⟩ w fun x30_0 =>
  LdI .i64 ⟨s, 1, none⟩ w fun x30_1 =>
  LdI .i64 ⟨s, 2, none⟩ w fun x30_2 =>
  LdI .i64 ⟨s, 3, none⟩ w fun x30_3 =>
  LdI .i64 ⟨s, 4, none⟩ w fun x30_4 =>
  LdI .i64 ⟨s, 5, none⟩ w fun x30_5 =>
  LdL ⟨s, 6, none⟩ w fun x30_6_b x30_6_l x30_6_c =>
  Sts [.int .i64 x30_0, .int .i64 x30_1, .int .i64 x30_2, .int .i64 x30_3, .int .i64 x30_4, .int .i64 x30_5, .slice x30_6_b x30_6_l x30_6_c] ⟨t8, 0, none⟩ 0 w fun w1 =>
  LdI .i64 ⟨t8, 0, none⟩ w1 fun r_0 =>
  LdI .i64 ⟨t8, 1, none⟩ w1 fun r_1 =>
  LdI .i64 ⟨t8, 2, none⟩ w1 fun r_2 =>
  LdI .i64 ⟨t8, 3, none⟩ w1 fun r_3 =>
  LdI .i64 ⟨t8, 4, none⟩ w1 fun r_4 =>
  LdI .i64 ⟨t8, 5, none⟩ w1 fun r_5 =>
  LdL ⟨t8, 6, none⟩ w1 fun r_6_b r_6_l r_6_c =>
  R r_0 r_1 r_2 r_3 r_4 r_5 r_6_b r_6_l r_6_c w1) = kstep Tryz.prog 31 Tryz.f101.results.toList (Tryz.f101.body.getD .skip) (conn_Conn_mk.RV R) (kvc Tryz.prog 31 Tryz.f101.results.toList (Tryz.f101.body.getD .skip) (conn_Conn_mk.RV R) [] 2000) [(0, [1, 1, 1, 1, 1])] [(8, .pointer (some ⟨t8, 0, none⟩)), (10, .pointer (some ⟨s, 0, none⟩))] w := by kernel_rfl
theorem conn_Conn_mk.B2_sound {R : Int → Int → Int → Int → Int → Int → Option Addr → Nat → Nat → World → Prop}  (t8 s : Nat) (w : World) (h : conn_Conn_mk.B2 t8 s w   R) :
    KW Tryz.prog 101 31 (conn_Conn_mk.RV R) ([(0, [1, 1, 1, 1, 1])].map (toItem (Tryz.f101.body.getD .skip))) [(8, .pointer (some ⟨t8, 0, none⟩)), (10, .pointer (some ⟨s, 0, none⟩))] w := by
  exact block_spec Tryz.func101 Tryz.mixed stops_nil (Eq.mp (conn_Conn_mk.B2_eq t8 s w   R ) h)
def conn_Conn_mk.B1 (c : Option Addr) (flags seq : Int) (data_b : Option Addr) (data_l data_c t8 : Nat) (w : World)   (R : Int → Int → Int → Int → Int → Int → Option Addr → Nat → Nat → World → Prop) : Prop :=
  Pn c fun a =>
  LdP (a.add 1) w fun x17 =>
  seg_RecvBuf_Window.Call x17 w fun r18 w1 =>
  New (.cells #[.int .i64 (0 : Int), .int .i64 (0 : Int), .int .i64 (0 : Int), .int .i64 (0 : Int), .int .i64 (0 : Int), .int .i64 (0 : Int), .slice none 0 0] 45) w1 fun s_ w2 =>
  Sts [.int .i64 (0 : Int), .int .i64 (0 : Int), .int .i64 seq, .int .i64 (0 : Int), .int .i64 flags, .int .i64 r18, .slice data_b data_l data_c] ⟨s_, 0, none⟩ 0 w2 fun w3 =>
  Bm ((IntKind.i64.wrap (BitVec.ofInt IntKind.i64.bits flags &&& BitVec.ofInt IntKind.i64.bits (2 : Int)).toNat) != (0 : Int)) (
    conn_Conn_rcvNxt.Call c w3 fun r28 w4 =>
    Sts [.int .i64 r28] ⟨s_, 3, none⟩ 0 w4 fun w5 =>
    conn_Conn_mk.B2 t8 s_ w5  R) (
    conn_Conn_mk.B2 t8 s_ w3  R)
theorem conn_Conn_mk.B1_eq (c : Option Addr) (flags seq : Int) (data_b : Option Addr) (data_l data_c t8 : Nat) (w : World)   (R : Int → Int → Int → Int → Int → Int → Option Addr → Nat → Nat → World → Prop) (sB2 : Nat → Nat → World → Prop) :
    (
  Pn c fun a =>
  LdP (a.add 1) w fun x17 =>
  seg_RecvBuf_Window.Call x17 w fun r18 w1 =>
  New (.cells #[.int .i64 (0 : Int), .int .i64 (0 : Int), .int .i64 (0 : Int), .int .i64 (0 : Int), .int .i64 (0 : Int), .int .i64 (0 : Int), .slice none 0 0] 45) w1 fun s_ w2 =>
  Sts [.int .i64 (0 : Int), .int .i64 (0 : Int), .int .i64 seq, .int .i64 (0 : Int), .int .i64 flags, .int .i64 r18, .slice data_b data_l data_c] ⟨s_, 0, none⟩ 0 w2 fun w3 =>
  Bm ((IntKind.i64.wrap (BitVec.ofInt IntKind.i64.bits flags &&& BitVec.ofInt IntKind.i64.bits (2 : Int)).toNat) != (0 : Int)) (
    conn_Conn_rcvNxt.Call c w3 fun r28 w4 =>
    Sts [.int .i64 r28] ⟨s_, 3, none⟩ 0 w4 fun w5 =>
    sB2 t8 s_ w5) (
    sB2 t8 s_ w3)) = kstep Tryz.prog 31 Tryz.f101.results.toList (Tryz.f101.body.getD .skip) (conn_Conn_mk.RV R) (kvc Tryz.prog 31 Tryz.f101.results.toList (Tryz.f101.body.getD .skip) (conn_Conn_mk.RV R) [([(0, [1, 1, 1, 1, 1])], fun σ w => dK (slotOf σ 8) fun t8_ => dK (slotOf σ 10) fun s_ => sB2 t8_ s_ w)] 2000) [(0, [1, 1])] [(0, .pointer c), (1, .int .i64 flags), (2, .int .i64 seq), (3, .slice data_b data_l data_c), (8, .pointer (some ⟨t8, 0, none⟩))] w := by kernel_rfl
theorem conn_Conn_mk.B1_sound {R : Int → Int → Int → Int → Int → Int → Option Addr → Nat → Nat → World → Prop}  (c : Option Addr) (flags seq : Int) (data_b : Option Addr) (data_l data_c t8 : Nat) (w : World) (h : conn_Conn_mk.B1 c flags seq data_b data_l data_c t8 w   R) :
    KW Tryz.prog 101 31 (conn_Conn_mk.RV R) ([(0, [1, 1])].map (toItem (Tryz.f101.body.getD .skip))) [(0, .pointer c), (1, .int .i64 flags), (2, .int .i64 seq), (3, .slice data_b data_l data_c), (8, .pointer (some ⟨t8, 0, none⟩))] w := by
  exact block_spec Tryz.func101 Tryz.mixed (stops_cons (fun σ w h => by
      obtain ⟨t8_, e0, h⟩ := dK_elim h
      obtain ⟨s_, e1, h⟩ := dK_elim h
      exact (conn_Conn_mk.B2_sound  t8_ s_ w h).weaken (Sub.cons (Sub.cons (Sub.nil _) e1) e0)) stops_nil) (Eq.mp (conn_Conn_mk.B1_eq c flags seq data_b data_l data_c t8 w   R (fun t8_ s_ w => conn_Conn_mk.B2 t8_ s_ w  R)) h)
def conn_Conn_mk.B0 (c : Option Addr) (flags seq : Int) (data_b : Option Addr) (data_l data_c : Nat) (w : World)   (R : Int → Int → Int → Int → Int → Int → Option Addr → Nat → Nat → World → Prop) : Prop :=
  New (.cells #[.int .i64 (0 : Int), .int .i64 (0 : Int), .int .i64 (0 : Int), .int .i64 (0 : Int), .int .i64 (0 : Int), .int .i64 (0 : Int), .slice none 0 0] 45) w fun b8 w1 =>
  Bm data_b.isNone (
    New (.cells #[] 5) w1 fun b13 w2 =>
    conn_Conn_mk.B1 c flags seq (some ⟨b13, 0, none⟩) 0 0 b8 w2  R) (
    conn_Conn_mk.B1 c flags seq data_b data_l data_c b8 w1  R)
theorem conn_Conn_mk.B0_eq (c : Option Addr) (flags seq : Int) (data_b : Option Addr) (data_l data_c : Nat) (w : World)   (R : Int → Int → Int → Int → Int → Int → Option Addr → Nat → Nat → World → Prop) (sB1 : Option Addr → Int → Int → Option Addr → Nat → Nat → Nat → World → Prop) :
    (
  New (.cells #[.int .i64 (0 : Int), .int .i64 (0 : Int), .int .i64 (0 : Int), .int .i64 (0 : Int), .int .i64 (0 : Int), .int .i64 (0 : Int), .slice none 0 0] 45) w fun b8 w1 =>
  Bm data_b.isNone (
    New (.cells #[] 5) w1 fun b13 w2 =>
    sB1 c flags seq (some ⟨b13, 0, none⟩) 0 0 b8 w2) (
    sB1 c flags seq data_b data_l data_c b8 w1)) = kstep Tryz.prog 31 Tryz.f101.results.toList (Tryz.f101.body.getD .skip) (conn_Conn_mk.RV R) (kvc Tryz.prog 31 Tryz.f101.results.toList (Tryz.f101.body.getD .skip) (conn_Conn_mk.RV R) [([(0, [1, 1])], fun σ w => dP (slotOf σ 0) fun c_ => dI .i64 (slotOf σ 1) fun flags_ => dI .i64 (slotOf σ 2) fun seq_ => dL (slotOf σ 3) fun data_b_ data_l_ data_c_ => dK (slotOf σ 8) fun t8_ => sB1 c_ flags_ seq_ data_b_ data_l_ data_c_ t8_ w)] 2000) [(0, [])] [(0, .pointer c), (1, .int .i64 flags), (2, .int .i64 seq), (3, .slice data_b data_l data_c)] w := by kernel_rfl
theorem conn_Conn_mk.B0_sound {R : Int → Int → Int → Int → Int → Int → Option Addr → Nat → Nat → World → Prop}  (c : Option Addr) (flags seq : Int) (data_b : Option Addr) (data_l data_c : Nat) (w : World) (h : conn_Conn_mk.B0 c flags seq data_b data_l data_c w   R) :
    KW Tryz.prog 101 31 (conn_Conn_mk.RV R) ([(0, [])].map (toItem (Tryz.f101.body.getD .skip))) [(0, .pointer c), (1, .int .i64 flags), (2, .int .i64 seq), (3, .slice data_b data_l data_c)] w := by
  exact block_spec Tryz.func101 Tryz.mixed (stops_cons (fun σ w h => by
      obtain ⟨c_, e0, h⟩ := dP_elim h
      obtain ⟨flags_, e1, h⟩ := dI_elim h
      obtain ⟨seq_, e2, h⟩ := dI_elim h
      obtain ⟨data_b_, data_l_, data_c_, e3, h⟩ := dL_elim h
      obtain ⟨t8_, e4, h⟩ := dK_elim h
      exact (conn_Conn_mk.B1_sound  c_ flags_ seq_ data_b_ data_l_ data_c_ t8_ w h).weaken (Sub.cons (Sub.cons (Sub.cons (Sub.cons (Sub.cons (Sub.nil _) e4) e3) e2) e1) e0)) stops_nil) (Eq.mp (conn_Conn_mk.B0_eq c flags seq data_b data_l data_c w   R (fun c_ flags_ seq_ data_b_ data_l_ data_c_ t8_ w => conn_Conn_mk.B1 c_ flags_ seq_ data_b_ data_l_ data_c_ t8_ w  R)) h)
theorem conn_Conn_mk.sound (c : Option Addr) (flags seq : Int) (data_b : Option Addr) (data_l data_c : Nat) (w : World) (R : Int → Int → Int → Int → Int → Int → Option Addr → Nat → Nat → World → Prop) (h : conn_Conn_mk.B0 c flags seq data_b data_l data_c w R) : conn_Conn_mk.Call c flags seq data_b data_l data_c w R := by
  have hc := calls_of_block (args := #[.pointer c, .int .i64 flags, .int .i64 seq, .slice data_b data_l data_c]) Tryz.func101 (body := (Tryz.f101.body.getD .skip)) (by kernel_rfl) (by kernel_rfl) (args_slot _) (conn_Conn_mk.B0_sound c flags seq data_b data_l data_c w h)
  exact hc.mono fun e w' he => by
    obtain ⟨v, rfl, hv⟩ := he
    exact conn_Conn_mk.RV_elim hv
def seg_SendBuf_Again.B0 (b : Option Addr) (max : Int) (w : World)   (R : Int → Option Addr → Nat → Nat → World → Prop) : Prop :=
  Pn b fun a =>
  LdI .i64 (a.add 18) w fun x12 =>
  seg_least.Call max x12 w fun r13 w1 =>
  seg_SendBuf_span.Call b (0 : Int) r13 w1 fun r16_b r16_l r16_c w2 =>
  Pn b fun a_1 =>
  LdI .u8 (a_1.add 19) w2 fun x20 =>
  R (IntKind.i64.wrap x20) r16_b r16_l r16_c w2
theorem seg_SendBuf_Again.B0_eq (b : Option Addr) (max : Int) (w : World)   (R : Int → Option Addr → Nat → Nat → World → Prop)  :
    (
  Pn b fun a =>
  LdI .i64 (a.add 18) w fun x12 =>
  seg_least.Call max x12 w fun r13 w1 =>
  seg_SendBuf_span.Call b (0 : Int) r13 w1 fun r16_b r16_l r16_c w2 =>
  Pn b fun a_1 =>
  LdI .u8 (a_1.add 19) w2 fun x20 =>
  R (IntKind.i64.wrap x20) r16_b r16_l r16_c w2) = kstep Tryz.prog 23 Tryz.f102.results.toList (Tryz.f102.body.getD .skip) (seg_SendBuf_Again.RV R) (kvc Tryz.prog 23 Tryz.f102.results.toList (Tryz.f102.body.getD .skip) (seg_SendBuf_Again.RV R) [] 2000) [(0, [])] [(0, .pointer b), (1, .int .i64 max)] w := by kernel_rfl
theorem seg_SendBuf_Again.B0_sound {R : Int → Option Addr → Nat → Nat → World → Prop}  (b : Option Addr) (max : Int) (w : World) (h : seg_SendBuf_Again.B0 b max w   R) :
    KW Tryz.prog 102 23 (seg_SendBuf_Again.RV R) ([(0, [])].map (toItem (Tryz.f102.body.getD .skip))) [(0, .pointer b), (1, .int .i64 max)] w := by
  exact block_spec Tryz.func102 Tryz.mixed stops_nil (Eq.mp (seg_SendBuf_Again.B0_eq b max w   R ) h)
theorem seg_SendBuf_Again.sound (b : Option Addr) (max : Int) (w : World) (R : Int → Option Addr → Nat → Nat → World → Prop) (h : seg_SendBuf_Again.B0 b max w R) : seg_SendBuf_Again.Call b max w R := by
  have hc := calls_of_block (args := #[.pointer b, .int .i64 max]) Tryz.func102 (body := (Tryz.f102.body.getD .skip)) (by kernel_rfl) (by kernel_rfl) (args_slot _) (seg_SendBuf_Again.B0_sound b max w h)
  exact hc.mono fun e w' he => by
    obtain ⟨v, rfl, hv⟩ := he
    exact seg_SendBuf_Again.RV_elim hv
def connm_Conn_mk.B2 (t8 s : Nat) (w : World)   (R : Int → Int → Int → Int → Int → Int → Option Addr → Nat → Nat → World → Prop) : Prop :=
  LdI .i64 ⟨s, 0, none⟩ w fun x29_0 =>
  LdI .i64 ⟨s, 1, none⟩ w fun x29_1 =>
  LdI .i64 ⟨s, 2, none⟩ w fun x29_2 =>
  LdI .i64 ⟨s, 3, none⟩ w fun x29_3 =>
  LdI .i64 ⟨s, 4, none⟩ w fun x29_4 =>
  LdI .i64 ⟨s, 5, none⟩ w fun x29_5 =>
  LdL ⟨s, 6, none⟩ w fun x29_6_b x29_6_l x29_6_c =>
  Sts [.int .i64 x29_0, .int .i64 x29_1, .int .i64 x29_2, .int .i64 x29_3, .int .i64 x29_4, .int .i64 x29_5, .slice x29_6_b x29_6_l x29_6_c] ⟨t8, 0, none⟩ 0 w fun w1 =>
  LdI .i64 ⟨t8, 0, none⟩ w1 fun r_0 =>
  LdI .i64 ⟨t8, 1, none⟩ w1 fun r_1 =>
  LdI .i64 ⟨t8, 2, none⟩ w1 fun r_2 =>
  LdI .i64 ⟨t8, 3, none⟩ w1 fun r_3 =>
  LdI .i64 ⟨t8, 4, none⟩ w1 fun r_4 =>
  LdI .i64 ⟨t8, 5, none⟩ w1 fun r_5 =>
  LdL ⟨t8, 6, none⟩ w1 fun r_6_b r_6_l r_6_c =>
  R r_0 r_1 r_2 r_3 r_4 r_5 r_6_b r_6_l r_6_c w1
theorem connm_Conn_mk.B2_eq (t8 s : Nat) (w : World)   (R : Int → Int → Int → Int → Int → Int → Option Addr → Nat → Nat → World → Prop)  :
    (
  LdI .i64 ⟨s, 0, none⟩ w fun x29_0 =>
  LdI .i64 ⟨s, 1, none⟩ w fun x29_1 =>
  LdI .i64 ⟨s, 2, none⟩ w fun x29_2 =>
  LdI .i64 ⟨s, 3, none⟩ w fun x29_3 =>
  LdI .i64 ⟨s, 4, none⟩ w fun x29_4 =>
  LdI .i64 ⟨s, 5, none⟩ w fun x29_5 =>
  LdL ⟨s, 6, none⟩ w fun x29_6_b x29_6_l x29_6_c =>
  Sts [.int .i64 x29_0, .int .i64 x29_1, .int .i64 x29_2, .int .i64 x29_3, .int .i64 x29_4, .int .i64 x29_5, .slice x29_6_b x29_6_l x29_6_c] ⟨t8, 0, none⟩ 0 w fun w1 =>
  LdI .i64 ⟨t8, 0, none⟩ w1 fun r_0 =>
  LdI .i64 ⟨t8, 1, none⟩ w1 fun r_1 =>
  LdI .i64 ⟨t8, 2, none⟩ w1 fun r_2 =>
  LdI .i64 ⟨t8, 3, none⟩ w1 fun r_3 =>
  LdI .i64 ⟨t8, 4, none⟩ w1 fun r_4 =>
  LdI .i64 ⟨t8, 5, none⟩ w1 fun r_5 =>
  LdL ⟨t8, 6, none⟩ w1 fun r_6_b r_6_l r_6_c =>
  R r_0 r_1 r_2 r_3 r_4 r_5 r_6_b r_6_l r_6_c w1) = kstep Tryz.prog 30 Tryz.f103.results.toList (Tryz.f103.body.getD .skip) (connm_Conn_mk.RV R) (kvc Tryz.prog 30 Tryz.f103.results.toList (Tryz.f103.body.getD .skip) (connm_Conn_mk.RV R) [] 2000) [(0, [1, 1, 1])] [(8, .pointer (some ⟨t8, 0, none⟩)), (9, .pointer (some ⟨s, 0, none⟩))] w := by kernel_rfl
theorem connm_Conn_mk.B2_sound {R : Int → Int → Int → Int → Int → Int → Option Addr → Nat → Nat → World → Prop}  (t8 s : Nat) (w : World) (h : connm_Conn_mk.B2 t8 s w   R) :
    KW Tryz.prog 103 30 (connm_Conn_mk.RV R) ([(0, [1, 1, 1])].map (toItem (Tryz.f103.body.getD .skip))) [(8, .pointer (some ⟨t8, 0, none⟩)), (9, .pointer (some ⟨s, 0, none⟩))] w := by
  exact block_spec Tryz.func103 Tryz.mixed stops_nil (Eq.mp (connm_Conn_mk.B2_eq t8 s w   R ) h)
def connm_Conn_mk.B1 (c : Option Addr) (flags : Int) (t8 s : Nat) (w : World)   (R : Int → Int → Int → Int → Int → Int → Option Addr → Nat → Nat → World → Prop) : Prop :=
  Bm ((IntKind.i64.wrap (BitVec.ofInt IntKind.i64.bits flags &&& BitVec.ofInt IntKind.i64.bits (2 : Int)).toNat) != (0 : Int)) (
    Pn c fun a =>
    LdI .i64 (a.add 10) w fun x27 =>
    Sts [.int .i64 x27] ⟨s, 3, none⟩ 0 w fun w1 =>
    connm_Conn_mk.B2 t8 s w1  R) (
    connm_Conn_mk.B2 t8 s w  R)
theorem connm_Conn_mk.B1_eq (c : Option Addr) (flags : Int) (t8 s : Nat) (w : World)   (R : Int → Int → Int → Int → Int → Int → Option Addr → Nat → Nat → World → Prop) (sB2 : Nat → Nat → World → Prop) :
    (
  Bm ((IntKind.i64.wrap (BitVec.ofInt IntKind.i64.bits flags &&& BitVec.ofInt IntKind.i64.bits (2 : Int)).toNat) != (0 : Int)) (
    Pn c fun a =>
    LdI .i64 (a.add 10) w fun x27 =>
    Sts [.int .i64 x27] ⟨s, 3, none⟩ 0 w fun w1 =>
    sB2 t8 s w1) (
    sB2 t8 s w)) = kstep Tryz.prog 30 Tryz.f103.results.toList (Tryz.f103.body.getD .skip) (connm_Conn_mk.RV R) (kvc Tryz.prog 30 Tryz.f103.results.toList (Tryz.f103.body.getD .skip) (connm_Conn_mk.RV R) [([(0, [1, 1, 1])], fun σ w => dK (slotOf σ 8) fun t8_ => dK (slotOf σ 9) fun s_ => sB2 t8_ s_ w)] 2000) [(0, [1, 1])] [(0, .pointer c), (1, .int .i64 flags), (8, .pointer (some ⟨t8, 0, none⟩)), (9, .pointer (some ⟨s, 0, none⟩))] w := by kernel_rfl
theorem connm_Conn_mk.B1_sound {R : Int → Int → Int → Int → Int → Int → Option Addr → Nat → Nat → World → Prop}  (c : Option Addr) (flags : Int) (t8 s : Nat) (w : World) (h : connm_Conn_mk.B1 c flags t8 s w   R) :
    KW Tryz.prog 103 30 (connm_Conn_mk.RV R) ([(0, [1, 1])].map (toItem (Tryz.f103.body.getD .skip))) [(0, .pointer c), (1, .int .i64 flags), (8, .pointer (some ⟨t8, 0, none⟩)), (9, .pointer (some ⟨s, 0, none⟩))] w := by
  exact block_spec Tryz.func103 Tryz.mixed (stops_cons (fun σ w h => by
      obtain ⟨t8_, e0, h⟩ := dK_elim h
      obtain ⟨s_, e1, h⟩ := dK_elim h
      exact (connm_Conn_mk.B2_sound  t8_ s_ w h).weaken (Sub.cons (Sub.cons (Sub.nil _) e1) e0)) stops_nil) (Eq.mp (connm_Conn_mk.B1_eq c flags t8 s w   R (fun t8_ s_ w => connm_Conn_mk.B2 t8_ s_ w  R)) h)
def connm_Conn_mk.B0 (c : Option Addr) (flags seq : Int) (data_b : Option Addr) (data_l data_c : Nat) (w : World)   (R : Int → Int → Int → Int → Int → Int → Option Addr → Nat → Nat → World → Prop) : Prop :=
  New (.cells #[.int .i64 (0 : Int), .int .i64 (0 : Int), .int .i64 (0 : Int), .int .i64 (0 : Int), .int .i64 (0 : Int), .int .i64 (0 : Int), .slice none 0 0] 45) w fun b8 w1 =>
  Pn c fun a =>
  LdL (a.add 11) w1.drew fun x15_b x15_l x15_c =>
  ((
    api_CopyBytes.Call data_b data_l data_c w1.drew fun r19_b r19_l r19_c w2 =>
    w2.cell? (a.add 11) = some (.slice x15_b x15_l x15_c) ∧
    New (.cells #[.int .i64 (0 : Int), .int .i64 (0 : Int), .int .i64 (0 : Int), .int .i64 (0 : Int), .int .i64 (0 : Int), .int .i64 (0 : Int), .slice none 0 0] 45) w2 fun s_ w3 =>
    w3.cell? (a.add 11) = some (.slice x15_b x15_l x15_c) ∧
    Sts [.int .i64 (0 : Int), .int .i64 (0 : Int), .int .i64 seq, .int .i64 (0 : Int), .int .i64 flags, .int .i64 (IntKind.i64.wrap ((16 : Int) - ((x15_l : Nat) : Int))), .slice r19_b r19_l r19_c] ⟨s_, 0, none⟩ 0 w3 fun w4 =>
    connm_Conn_mk.B1 c flags b8 s_ w4  R) ∧ (
    New (.cells #[.int .i64 (0 : Int), .int .i64 (0 : Int), .int .i64 (0 : Int), .int .i64 (0 : Int), .int .i64 (0 : Int), .int .i64 (0 : Int), .slice none 0 0] 45) w1.drew fun s__1 w5 =>
    w5.cell? (a.add 11) = some (.slice x15_b x15_l x15_c) ∧
    api_CopyBytes.Call data_b data_l data_c w5 fun r19_b_1 r19_l_1 r19_c_1 w6 =>
    w6.cell? (a.add 11) = some (.slice x15_b x15_l x15_c) ∧
    Sts [.int .i64 (0 : Int), .int .i64 (0 : Int), .int .i64 seq, .int .i64 (0 : Int), .int .i64 flags, .int .i64 (IntKind.i64.wrap ((16 : Int) - ((x15_l : Nat) : Int))), .slice r19_b_1 r19_l_1 r19_c_1] ⟨s__1, 0, none⟩ 0 w6 fun w7 =>
    connm_Conn_mk.B1 c flags b8 s__1 w7  R))
theorem connm_Conn_mk.B0_eq (c : Option Addr) (flags seq : Int) (data_b : Option Addr) (data_l data_c : Nat) (w : World)   (R : Int → Int → Int → Int → Int → Int → Option Addr → Nat → Nat → World → Prop) (sB1 : Option Addr → Int → Nat → Nat → World → Prop) :
    (
  New (.cells #[.int .i64 (0 : Int), .int .i64 (0 : Int), .int .i64 (0 : Int), .int .i64 (0 : Int), .int .i64 (0 : Int), .int .i64 (0 : Int), .slice none 0 0] 45) w fun b8 w1 =>
  Pn c fun a =>
  LdL (a.add 11) w1.drew fun x15_b x15_l x15_c =>
  ((
    api_CopyBytes.Call data_b data_l data_c w1.drew fun r19_b r19_l r19_c w2 =>
    w2.cell? (a.add 11) = some (.slice x15_b x15_l x15_c) ∧
    New (.cells #[.int .i64 (0 : Int), .int .i64 (0 : Int), .int .i64 (0 : Int), .int .i64 (0 : Int), .int .i64 (0 : Int), .int .i64 (0 : Int), .slice none 0 0] 45) w2 fun s_ w3 =>
    w3.cell? (a.add 11) = some (.slice x15_b x15_l x15_c) ∧
    Sts [.int .i64 (0 : Int), .int .i64 (0 : Int), .int .i64 seq, .int .i64 (0 : Int), .int .i64 flags, .int .i64 (IntKind.i64.wrap ((16 : Int) - ((x15_l : Nat) : Int))), .slice r19_b r19_l r19_c] ⟨s_, 0, none⟩ 0 w3 fun w4 =>
    sB1 c flags b8 s_ w4) ∧ (
    New (.cells #[.int .i64 (0 : Int), .int .i64 (0 : Int), .int .i64 (0 : Int), .int .i64 (0 : Int), .int .i64 (0 : Int), .int .i64 (0 : Int), .slice none 0 0] 45) w1.drew fun s__1 w5 =>
    w5.cell? (a.add 11) = some (.slice x15_b x15_l x15_c) ∧
    api_CopyBytes.Call data_b data_l data_c w5 fun r19_b_1 r19_l_1 r19_c_1 w6 =>
    w6.cell? (a.add 11) = some (.slice x15_b x15_l x15_c) ∧
    Sts [.int .i64 (0 : Int), .int .i64 (0 : Int), .int .i64 seq, .int .i64 (0 : Int), .int .i64 flags, .int .i64 (IntKind.i64.wrap ((16 : Int) - ((x15_l : Nat) : Int))), .slice r19_b_1 r19_l_1 r19_c_1] ⟨s__1, 0, none⟩ 0 w6 fun w7 =>
    sB1 c flags b8 s__1 w7))) = kstep Tryz.prog 30 Tryz.f103.results.toList (Tryz.f103.body.getD .skip) (connm_Conn_mk.RV R) (kvc Tryz.prog 30 Tryz.f103.results.toList (Tryz.f103.body.getD .skip) (connm_Conn_mk.RV R) [([(0, [1, 1])], fun σ w => dP (slotOf σ 0) fun c_ => dI .i64 (slotOf σ 1) fun flags_ => dK (slotOf σ 8) fun t8_ => dK (slotOf σ 9) fun s_ => sB1 c_ flags_ t8_ s_ w)] 2000) [(0, [])] [(0, .pointer c), (1, .int .i64 flags), (2, .int .i64 seq), (3, .slice data_b data_l data_c)] w := by kernel_rfl
theorem connm_Conn_mk.B0_sound {R : Int → Int → Int → Int → Int → Int → Option Addr → Nat → Nat → World → Prop}  (c : Option Addr) (flags seq : Int) (data_b : Option Addr) (data_l data_c : Nat) (w : World) (h : connm_Conn_mk.B0 c flags seq data_b data_l data_c w   R) :
    KW Tryz.prog 103 30 (connm_Conn_mk.RV R) ([(0, [])].map (toItem (Tryz.f103.body.getD .skip))) [(0, .pointer c), (1, .int .i64 flags), (2, .int .i64 seq), (3, .slice data_b data_l data_c)] w := by
  exact block_spec Tryz.func103 Tryz.mixed (stops_cons (fun σ w h => by
      obtain ⟨c_, e0, h⟩ := dP_elim h
      obtain ⟨flags_, e1, h⟩ := dI_elim h
      obtain ⟨t8_, e2, h⟩ := dK_elim h
      obtain ⟨s_, e3, h⟩ := dK_elim h
      exact (connm_Conn_mk.B1_sound  c_ flags_ t8_ s_ w h).weaken (Sub.cons (Sub.cons (Sub.cons (Sub.cons (Sub.nil _) e3) e2) e1) e0)) stops_nil) (Eq.mp (connm_Conn_mk.B0_eq c flags seq data_b data_l data_c w   R (fun c_ flags_ t8_ s_ w => connm_Conn_mk.B1 c_ flags_ t8_ s_ w  R)) h)
theorem connm_Conn_mk.sound (c : Option Addr) (flags seq : Int) (data_b : Option Addr) (data_l data_c : Nat) (w : World) (R : Int → Int → Int → Int → Int → Int → Option Addr → Nat → Nat → World → Prop) (h : connm_Conn_mk.B0 c flags seq data_b data_l data_c w R) : connm_Conn_mk.Call c flags seq data_b data_l data_c w R := by
  have hc := calls_of_block (args := #[.pointer c, .int .i64 flags, .int .i64 seq, .slice data_b data_l data_c]) Tryz.func103 (body := (Tryz.f103.body.getD .skip)) (by kernel_rfl) (by kernel_rfl) (args_slot _) (connm_Conn_mk.B0_sound c flags seq data_b data_l data_c w h)
  exact hc.mono fun e w' he => by
    obtain ⟨v, rfl, hv⟩ := he
    exact connm_Conn_mk.RV_elim hv
def connlaw_SameSeg.B1 (a b : Nat) (t44 : Bool) (w : World)   (R : Bool → World → Prop) : Prop :=
  Bm t44 (
    R false w) (
    LdL ⟨a, 6, none⟩ w fun x46_b x46_l x46_c =>
    LdL ⟨b, 6, none⟩ w fun x48_b x48_l x48_c =>
    api_SameBytes.Call x46_b x46_l x46_c x48_b x48_l x48_c w fun r49 w1 =>
    R r49 w1)
theorem connlaw_SameSeg.B1_eq (a b : Nat) (t44 : Bool) (w : World)   (R : Bool → World → Prop)  :
    (
  Bm t44 (
    R false w) (
    LdL ⟨a, 6, none⟩ w fun x46_b x46_l x46_c =>
    LdL ⟨b, 6, none⟩ w fun x48_b x48_l x48_c =>
    api_SameBytes.Call x46_b x46_l x46_c x48_b x48_l x48_c w fun r49 w1 =>
    R r49 w1)) = kstep Tryz.prog 50 Tryz.f104.results.toList (Tryz.f104.body.getD .skip) (connlaw_SameSeg.RV R) (kvc Tryz.prog 50 Tryz.f104.results.toList (Tryz.f104.body.getD .skip) (connlaw_SameSeg.RV R) [] 2000) [(0, [1, 0, 1]), (0, [1, 1])] [(2, .pointer (some ⟨a, 0, none⟩)), (3, .pointer (some ⟨b, 0, none⟩)), (44, .bool t44)] w := by kernel_rfl
theorem connlaw_SameSeg.B1_sound {R : Bool → World → Prop}  (a b : Nat) (t44 : Bool) (w : World) (h : connlaw_SameSeg.B1 a b t44 w   R) :
    KW Tryz.prog 104 50 (connlaw_SameSeg.RV R) ([(0, [1, 0, 1]), (0, [1, 1])].map (toItem (Tryz.f104.body.getD .skip))) [(2, .pointer (some ⟨a, 0, none⟩)), (3, .pointer (some ⟨b, 0, none⟩)), (44, .bool t44)] w := by
  exact block_spec Tryz.func104 Tryz.mixed stops_nil (Eq.mp (connlaw_SameSeg.B1_eq a b t44 w   R ) h)
def connlaw_SameSeg.B0 (a_0 a_1 a_2 a_3 a_4 a_5 : Int) (a_6_b : Option Addr) (a_6_l a_6_c : Nat) (b_0 b_1 b_2 b_3 b_4 b_5 : Int) (b_6_b : Option Addr) (b_6_l b_6_c : Nat) (w : World)   (R : Bool → World → Prop) : Prop :=
  New (.cells #[.int .i64 a_0, .int .i64 a_1, .int .i64 a_2, .int .i64 a_3, .int .i64 a_4, .int .i64 a_5, .slice a_6_b a_6_l a_6_c] 45) w fun a_ w1 =>
  New (.cells #[.int .i64 b_0, .int .i64 b_1, .int .i64 b_2, .int .i64 b_3, .int .i64 b_4, .int .i64 b_5, .slice b_6_b b_6_l b_6_c] 45) w1 fun b_ w2 =>
  LdI .i64 ⟨a_, 0, none⟩ w2 fun x6 =>
  LdI .i64 ⟨b_, 0, none⟩ w2 fun x8 =>
  Bm (x6 != x8) (
    connlaw_SameSeg.B1 a_ b_ true w2  R) (
    LdI .i64 ⟨a_, 1, none⟩ w2 fun x12 =>
    LdI .i64 ⟨b_, 1, none⟩ w2 fun x14 =>
    Bm (x12 != x14) (
      connlaw_SameSeg.B1 a_ b_ true w2  R) (
      LdI .i64 ⟨a_, 2, none⟩ w2 fun x19 =>
      LdI .i64 ⟨b_, 2, none⟩ w2 fun x21 =>
      Bm (x19 != x21) (
        connlaw_SameSeg.B1 a_ b_ true w2  R) (
        LdI .i64 ⟨a_, 3, none⟩ w2 fun x26 =>
        LdI .i64 ⟨b_, 3, none⟩ w2 fun x28 =>
        Bm (x26 != x28) (
          connlaw_SameSeg.B1 a_ b_ true w2  R) (
          LdI .i64 ⟨a_, 4, none⟩ w2 fun x33 =>
          LdI .i64 ⟨b_, 4, none⟩ w2 fun x35 =>
          Bm (x33 != x35) (
            connlaw_SameSeg.B1 a_ b_ true w2  R) (
            LdI .i64 ⟨a_, 5, none⟩ w2 fun x40 =>
            LdI .i64 ⟨b_, 5, none⟩ w2 fun x42 =>
            connlaw_SameSeg.B1 a_ b_ (x40 != x42) w2  R)))))
theorem connlaw_SameSeg.B0_eq (a_0 a_1 a_2 a_3 a_4 a_5 : Int) (a_6_b : Option Addr) (a_6_l a_6_c : Nat) (b_0 b_1 b_2 b_3 b_4 b_5 : Int) (b_6_b : Option Addr) (b_6_l b_6_c : Nat) (w : World)   (R : Bool → World → Prop) (sB1 : Nat → Nat → Bool → World → Prop) :
    (
  New (.cells #[.int .i64 a_0, .int .i64 a_1, .int .i64 a_2, .int .i64 a_3, .int .i64 a_4, .int .i64 a_5, .slice a_6_b a_6_l a_6_c] 45) w fun a_ w1 =>
  New (.cells #[.int .i64 b_0, .int .i64 b_1, .int .i64 b_2, .int .i64 b_3, .int .i64 b_4, .int .i64 b_5, .slice b_6_b b_6_l b_6_c] 45) w1 fun b_ w2 =>
  LdI .i64 ⟨a_, 0, none⟩ w2 fun x6 =>
  LdI .i64 ⟨b_, 0, none⟩ w2 fun x8 =>
  Bm (x6 != x8) (
    sB1 a_ b_ true w2) (
    LdI .i64 ⟨a_, 1, none⟩ w2 fun x12 =>
    LdI .i64 ⟨b_, 1, none⟩ w2 fun x14 =>
    Bm (x12 != x14) (
      sB1 a_ b_ true w2) (
      LdI .i64 ⟨a_, 2, none⟩ w2 fun x19 =>
      LdI .i64 ⟨b_, 2, none⟩ w2 fun x21 =>
      Bm (x19 != x21) (
        sB1 a_ b_ true w2) (
        LdI .i64 ⟨a_, 3, none⟩ w2 fun x26 =>
        LdI .i64 ⟨b_, 3, none⟩ w2 fun x28 =>
        Bm (x26 != x28) (
          sB1 a_ b_ true w2) (
          LdI .i64 ⟨a_, 4, none⟩ w2 fun x33 =>
          LdI .i64 ⟨b_, 4, none⟩ w2 fun x35 =>
          Bm (x33 != x35) (
            sB1 a_ b_ true w2) (
            LdI .i64 ⟨a_, 5, none⟩ w2 fun x40 =>
            LdI .i64 ⟨b_, 5, none⟩ w2 fun x42 =>
            sB1 a_ b_ (x40 != x42) w2)))))) = kstep Tryz.prog 50 Tryz.f104.results.toList (Tryz.f104.body.getD .skip) (connlaw_SameSeg.RV R) (kvc Tryz.prog 50 Tryz.f104.results.toList (Tryz.f104.body.getD .skip) (connlaw_SameSeg.RV R) [([(0, [1, 0, 1]), (0, [1, 1])], fun σ w => dK (slotOf σ 2) fun a_ => dK (slotOf σ 3) fun b_ => dB (slotOf σ 44) fun t44_ => sB1 a_ b_ t44_ w)] 2000) [(0, [])] [(0, .agg #[.int .i64 a_0, .int .i64 a_1, .int .i64 a_2, .int .i64 a_3, .int .i64 a_4, .int .i64 a_5, .slice a_6_b a_6_l a_6_c]), (1, .agg #[.int .i64 b_0, .int .i64 b_1, .int .i64 b_2, .int .i64 b_3, .int .i64 b_4, .int .i64 b_5, .slice b_6_b b_6_l b_6_c])] w := by kernel_rfl
theorem connlaw_SameSeg.B0_sound {R : Bool → World → Prop}  (a_0 a_1 a_2 a_3 a_4 a_5 : Int) (a_6_b : Option Addr) (a_6_l a_6_c : Nat) (b_0 b_1 b_2 b_3 b_4 b_5 : Int) (b_6_b : Option Addr) (b_6_l b_6_c : Nat) (w : World) (h : connlaw_SameSeg.B0 a_0 a_1 a_2 a_3 a_4 a_5 a_6_b a_6_l a_6_c b_0 b_1 b_2 b_3 b_4 b_5 b_6_b b_6_l b_6_c w   R) :
    KW Tryz.prog 104 50 (connlaw_SameSeg.RV R) ([(0, [])].map (toItem (Tryz.f104.body.getD .skip))) [(0, .agg #[.int .i64 a_0, .int .i64 a_1, .int .i64 a_2, .int .i64 a_3, .int .i64 a_4, .int .i64 a_5, .slice a_6_b a_6_l a_6_c]), (1, .agg #[.int .i64 b_0, .int .i64 b_1, .int .i64 b_2, .int .i64 b_3, .int .i64 b_4, .int .i64 b_5, .slice b_6_b b_6_l b_6_c])] w := by
  exact block_spec Tryz.func104 Tryz.mixed (stops_cons (fun σ w h => by
      obtain ⟨a_, e0, h⟩ := dK_elim h
      obtain ⟨b_, e1, h⟩ := dK_elim h
      obtain ⟨t44_, e2, h⟩ := dB_elim h
      exact (connlaw_SameSeg.B1_sound  a_ b_ t44_ w h).weaken (Sub.cons (Sub.cons (Sub.cons (Sub.nil _) e2) e1) e0)) stops_nil) (Eq.mp (connlaw_SameSeg.B0_eq a_0 a_1 a_2 a_3 a_4 a_5 a_6_b a_6_l a_6_c b_0 b_1 b_2 b_3 b_4 b_5 b_6_b b_6_l b_6_c w   R (fun a_ b_ t44_ w => connlaw_SameSeg.B1 a_ b_ t44_ w  R)) h)
theorem connlaw_SameSeg.sound (a_0 a_1 a_2 a_3 a_4 a_5 : Int) (a_6_b : Option Addr) (a_6_l a_6_c : Nat) (b_0 b_1 b_2 b_3 b_4 b_5 : Int) (b_6_b : Option Addr) (b_6_l b_6_c : Nat) (w : World) (R : Bool → World → Prop) (h : connlaw_SameSeg.B0 a_0 a_1 a_2 a_3 a_4 a_5 a_6_b a_6_l a_6_c b_0 b_1 b_2 b_3 b_4 b_5 b_6_b b_6_l b_6_c w R) : connlaw_SameSeg.Call a_0 a_1 a_2 a_3 a_4 a_5 a_6_b a_6_l a_6_c b_0 b_1 b_2 b_3 b_4 b_5 b_6_b b_6_l b_6_c w R := by
  have hc := calls_of_block (args := #[.agg #[.int .i64 a_0, .int .i64 a_1, .int .i64 a_2, .int .i64 a_3, .int .i64 a_4, .int .i64 a_5, .slice a_6_b a_6_l a_6_c], .agg #[.int .i64 b_0, .int .i64 b_1, .int .i64 b_2, .int .i64 b_3, .int .i64 b_4, .int .i64 b_5, .slice b_6_b b_6_l b_6_c]]) Tryz.func104 (body := (Tryz.f104.body.getD .skip)) (by kernel_rfl) (by kernel_rfl) (args_slot _) (connlaw_SameSeg.B0_sound a_0 a_1 a_2 a_3 a_4 a_5 a_6_b a_6_l a_6_c b_0 b_1 b_2 b_3 b_4 b_5 b_6_b b_6_l b_6_c w h)
  exact hc.mono fun e w' he => by
    obtain ⟨v, rfl, hv⟩ := he
    exact connlaw_SameSeg.RV_elim hv
def seg_RecvBuf_Reset.B0 (b : Option Addr) (seq : Int) (w : World)   (R : World → Prop) : Prop :=
  api_SeqAdd.Call seq (0 : Int) w fun r6 w1 =>
  Pn b fun a =>
  Sts [.int .u8 (IntKind.u8.wrap r6)] (a.add 16) 0 w1 fun w2 =>
  Pn b fun a_1 =>
  Sts [.int .i64 (0 : Int)] (a_1.add 17) 0 w2 fun w3 =>
  Pn b fun a_2 =>
  Sts [.int .u16 (0 : Int)] (a_2.add 18) 0 w3 fun w4 =>
  R  w4
theorem seg_RecvBuf_Reset.B0_eq (b : Option Addr) (seq : Int) (w : World)   (R : World → Prop)  :
    (
  api_SeqAdd.Call seq (0 : Int) w fun r6 w1 =>
  Pn b fun a =>
  Sts [.int .u8 (IntKind.u8.wrap r6)] (a.add 16) 0 w1 fun w2 =>
  Pn b fun a_1 =>
  Sts [.int .i64 (0 : Int)] (a_1.add 17) 0 w2 fun w3 =>
  Pn b fun a_2 =>
  Sts [.int .u16 (0 : Int)] (a_2.add 18) 0 w3 fun w4 =>
  R  w4) = kstep Tryz.prog 18 Tryz.f105.results.toList (Tryz.f105.body.getD .skip) (seg_RecvBuf_Reset.RV R) (kvc Tryz.prog 18 Tryz.f105.results.toList (Tryz.f105.body.getD .skip) (seg_RecvBuf_Reset.RV R) [] 2000) [(0, [])] [(0, .pointer b), (1, .int .i64 seq)] w := by kernel_rfl
theorem seg_RecvBuf_Reset.B0_sound {R : World → Prop}  (b : Option Addr) (seq : Int) (w : World) (h : seg_RecvBuf_Reset.B0 b seq w   R) :
    KW Tryz.prog 105 18 (seg_RecvBuf_Reset.RV R) ([(0, [])].map (toItem (Tryz.f105.body.getD .skip))) [(0, .pointer b), (1, .int .i64 seq)] w := by
  exact block_spec Tryz.func105 Tryz.mixed stops_nil (Eq.mp (seg_RecvBuf_Reset.B0_eq b seq w   R ) h)
theorem seg_RecvBuf_Reset.sound (b : Option Addr) (seq : Int) (w : World) (R : World → Prop) (h : seg_RecvBuf_Reset.B0 b seq w R) : seg_RecvBuf_Reset.Call b seq w R := by
  have hc := calls_of_block (args := #[.pointer b, .int .i64 seq]) Tryz.func105 (body := (Tryz.f105.body.getD .skip)) (by kernel_rfl) (by kernel_rfl) (args_slot _) (seg_RecvBuf_Reset.B0_sound b seq w h)
  exact hc.mono fun e w' he => by
    obtain ⟨v, rfl, hv⟩ := he
    exact seg_RecvBuf_Reset.RV_elim hv
def conn_window.B0 (w0 : Int) (w : World)   (R : Int → World → Prop) : Prop :=
  Bm (decide (w0 < (0 : Int))) (
    R (0 : Int) w) (
    Bm (decide (w0 > (255 : Int))) (
      R (255 : Int) w) (
      R w0 w))
theorem conn_window.B0_eq (w0 : Int) (w : World)   (R : Int → World → Prop)  :
    (
  Bm (decide (w0 < (0 : Int))) (
    R (0 : Int) w) (
    Bm (decide (w0 > (255 : Int))) (
      R (255 : Int) w) (
      R w0 w))) = kstep Tryz.prog 8 Tryz.f106.results.toList (Tryz.f106.body.getD .skip) (conn_window.RV R) (kvc Tryz.prog 8 Tryz.f106.results.toList (Tryz.f106.body.getD .skip) (conn_window.RV R) [] 2000) [(0, [])] [(0, .int .i64 w0)] w := by kernel_rfl
theorem conn_window.B0_sound {R : Int → World → Prop}  (w0 : Int) (w : World) (h : conn_window.B0 w0 w   R) :
    KW Tryz.prog 106 8 (conn_window.RV R) ([(0, [])].map (toItem (Tryz.f106.body.getD .skip))) [(0, .int .i64 w0)] w := by
  exact block_spec Tryz.func106 Tryz.mixed stops_nil (Eq.mp (conn_window.B0_eq w0 w   R ) h)
theorem conn_window.sound (w0 : Int) (w : World) (R : Int → World → Prop) (h : conn_window.B0 w0 w R) : conn_window.Call w0 w R := by
  have hc := calls_of_block (args := #[.int .i64 w0]) Tryz.func106 (body := (Tryz.f106.body.getD .skip)) (by kernel_rfl) (by kernel_rfl) (args_slot _) (conn_window.B0_sound w0 w h)
  exact hc.mono fun e w' he => by
    obtain ⟨v, rfl, hv⟩ := he
    exact conn_window.RV_elim hv
def seg_SendBuf_Next.B0 (b : Option Addr) (max : Int) (w : World)   (R : Int → Option Addr → Nat → Nat → World → Prop) : Prop :=
  Pn b fun a =>
  LdI .i64 (a.add 17) w.drew fun x13 =>
  Pn b fun a_1 =>
  LdI .i64 (a_1.add 18) w.drew fun x17 =>
  seg_least.Call max (IntKind.i64.wrap (x13 - x17)) w.drew fun r19 w1 =>
  seg_SendBuf_Nxt.Call b w1 fun r21 w2 =>
  Pn b fun a_2 =>
  LdI .i64 (a_2.add 18) w2 fun x26 =>
  seg_SendBuf_span.Call b x26 r19 w2 fun r28_b r28_l r28_c w3 =>
  Pn b fun a_3 =>
  LdI .i64 (a_3.add 18) w3 fun x32 =>
  Pn b fun a_4 =>
  Sts [.int .i64 (IntKind.i64.wrap (x32 + r19))] (a_4.add 18) 0 w3 fun w4 =>
  R r21 r28_b r28_l r28_c w4
theorem seg_SendBuf_Next.B0_eq (b : Option Addr) (max : Int) (w : World)   (R : Int → Option Addr → Nat → Nat → World → Prop)  :
    (
  Pn b fun a =>
  LdI .i64 (a.add 17) w.drew fun x13 =>
  Pn b fun a_1 =>
  LdI .i64 (a_1.add 18) w.drew fun x17 =>
  seg_least.Call max (IntKind.i64.wrap (x13 - x17)) w.drew fun r19 w1 =>
  seg_SendBuf_Nxt.Call b w1 fun r21 w2 =>
  Pn b fun a_2 =>
  LdI .i64 (a_2.add 18) w2 fun x26 =>
  seg_SendBuf_span.Call b x26 r19 w2 fun r28_b r28_l r28_c w3 =>
  Pn b fun a_3 =>
  LdI .i64 (a_3.add 18) w3 fun x32 =>
  Pn b fun a_4 =>
  Sts [.int .i64 (IntKind.i64.wrap (x32 + r19))] (a_4.add 18) 0 w3 fun w4 =>
  R r21 r28_b r28_l r28_c w4) = kstep Tryz.prog 39 Tryz.f107.results.toList (Tryz.f107.body.getD .skip) (seg_SendBuf_Next.RV R) (kvc Tryz.prog 39 Tryz.f107.results.toList (Tryz.f107.body.getD .skip) (seg_SendBuf_Next.RV R) [] 2000) [(0, [])] [(0, .pointer b), (1, .int .i64 max)] w := by kernel_rfl
theorem seg_SendBuf_Next.B0_sound {R : Int → Option Addr → Nat → Nat → World → Prop}  (b : Option Addr) (max : Int) (w : World) (h : seg_SendBuf_Next.B0 b max w   R) :
    KW Tryz.prog 107 39 (seg_SendBuf_Next.RV R) ([(0, [])].map (toItem (Tryz.f107.body.getD .skip))) [(0, .pointer b), (1, .int .i64 max)] w := by
  exact block_spec Tryz.func107 Tryz.mixed stops_nil (Eq.mp (seg_SendBuf_Next.B0_eq b max w   R ) h)
theorem seg_SendBuf_Next.sound (b : Option Addr) (max : Int) (w : World) (R : Int → Option Addr → Nat → Nat → World → Prop) (h : seg_SendBuf_Next.B0 b max w R) : seg_SendBuf_Next.Call b max w R := by
  have hc := calls_of_block (args := #[.pointer b, .int .i64 max]) Tryz.func107 (body := (Tryz.f107.body.getD .skip)) (by kernel_rfl) (by kernel_rfl) (args_slot _) (seg_SendBuf_Next.B0_sound b max w h)
  exact hc.mono fun e w' he => by
    obtain ⟨v, rfl, hv⟩ := he
    exact seg_SendBuf_Next.RV_elim hv
def seg_SendBuf_Nxt.B0 (b : Option Addr) (w : World)   (R : Int → World → Prop) : Prop :=
  Pn b fun a =>
  LdI .u8 (a.add 19) w.drew fun x6 =>
  Pn b fun a_1 =>
  LdI .i64 (a_1.add 18) w.drew fun x10 =>
  R (IntKind.i64.wrap (IntKind.u8.wrap (x6 + (IntKind.u8.wrap x10)))) w.drew
theorem seg_SendBuf_Nxt.B0_eq (b : Option Addr) (w : World)   (R : Int → World → Prop)  :
    (
  Pn b fun a =>
  LdI .u8 (a.add 19) w.drew fun x6 =>
  Pn b fun a_1 =>
  LdI .i64 (a_1.add 18) w.drew fun x10 =>
  R (IntKind.i64.wrap (IntKind.u8.wrap (x6 + (IntKind.u8.wrap x10)))) w.drew) = kstep Tryz.prog 14 Tryz.f108.results.toList (Tryz.f108.body.getD .skip) (seg_SendBuf_Nxt.RV R) (kvc Tryz.prog 14 Tryz.f108.results.toList (Tryz.f108.body.getD .skip) (seg_SendBuf_Nxt.RV R) [] 2000) [(0, [])] [(0, .pointer b)] w := by kernel_rfl
theorem seg_SendBuf_Nxt.B0_sound {R : Int → World → Prop}  (b : Option Addr) (w : World) (h : seg_SendBuf_Nxt.B0 b w   R) :
    KW Tryz.prog 108 14 (seg_SendBuf_Nxt.RV R) ([(0, [])].map (toItem (Tryz.f108.body.getD .skip))) [(0, .pointer b)] w := by
  exact block_spec Tryz.func108 Tryz.mixed stops_nil (Eq.mp (seg_SendBuf_Nxt.B0_eq b w   R ) h)
theorem seg_SendBuf_Nxt.sound (b : Option Addr) (w : World) (R : Int → World → Prop) (h : seg_SendBuf_Nxt.B0 b w R) : seg_SendBuf_Nxt.Call b w R := by
  have hc := calls_of_block (args := #[.pointer b]) Tryz.func108 (body := (Tryz.f108.body.getD .skip)) (by kernel_rfl) (by kernel_rfl) (args_slot _) (seg_SendBuf_Nxt.B0_sound b w h)
  exact hc.mono fun e w' he => by
    obtain ⟨v, rfl, hv⟩ := he
    exact seg_SendBuf_Nxt.RV_elim hv
def seg_least.B1 (max : Int) (w : World)   (R : Int → World → Prop) : Prop :=
  Bm (decide (max < (0 : Int))) (
    R (0 : Int) w) (
    R max w)
theorem seg_least.B1_eq (max : Int) (w : World)   (R : Int → World → Prop)  :
    (
  Bm (decide (max < (0 : Int))) (
    R (0 : Int) w) (
    R max w)) = kstep Tryz.prog 12 Tryz.f109.results.toList (Tryz.f109.body.getD .skip) (seg_least.RV R) (kvc Tryz.prog 12 Tryz.f109.results.toList (Tryz.f109.body.getD .skip) (seg_least.RV R) [] 2000) [(0, [1, 1])] [(0, .int .i64 max)] w := by kernel_rfl
theorem seg_least.B1_sound {R : Int → World → Prop}  (max : Int) (w : World) (h : seg_least.B1 max w   R) :
    KW Tryz.prog 109 12 (seg_least.RV R) ([(0, [1, 1])].map (toItem (Tryz.f109.body.getD .skip))) [(0, .int .i64 max)] w := by
  exact block_spec Tryz.func109 Tryz.mixed stops_nil (Eq.mp (seg_least.B1_eq max w   R ) h)
def seg_least.B0 (max have0 : Int) (w : World)   (R : Int → World → Prop) : Prop :=
  Bm (decide (max > have0)) (
    seg_least.B1 have0 w  R) (
    seg_least.B1 max w  R)
theorem seg_least.B0_eq (max have0 : Int) (w : World)   (R : Int → World → Prop) (sB1 : Int → World → Prop) :
    (
  Bm (decide (max > have0)) (
    sB1 have0 w) (
    sB1 max w)) = kstep Tryz.prog 12 Tryz.f109.results.toList (Tryz.f109.body.getD .skip) (seg_least.RV R) (kvc Tryz.prog 12 Tryz.f109.results.toList (Tryz.f109.body.getD .skip) (seg_least.RV R) [([(0, [1, 1])], fun σ w => dI .i64 (slotOf σ 0) fun max_ => sB1 max_ w)] 2000) [(0, [])] [(0, .int .i64 max), (1, .int .i64 have0)] w := by kernel_rfl
theorem seg_least.B0_sound {R : Int → World → Prop}  (max have0 : Int) (w : World) (h : seg_least.B0 max have0 w   R) :
    KW Tryz.prog 109 12 (seg_least.RV R) ([(0, [])].map (toItem (Tryz.f109.body.getD .skip))) [(0, .int .i64 max), (1, .int .i64 have0)] w := by
  exact block_spec Tryz.func109 Tryz.mixed (stops_cons (fun σ w h => by
      obtain ⟨max_, e0, h⟩ := dI_elim h
      exact (seg_least.B1_sound  max_ w h).weaken (Sub.cons (Sub.nil _) e0)) stops_nil) (Eq.mp (seg_least.B0_eq max have0 w   R (fun max_ w => seg_least.B1 max_ w  R)) h)
theorem seg_least.sound (max have0 : Int) (w : World) (R : Int → World → Prop) (h : seg_least.B0 max have0 w R) : seg_least.Call max have0 w R := by
  have hc := calls_of_block (args := #[.int .i64 max, .int .i64 have0]) Tryz.func109 (body := (Tryz.f109.body.getD .skip)) (by kernel_rfl) (by kernel_rfl) (args_slot _) (seg_least.B0_sound max have0 w h)
  exact hc.mono fun e w' he => by
    obtain ⟨v, rfl, hv⟩ := he
    exact seg_least.RV_elim hv
def conn_Conn_opened.B0 (c : Option Addr) (w : World)   (R : World → Prop) : Prop :=
  Pn c fun a =>
  LdI .i64 (a.add 8) w fun x6 =>
  api_SeqAdd.Call x6 (1 : Int) w fun r7 w1 =>
  Pn c fun a_1 =>
  LdP a_1 w1 fun x11 =>
  seg_SendBuf_Reset.Call x11 r7 w1 fun w2 =>
  Pn c fun a_2 =>
  Sts [.int .i64 (3 : Int)] (a_2.add 2) 0 w2 fun w3 =>
  Pn c fun a_3 =>
  Sts [.int .i64 (0 : Int)] (a_3.add 10) 0 w3 fun w4 =>
  Pn c fun a_4 =>
  Sts [.int .i64 (0 : Int)] (a_4.add 11) 0 w4 fun w5 =>
  R  w5
theorem conn_Conn_opened.B0_eq (c : Option Addr) (w : World)   (R : World → Prop)  :
    (
  Pn c fun a =>
  LdI .i64 (a.add 8) w fun x6 =>
  api_SeqAdd.Call x6 (1 : Int) w fun r7 w1 =>
  Pn c fun a_1 =>
  LdP a_1 w1 fun x11 =>
  seg_SendBuf_Reset.Call x11 r7 w1 fun w2 =>
  Pn c fun a_2 =>
  Sts [.int .i64 (3 : Int)] (a_2.add 2) 0 w2 fun w3 =>
  Pn c fun a_3 =>
  Sts [.int .i64 (0 : Int)] (a_3.add 10) 0 w3 fun w4 =>
  Pn c fun a_4 =>
  Sts [.int .i64 (0 : Int)] (a_4.add 11) 0 w4 fun w5 =>
  R  w5) = kstep Tryz.prog 23 Tryz.f110.results.toList (Tryz.f110.body.getD .skip) (conn_Conn_opened.RV R) (kvc Tryz.prog 23 Tryz.f110.results.toList (Tryz.f110.body.getD .skip) (conn_Conn_opened.RV R) [] 2000) [(0, [])] [(0, .pointer c)] w := by kernel_rfl
theorem conn_Conn_opened.B0_sound {R : World → Prop}  (c : Option Addr) (w : World) (h : conn_Conn_opened.B0 c w   R) :
    KW Tryz.prog 110 23 (conn_Conn_opened.RV R) ([(0, [])].map (toItem (Tryz.f110.body.getD .skip))) [(0, .pointer c)] w := by
  exact block_spec Tryz.func110 Tryz.mixed stops_nil (Eq.mp (conn_Conn_opened.B0_eq c w   R ) h)
theorem conn_Conn_opened.sound (c : Option Addr) (w : World) (R : World → Prop) (h : conn_Conn_opened.B0 c w R) : conn_Conn_opened.Call c w R := by
  have hc := calls_of_block (args := #[.pointer c]) Tryz.func110 (body := (Tryz.f110.body.getD .skip)) (by kernel_rfl) (by kernel_rfl) (args_slot _) (conn_Conn_opened.B0_sound c w h)
  exact hc.mono fun e w' he => by
    obtain ⟨v, rfl, hv⟩ := he
    exact conn_Conn_opened.RV_elim hv
def conn_Conn_acked.B1 (c : Option Addr) (k : Int) (w : World)   (R : Bool → World → Prop) : Prop :=
  Pn c fun a =>
  LdP a w fun x45 =>
  seg_SendBuf_Una.Call x45 w fun r46 w1 =>
  api_SeqAdd.Call r46 k w1 fun r49 w2 =>
  Pn c fun a_1 =>
  LdP a_1 w2 fun x53 =>
  seg_SendBuf_Ack.Call x53 r49 w2 fun r55 w3 =>
  Pn c fun a_2 =>
  Sts [.int .i64 (0 : Int)] (a_2.add 10) 0 w3 fun w4 =>
  conn_Conn_flying.Call c w4 fun r60 w5 =>
  Bm (decide (r60 > (0 : Int))) (
    conn_Conn_arm.Call c w5 fun w6 =>
    R true w6) (
    R true w5)
theorem conn_Conn_acked.B1_eq (c : Option Addr) (k : Int) (w : World)   (R : Bool → World → Prop)  :
    (
  Pn c fun a =>
  LdP a w fun x45 =>
  seg_SendBuf_Una.Call x45 w fun r46 w1 =>
  api_SeqAdd.Call r46 k w1 fun r49 w2 =>
  Pn c fun a_1 =>
  LdP a_1 w2 fun x53 =>
  seg_SendBuf_Ack.Call x53 r49 w2 fun r55 w3 =>
  Pn c fun a_2 =>
  Sts [.int .i64 (0 : Int)] (a_2.add 10) 0 w3 fun w4 =>
  conn_Conn_flying.Call c w4 fun r60 w5 =>
  Bm (decide (r60 > (0 : Int))) (
    conn_Conn_arm.Call c w5 fun w6 =>
    R true w6) (
    R true w5)) = kstep Tryz.prog 64 Tryz.f111.results.toList (Tryz.f111.body.getD .skip) (conn_Conn_acked.RV R) (kvc Tryz.prog 64 Tryz.f111.results.toList (Tryz.f111.body.getD .skip) (conn_Conn_acked.RV R) [] 2000) [(0, [1, 1, 1, 1, 1, 1, 1, 1, 1, 1])] [(0, .pointer c), (7, .int .i64 k)] w := by kernel_rfl
theorem conn_Conn_acked.B1_sound {R : Bool → World → Prop}  (c : Option Addr) (k : Int) (w : World) (h : conn_Conn_acked.B1 c k w   R) :
    KW Tryz.prog 111 64 (conn_Conn_acked.RV R) ([(0, [1, 1, 1, 1, 1, 1, 1, 1, 1, 1])].map (toItem (Tryz.f111.body.getD .skip))) [(0, .pointer c), (7, .int .i64 k)] w := by
  exact block_spec Tryz.func111 Tryz.mixed stops_nil (Eq.mp (conn_Conn_acked.B1_eq c k w   R ) h)
def conn_Conn_acked.B0 (c : Option Addr) (s_0 s_1 s_2 s_3 s_4 s_5 : Int) (s_6_b : Option Addr) (s_6_l s_6_c : Nat) (w : World)   (R : Bool → World → Prop) : Prop :=
  New (.cells #[.int .i64 s_0, .int .i64 s_1, .int .i64 s_2, .int .i64 s_3, .int .i64 s_4, .int .i64 s_5, .slice s_6_b s_6_l s_6_c] 45) w fun s_ w1 =>
  conn_Conn_sndUna.Call c w1 fun r11 w2 =>
  LdI .i64 ⟨s_, 3, none⟩ w2 fun x13 =>
  api_SeqDiff.Call x13 r11 w2 fun r15 w3 =>
  conn_Conn_flying.Call c w3 fun r18 w4 =>
  Bm (decide (r15 > r18)) (
    R false w4) (
    Bm (decide (r15 < (0 : Int))) (
      R true w4) (
      LdI .i64 ⟨s_, 5, none⟩ w4 fun x24 =>
      conn_window.Call x24 w4 fun r25 w5 =>
      Pn c fun a =>
      Sts [.int .i64 r25] (a.add 9) 0 w5 fun w6 =>
      Pn c fun a_1 =>
      Sts [.int .i64 (0 : Int)] (a_1.add 11) 0 w6 fun w7 =>
      Bm (r15 == (0 : Int)) (
        R true w7) (
        conn_Conn_sent.Call c w7 fun r34 w8 =>
        Bm (decide (r15 > r34)) (
          Pn c fun a_2 =>
          Sts [.bool true] (a_2.add 6) 0 w8 fun w9 =>
          conn_Conn_acked.B1 c r34 w9  R) (
          conn_Conn_acked.B1 c r15 w8  R))))
theorem conn_Conn_acked.B0_eq (c : Option Addr) (s_0 s_1 s_2 s_3 s_4 s_5 : Int) (s_6_b : Option Addr) (s_6_l s_6_c : Nat) (w : World)   (R : Bool → World → Prop) (sB1 : Option Addr → Int → World → Prop) :
    (
  New (.cells #[.int .i64 s_0, .int .i64 s_1, .int .i64 s_2, .int .i64 s_3, .int .i64 s_4, .int .i64 s_5, .slice s_6_b s_6_l s_6_c] 45) w fun s_ w1 =>
  conn_Conn_sndUna.Call c w1 fun r11 w2 =>
  LdI .i64 ⟨s_, 3, none⟩ w2 fun x13 =>
  api_SeqDiff.Call x13 r11 w2 fun r15 w3 =>
  conn_Conn_flying.Call c w3 fun r18 w4 =>
  Bm (decide (r15 > r18)) (
    R false w4) (
    Bm (decide (r15 < (0 : Int))) (
      R true w4) (
      LdI .i64 ⟨s_, 5, none⟩ w4 fun x24 =>
      conn_window.Call x24 w4 fun r25 w5 =>
      Pn c fun a =>
      Sts [.int .i64 r25] (a.add 9) 0 w5 fun w6 =>
      Pn c fun a_1 =>
      Sts [.int .i64 (0 : Int)] (a_1.add 11) 0 w6 fun w7 =>
      Bm (r15 == (0 : Int)) (
        R true w7) (
        conn_Conn_sent.Call c w7 fun r34 w8 =>
        Bm (decide (r15 > r34)) (
          Pn c fun a_2 =>
          Sts [.bool true] (a_2.add 6) 0 w8 fun w9 =>
          sB1 c r34 w9) (
          sB1 c r15 w8))))) = kstep Tryz.prog 64 Tryz.f111.results.toList (Tryz.f111.body.getD .skip) (conn_Conn_acked.RV R) (kvc Tryz.prog 64 Tryz.f111.results.toList (Tryz.f111.body.getD .skip) (conn_Conn_acked.RV R) [([(0, [1, 1, 1, 1, 1, 1, 1, 1, 1, 1])], fun σ w => dP (slotOf σ 0) fun c_ => dI .i64 (slotOf σ 7) fun k_ => sB1 c_ k_ w)] 2000) [(0, [])] [(0, .pointer c), (1, .agg #[.int .i64 s_0, .int .i64 s_1, .int .i64 s_2, .int .i64 s_3, .int .i64 s_4, .int .i64 s_5, .slice s_6_b s_6_l s_6_c])] w := by kernel_rfl
theorem conn_Conn_acked.B0_sound {R : Bool → World → Prop}  (c : Option Addr) (s_0 s_1 s_2 s_3 s_4 s_5 : Int) (s_6_b : Option Addr) (s_6_l s_6_c : Nat) (w : World) (h : conn_Conn_acked.B0 c s_0 s_1 s_2 s_3 s_4 s_5 s_6_b s_6_l s_6_c w   R) :
    KW Tryz.prog 111 64 (conn_Conn_acked.RV R) ([(0, [])].map (toItem (Tryz.f111.body.getD .skip))) [(0, .pointer c), (1, .agg #[.int .i64 s_0, .int .i64 s_1, .int .i64 s_2, .int .i64 s_3, .int .i64 s_4, .int .i64 s_5, .slice s_6_b s_6_l s_6_c])] w := by
  exact block_spec Tryz.func111 Tryz.mixed (stops_cons (fun σ w h => by
      obtain ⟨c_, e0, h⟩ := dP_elim h
      obtain ⟨k_, e1, h⟩ := dI_elim h
      exact (conn_Conn_acked.B1_sound  c_ k_ w h).weaken (Sub.cons (Sub.cons (Sub.nil _) e1) e0)) stops_nil) (Eq.mp (conn_Conn_acked.B0_eq c s_0 s_1 s_2 s_3 s_4 s_5 s_6_b s_6_l s_6_c w   R (fun c_ k_ w => conn_Conn_acked.B1 c_ k_ w  R)) h)
theorem conn_Conn_acked.sound (c : Option Addr) (s_0 s_1 s_2 s_3 s_4 s_5 : Int) (s_6_b : Option Addr) (s_6_l s_6_c : Nat) (w : World) (R : Bool → World → Prop) (h : conn_Conn_acked.B0 c s_0 s_1 s_2 s_3 s_4 s_5 s_6_b s_6_l s_6_c w R) : conn_Conn_acked.Call c s_0 s_1 s_2 s_3 s_4 s_5 s_6_b s_6_l s_6_c w R := by
  have hc := calls_of_block (args := #[.pointer c, .agg #[.int .i64 s_0, .int .i64 s_1, .int .i64 s_2, .int .i64 s_3, .int .i64 s_4, .int .i64 s_5, .slice s_6_b s_6_l s_6_c]]) Tryz.func111 (body := (Tryz.f111.body.getD .skip)) (by kernel_rfl) (by kernel_rfl) (args_slot _) (conn_Conn_acked.B0_sound c s_0 s_1 s_2 s_3 s_4 s_5 s_6_b s_6_l s_6_c w h)
  exact hc.mono fun e w' he => by
    obtain ⟨v, rfl, hv⟩ := he
    exact conn_Conn_acked.RV_elim hv
def conn_Conn_take.B1 (c : Option Addr) (s : Nat) (t27 : Bool) (w : World)   (R : World → Prop) : Prop :=
  Bm t27 (
    R  w) (
    LdI .i64 ⟨s, 2, none⟩ w fun x29 =>
    LdL ⟨s, 6, none⟩ w fun x31_b x31_l x31_c =>
    api_SeqAdd.Call x29 ((x31_l : Nat) : Int) w fun r33 w1 =>
    Pn c fun a =>
    LdP (a.add 1) w1 fun x38 =>
    seg_RecvBuf_Nxt.Call x38 w1 fun r39 w2 =>
    Bm (r33 == r39) (
      Pn c fun a_1 =>
      Sts [.bool true] (a_1.add 7) 0 w2 fun w3 =>
      R  w3) (
      R  w2))
theorem conn_Conn_take.B1_eq (c : Option Addr) (s : Nat) (t27 : Bool) (w : World)   (R : World → Prop)  :
    (
  Bm t27 (
    R  w) (
    LdI .i64 ⟨s, 2, none⟩ w fun x29 =>
    LdL ⟨s, 6, none⟩ w fun x31_b x31_l x31_c =>
    api_SeqAdd.Call x29 ((x31_l : Nat) : Int) w fun r33 w1 =>
    Pn c fun a =>
    LdP (a.add 1) w1 fun x38 =>
    seg_RecvBuf_Nxt.Call x38 w1 fun r39 w2 =>
    Bm (r33 == r39) (
      Pn c fun a_1 =>
      Sts [.bool true] (a_1.add 7) 0 w2 fun w3 =>
      R  w3) (
      R  w2))) = kstep Tryz.prog 44 Tryz.f112.results.toList (Tryz.f112.body.getD .skip) (conn_Conn_take.RV R) (kvc Tryz.prog 44 Tryz.f112.results.toList (Tryz.f112.body.getD .skip) (conn_Conn_take.RV R) [] 2000) [(0, [1, 1, 1, 0, 1]), (0, [1, 1, 1, 1])] [(0, .pointer c), (3, .pointer (some ⟨s, 0, none⟩)), (27, .bool t27)] w := by kernel_rfl
theorem conn_Conn_take.B1_sound {R : World → Prop}  (c : Option Addr) (s : Nat) (t27 : Bool) (w : World) (h : conn_Conn_take.B1 c s t27 w   R) :
    KW Tryz.prog 112 44 (conn_Conn_take.RV R) ([(0, [1, 1, 1, 0, 1]), (0, [1, 1, 1, 1])].map (toItem (Tryz.f112.body.getD .skip))) [(0, .pointer c), (3, .pointer (some ⟨s, 0, none⟩)), (27, .bool t27)] w := by
  exact block_spec Tryz.func112 Tryz.mixed stops_nil (Eq.mp (conn_Conn_take.B1_eq c s t27 w   R ) h)
def conn_Conn_take.B0 (c : Option Addr) (s_0 s_1 s_2 s_3 s_4 s_5 : Int) (s_6_b : Option Addr) (s_6_l s_6_c : Nat) (w : World)   (R : World → Prop) : Prop :=
  New (.cells #[.int .i64 s_0, .int .i64 s_1, .int .i64 s_2, .int .i64 s_3, .int .i64 s_4, .int .i64 s_5, .slice s_6_b s_6_l s_6_c] 45) w fun s_ w1 =>
  Pn c fun a =>
  LdB (a.add 7) w1 fun x8 =>
  Bm x8 (
    R  w1) (
    Pn c fun a_1 =>
    LdP (a_1.add 1) w1.drew fun x12 =>
    LdI .i64 ⟨s_, 2, none⟩ w1.drew fun x14 =>
    LdL ⟨s_, 6, none⟩ w1.drew fun x16_b x16_l x16_c =>
    seg_RecvBuf_Insert.Call x12 x14 x16_b x16_l x16_c w1.drew fun r17 w2 =>
    LdI .i64 ⟨s_, 4, none⟩ w2 fun x19 =>
    Bm ((IntKind.i64.wrap (BitVec.ofInt IntKind.i64.bits x19 &&& BitVec.ofInt IntKind.i64.bits (4 : Int)).toNat) == (0 : Int)) (
      conn_Conn_take.B1 c s_ true w2  R) (
      LdL ⟨s_, 6, none⟩ w2 fun x24_b x24_l x24_c =>
      conn_Conn_take.B1 c s_ (decide (((x24_l : Nat) : Int) > (16 : Int))) w2  R))
theorem conn_Conn_take.B0_eq (c : Option Addr) (s_0 s_1 s_2 s_3 s_4 s_5 : Int) (s_6_b : Option Addr) (s_6_l s_6_c : Nat) (w : World)   (R : World → Prop) (sB1 : Option Addr → Nat → Bool → World → Prop) :
    (
  New (.cells #[.int .i64 s_0, .int .i64 s_1, .int .i64 s_2, .int .i64 s_3, .int .i64 s_4, .int .i64 s_5, .slice s_6_b s_6_l s_6_c] 45) w fun s_ w1 =>
  Pn c fun a =>
  LdB (a.add 7) w1 fun x8 =>
  Bm x8 (
    R  w1) (
    Pn c fun a_1 =>
    LdP (a_1.add 1) w1.drew fun x12 =>
    LdI .i64 ⟨s_, 2, none⟩ w1.drew fun x14 =>
    LdL ⟨s_, 6, none⟩ w1.drew fun x16_b x16_l x16_c =>
    seg_RecvBuf_Insert.Call x12 x14 x16_b x16_l x16_c w1.drew fun r17 w2 =>
    LdI .i64 ⟨s_, 4, none⟩ w2 fun x19 =>
    Bm ((IntKind.i64.wrap (BitVec.ofInt IntKind.i64.bits x19 &&& BitVec.ofInt IntKind.i64.bits (4 : Int)).toNat) == (0 : Int)) (
      sB1 c s_ true w2) (
      LdL ⟨s_, 6, none⟩ w2 fun x24_b x24_l x24_c =>
      sB1 c s_ (decide (((x24_l : Nat) : Int) > (16 : Int))) w2))) = kstep Tryz.prog 44 Tryz.f112.results.toList (Tryz.f112.body.getD .skip) (conn_Conn_take.RV R) (kvc Tryz.prog 44 Tryz.f112.results.toList (Tryz.f112.body.getD .skip) (conn_Conn_take.RV R) [([(0, [1, 1, 1, 0, 1]), (0, [1, 1, 1, 1])], fun σ w => dP (slotOf σ 0) fun c_ => dK (slotOf σ 3) fun s_ => dB (slotOf σ 27) fun t27_ => sB1 c_ s_ t27_ w)] 2000) [(0, [])] [(0, .pointer c), (1, .agg #[.int .i64 s_0, .int .i64 s_1, .int .i64 s_2, .int .i64 s_3, .int .i64 s_4, .int .i64 s_5, .slice s_6_b s_6_l s_6_c])] w := by kernel_rfl
theorem conn_Conn_take.B0_sound {R : World → Prop}  (c : Option Addr) (s_0 s_1 s_2 s_3 s_4 s_5 : Int) (s_6_b : Option Addr) (s_6_l s_6_c : Nat) (w : World) (h : conn_Conn_take.B0 c s_0 s_1 s_2 s_3 s_4 s_5 s_6_b s_6_l s_6_c w   R) :
    KW Tryz.prog 112 44 (conn_Conn_take.RV R) ([(0, [])].map (toItem (Tryz.f112.body.getD .skip))) [(0, .pointer c), (1, .agg #[.int .i64 s_0, .int .i64 s_1, .int .i64 s_2, .int .i64 s_3, .int .i64 s_4, .int .i64 s_5, .slice s_6_b s_6_l s_6_c])] w := by
  exact block_spec Tryz.func112 Tryz.mixed (stops_cons (fun σ w h => by
      obtain ⟨c_, e0, h⟩ := dP_elim h
      obtain ⟨s_, e1, h⟩ := dK_elim h
      obtain ⟨t27_, e2, h⟩ := dB_elim h
      exact (conn_Conn_take.B1_sound  c_ s_ t27_ w h).weaken (Sub.cons (Sub.cons (Sub.cons (Sub.nil _) e2) e1) e0)) stops_nil) (Eq.mp (conn_Conn_take.B0_eq c s_0 s_1 s_2 s_3 s_4 s_5 s_6_b s_6_l s_6_c w   R (fun c_ s_ t27_ w => conn_Conn_take.B1 c_ s_ t27_ w  R)) h)
theorem conn_Conn_take.sound (c : Option Addr) (s_0 s_1 s_2 s_3 s_4 s_5 : Int) (s_6_b : Option Addr) (s_6_l s_6_c : Nat) (w : World) (R : World → Prop) (h : conn_Conn_take.B0 c s_0 s_1 s_2 s_3 s_4 s_5 s_6_b s_6_l s_6_c w R) : conn_Conn_take.Call c s_0 s_1 s_2 s_3 s_4 s_5 s_6_b s_6_l s_6_c w R := by
  have hc := calls_of_block (args := #[.pointer c, .agg #[.int .i64 s_0, .int .i64 s_1, .int .i64 s_2, .int .i64 s_3, .int .i64 s_4, .int .i64 s_5, .slice s_6_b s_6_l s_6_c]]) Tryz.func112 (body := (Tryz.f112.body.getD .skip)) (by kernel_rfl) (by kernel_rfl) (args_slot _) (conn_Conn_take.B0_sound c s_0 s_1 s_2 s_3 s_4 s_5 s_6_b s_6_l s_6_c w h)
  exact hc.mono fun e w' he => by
    obtain ⟨v, rfl, hv⟩ := he
    exact conn_Conn_take.RV_elim hv
def seg_RecvBuf_Window.B0 (b : Option Addr) (w : World)   (R : Int → World → Prop) : Prop :=
  Pn b fun a =>
  LdI .i64 (a.add 17) w fun x6 =>
  R (IntKind.i64.wrap ((16 : Int) - x6)) w
theorem seg_RecvBuf_Window.B0_eq (b : Option Addr) (w : World)   (R : Int → World → Prop)  :
    (
  Pn b fun a =>
  LdI .i64 (a.add 17) w fun x6 =>
  R (IntKind.i64.wrap ((16 : Int) - x6)) w) = kstep Tryz.prog 8 Tryz.f113.results.toList (Tryz.f113.body.getD .skip) (seg_RecvBuf_Window.RV R) (kvc Tryz.prog 8 Tryz.f113.results.toList (Tryz.f113.body.getD .skip) (seg_RecvBuf_Window.RV R) [] 2000) [(0, [])] [(0, .pointer b)] w := by kernel_rfl
theorem seg_RecvBuf_Window.B0_sound {R : Int → World → Prop}  (b : Option Addr) (w : World) (h : seg_RecvBuf_Window.B0 b w   R) :
    KW Tryz.prog 113 8 (seg_RecvBuf_Window.RV R) ([(0, [])].map (toItem (Tryz.f113.body.getD .skip))) [(0, .pointer b)] w := by
  exact block_spec Tryz.func113 Tryz.mixed stops_nil (Eq.mp (seg_RecvBuf_Window.B0_eq b w   R ) h)
theorem seg_RecvBuf_Window.sound (b : Option Addr) (w : World) (R : Int → World → Prop) (h : seg_RecvBuf_Window.B0 b w R) : seg_RecvBuf_Window.Call b w R := by
  have hc := calls_of_block (args := #[.pointer b]) Tryz.func113 (body := (Tryz.f113.body.getD .skip)) (by kernel_rfl) (by kernel_rfl) (args_slot _) (seg_RecvBuf_Window.B0_sound b w h)
  exact hc.mono fun e w' he => by
    obtain ⟨v, rfl, hv⟩ := he
    exact seg_RecvBuf_Window.RV_elim hv
def seg_SendBuf_Ack.B1 (b : Option Addr) (d : Int) (t22 : Bool) (w : World)   (R : Int → World → Prop) : Prop :=
  Bm t22 (
    R (0 : Int) w) (
    Pn b fun a =>
    LdI .i64 (a.add 16) w fun x27 =>
    (16 : Int) ≠ 0 ∧
    Pn b fun a_1 =>
    Sts [.int .i64 ((IntKind.i64.wrap (x27 + d)).tmod (16 : Int))] (a_1.add 16) 0 w fun w1 =>
    Pn b fun a_2 =>
    LdI .i64 (a_2.add 17) w1 fun x36 =>
    Pn b fun a_3 =>
    Sts [.int .i64 (IntKind.i64.wrap (x36 - d))] (a_3.add 17) 0 w1 fun w2 =>
    Pn b fun a_4 =>
    LdI .i64 (a_4.add 18) w2 fun x44 =>
    Pn b fun a_5 =>
    Sts [.int .i64 (IntKind.i64.wrap (x44 - d))] (a_5.add 18) 0 w2 fun w3 =>
    Pn b fun a_6 =>
    LdI .u8 (a_6.add 19) w3 fun x52 =>
    Pn b fun a_7 =>
    Sts [.int .u8 (IntKind.u8.wrap (x52 + (IntKind.u8.wrap d)))] (a_7.add 19) 0 w3 fun w4 =>
    R d w4)
theorem seg_SendBuf_Ack.B1_eq (b : Option Addr) (d : Int) (t22 : Bool) (w : World)   (R : Int → World → Prop)  :
    (
  Bm t22 (
    R (0 : Int) w) (
    Pn b fun a =>
    LdI .i64 (a.add 16) w fun x27 =>
    (16 : Int) ≠ 0 ∧
    Pn b fun a_1 =>
    Sts [.int .i64 ((IntKind.i64.wrap (x27 + d)).tmod (16 : Int))] (a_1.add 16) 0 w fun w1 =>
    Pn b fun a_2 =>
    LdI .i64 (a_2.add 17) w1 fun x36 =>
    Pn b fun a_3 =>
    Sts [.int .i64 (IntKind.i64.wrap (x36 - d))] (a_3.add 17) 0 w1 fun w2 =>
    Pn b fun a_4 =>
    LdI .i64 (a_4.add 18) w2 fun x44 =>
    Pn b fun a_5 =>
    Sts [.int .i64 (IntKind.i64.wrap (x44 - d))] (a_5.add 18) 0 w2 fun w3 =>
    Pn b fun a_6 =>
    LdI .u8 (a_6.add 19) w3 fun x52 =>
    Pn b fun a_7 =>
    Sts [.int .u8 (IntKind.u8.wrap (x52 + (IntKind.u8.wrap d)))] (a_7.add 19) 0 w3 fun w4 =>
    R d w4)) = kstep Tryz.prog 59 Tryz.f114.results.toList (Tryz.f114.body.getD .skip) (seg_SendBuf_Ack.RV R) (kvc Tryz.prog 59 Tryz.f114.results.toList (Tryz.f114.body.getD .skip) (seg_SendBuf_Ack.RV R) [] 2000) [(0, [1, 1, 0, 1]), (0, [1, 1, 1])] [(0, .pointer b), (5, .int .i64 d), (22, .bool t22)] w := by kernel_rfl
theorem seg_SendBuf_Ack.B1_sound {R : Int → World → Prop}  (b : Option Addr) (d : Int) (t22 : Bool) (w : World) (h : seg_SendBuf_Ack.B1 b d t22 w   R) :
    KW Tryz.prog 114 59 (seg_SendBuf_Ack.RV R) ([(0, [1, 1, 0, 1]), (0, [1, 1, 1])].map (toItem (Tryz.f114.body.getD .skip))) [(0, .pointer b), (5, .int .i64 d), (22, .bool t22)] w := by
  exact block_spec Tryz.func114 Tryz.mixed stops_nil (Eq.mp (seg_SendBuf_Ack.B1_eq b d t22 w   R ) h)
def seg_SendBuf_Ack.B0 (b : Option Addr) (a : Int) (w : World)   (R : Int → World → Prop) : Prop :=
  Pn b fun a_1 =>
  LdI .u8 (a_1.add 19) w fun x10 =>
  api_SeqDiff.Call a (IntKind.i64.wrap x10) w fun r12 w1 =>
  Bm (decide (r12 ≤ (0 : Int))) (
    seg_SendBuf_Ack.B1 b r12 true w1  R) (
    Pn b fun a_2 =>
    LdI .i64 (a_2.add 18) w1 fun x20 =>
    seg_SendBuf_Ack.B1 b r12 (decide (r12 > x20)) w1  R)
theorem seg_SendBuf_Ack.B0_eq (b : Option Addr) (a : Int) (w : World)   (R : Int → World → Prop) (sB1 : Option Addr → Int → Bool → World → Prop) :
    (
  Pn b fun a_1 =>
  LdI .u8 (a_1.add 19) w fun x10 =>
  api_SeqDiff.Call a (IntKind.i64.wrap x10) w fun r12 w1 =>
  Bm (decide (r12 ≤ (0 : Int))) (
    sB1 b r12 true w1) (
    Pn b fun a_2 =>
    LdI .i64 (a_2.add 18) w1 fun x20 =>
    sB1 b r12 (decide (r12 > x20)) w1)) = kstep Tryz.prog 59 Tryz.f114.results.toList (Tryz.f114.body.getD .skip) (seg_SendBuf_Ack.RV R) (kvc Tryz.prog 59 Tryz.f114.results.toList (Tryz.f114.body.getD .skip) (seg_SendBuf_Ack.RV R) [([(0, [1, 1, 0, 1]), (0, [1, 1, 1])], fun σ w => dP (slotOf σ 0) fun b_ => dI .i64 (slotOf σ 5) fun d_ => dB (slotOf σ 22) fun t22_ => sB1 b_ d_ t22_ w)] 2000) [(0, [])] [(0, .pointer b), (1, .int .i64 a)] w := by kernel_rfl
theorem seg_SendBuf_Ack.B0_sound {R : Int → World → Prop}  (b : Option Addr) (a : Int) (w : World) (h : seg_SendBuf_Ack.B0 b a w   R) :
    KW Tryz.prog 114 59 (seg_SendBuf_Ack.RV R) ([(0, [])].map (toItem (Tryz.f114.body.getD .skip))) [(0, .pointer b), (1, .int .i64 a)] w := by
  exact block_spec Tryz.func114 Tryz.mixed (stops_cons (fun σ w h => by
      obtain ⟨b_, e0, h⟩ := dP_elim h
      obtain ⟨d_, e1, h⟩ := dI_elim h
      obtain ⟨t22_, e2, h⟩ := dB_elim h
      exact (seg_SendBuf_Ack.B1_sound  b_ d_ t22_ w h).weaken (Sub.cons (Sub.cons (Sub.cons (Sub.nil _) e2) e1) e0)) stops_nil) (Eq.mp (seg_SendBuf_Ack.B0_eq b a w   R (fun b_ d_ t22_ w => seg_SendBuf_Ack.B1 b_ d_ t22_ w  R)) h)
theorem seg_SendBuf_Ack.sound (b : Option Addr) (a : Int) (w : World) (R : Int → World → Prop) (h : seg_SendBuf_Ack.B0 b a w R) : seg_SendBuf_Ack.Call b a w R := by
  have hc := calls_of_block (args := #[.pointer b, .int .i64 a]) Tryz.func114 (body := (Tryz.f114.body.getD .skip)) (by kernel_rfl) (by kernel_rfl) (args_slot _) (seg_SendBuf_Ack.B0_sound b a w h)
  exact hc.mono fun e w' he => by
    obtain ⟨v, rfl, hv⟩ := he
    exact seg_SendBuf_Ack.RV_elim hv
end Go.Proofs.Qxb6500422aGreat
