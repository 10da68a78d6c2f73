import Derived.Test.Qxb6500422aGreatSig
set_option maxRecDepth 100000
set_option linter.unusedVariables false
open Go.Vc
namespace Go.Proofs.Qxb6500422aGreat
def conn_Conn_pump.B5 (c out_b : Option Addr) (out_l out_c : Nat) (t95 : Bool) (w : World)   (R : Option Addr → Nat → Nat → World → Prop) : Prop :=
  Bm t95 (
    Pn c fun a =>
    LdP a w fun x99 =>
    seg_SendBuf_Unsent.Call x99 w fun r100 w1 =>
    Bm (r100 == (0 : Int)) (
      Pn c fun a_1 =>
      LdP a_1 w1 fun x105 =>
      seg_SendBuf_Nxt.Call x105 w1 fun r106 w2 =>
      conn_Conn_mk.Call c (6 : Int) r106 none 0 0 w2 fun r109_0 r109_1 r109_2 r109_3 r109_4 r109_5 r109_6_b r109_6_l r109_6_c w3 =>
      New (.cells #[.int .i64 (0 : Int), .int .i64 (0 : Int), .int .i64 (0 : Int), .int .i64 (0 : Int), .int .i64 (0 : Int), .int .i64 (0 : Int), .slice none 0 0] 45) w3 fun s_ w4 =>
      Sts [.int .i64 r109_0, .int .i64 r109_1, .int .i64 r109_2, .int .i64 r109_3, .int .i64 r109_4, .int .i64 r109_5, .slice r109_6_b r109_6_l r109_6_c] ⟨s_, 0, none⟩ 0 w4 fun w5 =>
      LdI .i64 ⟨s_, 0, none⟩ w5 fun x111_0 =>
      LdI .i64 ⟨s_, 1, none⟩ w5 fun x111_1 =>
      LdI .i64 ⟨s_, 2, none⟩ w5 fun x111_2 =>
      LdI .i64 ⟨s_, 3, none⟩ w5 fun x111_3 =>
      LdI .i64 ⟨s_, 4, none⟩ w5 fun x111_4 =>
      LdI .i64 ⟨s_, 5, none⟩ w5 fun x111_5 =>
      LdL ⟨s_, 6, none⟩ w5 fun x111_6_b x111_6_l x111_6_c =>
      New (.cells #[.int .i64 x111_0, .int .i64 x111_1, .int .i64 x111_2, .int .i64 x111_3, .int .i64 x111_4, .int .i64 x111_5, .slice x111_6_b x111_6_l x111_6_c] 45) w5 fun b112 w6 =>
      Append 45 (.agg #[.int .i64 (0 : Int), .int .i64 (0 : Int), .int .i64 (0 : Int), .int .i64 (0 : Int), .int .i64 (0 : Int), .int .i64 (0 : Int), .slice none 0 0]) 7 72 out_b out_l out_c (some ⟨b112, 0, none⟩) 1 w6 fun b113 c113 w7 =>
      Pn c fun a_2 =>
      Sts [.bool true] (a_2.add 5) 0 w7 fun w8 =>
      Pn c fun a_3 =>
      LdI .i64 (a_3.add 12) w8 fun x120 =>
      Pn c fun a_4 =>
      Sts [.int .i64 (IntKind.i64.wrap (x120 - (1 : Int)))] (a_4.add 12) 0 w8 fun w9 =>
      conn_Conn_arm.Call c w9 fun w10 =>
      R b113 (out_l + 1) c113 w10) (
      R out_b out_l out_c w1)) (
    R out_b out_l out_c w)
theorem conn_Conn_pump.B5_eq (c out_b : Option Addr) (out_l out_c : Nat) (t95 : Bool) (w : World)   (R : Option Addr → Nat → Nat → World → Prop)  :
    (
  Bm t95 (
    Pn c fun a =>
    LdP a w fun x99 =>
    seg_SendBuf_Unsent.Call x99 w fun r100 w1 =>
    Bm (r100 == (0 : Int)) (
      Pn c fun a_1 =>
      LdP a_1 w1 fun x105 =>
      seg_SendBuf_Nxt.Call x105 w1 fun r106 w2 =>
      conn_Conn_mk.Call c (6 : Int) r106 none 0 0 w2 fun r109_0 r109_1 r109_2 r109_3 r109_4 r109_5 r109_6_b r109_6_l r109_6_c w3 =>
      New (.cells #[.int .i64 (0 : Int), .int .i64 (0 : Int), .int .i64 (0 : Int), .int .i64 (0 : Int), .int .i64 (0 : Int), .int .i64 (0 : Int), .slice none 0 0] 45) w3 fun s_ w4 =>
      Sts [.int .i64 r109_0, .int .i64 r109_1, .int .i64 r109_2, .int .i64 r109_3, .int .i64 r109_4, .int .i64 r109_5, .slice r109_6_b r109_6_l r109_6_c] ⟨s_, 0, none⟩ 0 w4 fun w5 =>
      LdI .i64 ⟨s_, 0, none⟩ w5 fun x111_0 =>
      LdI .i64 ⟨s_, 1, none⟩ w5 fun x111_1 =>
      LdI .i64 ⟨s_, 2, none⟩ w5 fun x111_2 =>
      LdI .i64 ⟨s_, 3, none⟩ w5 fun x111_3 =>
      LdI .i64 ⟨s_, 4, none⟩ w5 fun x111_4 =>
      LdI .i64 ⟨s_, 5, none⟩ w5 fun x111_5 =>
      LdL ⟨s_, 6, none⟩ w5 fun x111_6_b x111_6_l x111_6_c =>
      New (.cells #[.int .i64 x111_0, .int .i64 x111_1, .int .i64 x111_2, .int .i64 x111_3, .int .i64 x111_4, .int .i64 x111_5, .slice x111_6_b x111_6_l x111_6_c] 45) w5 fun b112 w6 =>
      Append 45 (.agg #[.int .i64 (0 : Int), .int .i64 (0 : Int), .int .i64 (0 : Int), .int .i64 (0 : Int), .int .i64 (0 : Int), .int .i64 (0 : Int), .slice none 0 0]) 7 72 out_b out_l out_c (some ⟨b112, 0, none⟩) 1 w6 fun b113 c113 w7 =>
      Pn c fun a_2 =>
      Sts [.bool true] (a_2.add 5) 0 w7 fun w8 =>
      Pn c fun a_3 =>
      LdI .i64 (a_3.add 12) w8 fun x120 =>
      Pn c fun a_4 =>
      Sts [.int .i64 (IntKind.i64.wrap (x120 - (1 : Int)))] (a_4.add 12) 0 w8 fun w9 =>
      conn_Conn_arm.Call c w9 fun w10 =>
      R b113 (out_l + 1) c113 w10) (
      R out_b out_l out_c w1)) (
    R out_b out_l out_c w)) = kstep Tryz.prog 127 Tryz.f77.results.toList (Tryz.f77.body.getD .skip) (conn_Conn_pump.RV R) (kvc Tryz.prog 127 Tryz.f77.results.toList (Tryz.f77.body.getD .skip) (conn_Conn_pump.RV R) [] 2000) [(0, [1, 1, 1, 1, 0, 1]), (0, [1, 1, 1, 1, 1])] [(0, .pointer c), (3, .slice out_b out_l out_c), (95, .bool t95)] w := by kernel_rfl
theorem conn_Conn_pump.B5_sound {R : Option Addr → Nat → Nat → World → Prop}  (c out_b : Option Addr) (out_l out_c : Nat) (t95 : Bool) (w : World) (h : conn_Conn_pump.B5 c out_b out_l out_c t95 w   R) :
    KW Tryz.prog 77 127 (conn_Conn_pump.RV R) ([(0, [1, 1, 1, 1, 0, 1]), (0, [1, 1, 1, 1, 1])].map (toItem (Tryz.f77.body.getD .skip))) [(0, .pointer c), (3, .slice out_b out_l out_c), (95, .bool t95)] w := by
  exact block_spec Tryz.func77 Tryz.mixed stops_nil (Eq.mp (conn_Conn_pump.B5_eq c out_b out_l out_c t95 w   R ) h)
def conn_Conn_pump.B4 (c out_b : Option Addr) (out_l out_c : Nat) (n : Int) (w : World) (N1 : Option Addr → Option Addr → Nat → Nat → World → Prop)  (R : Option Addr → Nat → Nat → World → Prop) : Prop :=
  Bm (decide (n ≤ (0 : Int))) (
    Pn c fun a =>
    LdB (a.add 4) w fun x81 =>
    Bm x81 (
      Pn c fun a_1 =>
      LdB (a_1.add 5) w fun x86 =>
      Bm (!x86) (
        Pn c fun a_2 =>
        LdI .i64 (a_2.add 12) w fun x93 =>
        conn_Conn_pump.B5 c out_b out_l out_c (decide (x93 > (0 : Int))) w  R) (
        conn_Conn_pump.B5 c out_b out_l out_c false w  R)) (
      conn_Conn_pump.B5 c out_b out_l out_c false w  R)) (
    Pn c fun a_3 =>
    LdP a_3 w fun x55 =>
    seg_SendBuf_Next.Call x55 n w fun r57_0 r57_1_b r57_1_l r57_1_c w1 =>
    conn_Conn_mk.Call c (2 : Int) r57_0 r57_1_b r57_1_l r57_1_c w1 fun r63_0 r63_1 r63_2 r63_3 r63_4 r63_5 r63_6_b r63_6_l r63_6_c w2 =>
    New (.cells #[.int .i64 (0 : Int), .int .i64 (0 : Int), .int .i64 (0 : Int), .int .i64 (0 : Int), .int .i64 (0 : Int), .int .i64 (0 : Int), .slice none 0 0] 45) w2 fun s_ w3 =>
    Sts [.int .i64 r63_0, .int .i64 r63_1, .int .i64 r63_2, .int .i64 r63_3, .int .i64 r63_4, .int .i64 r63_5, .slice r63_6_b r63_6_l r63_6_c] ⟨s_, 0, none⟩ 0 w3 fun w4 =>
    LdI .i64 ⟨s_, 0, none⟩ w4 fun x65_0 =>
    LdI .i64 ⟨s_, 1, none⟩ w4 fun x65_1 =>
    LdI .i64 ⟨s_, 2, none⟩ w4 fun x65_2 =>
    LdI .i64 ⟨s_, 3, none⟩ w4 fun x65_3 =>
    LdI .i64 ⟨s_, 4, none⟩ w4 fun x65_4 =>
    LdI .i64 ⟨s_, 5, none⟩ w4 fun x65_5 =>
    LdL ⟨s_, 6, none⟩ w4 fun x65_6_b x65_6_l x65_6_c =>
    New (.cells #[.int .i64 x65_0, .int .i64 x65_1, .int .i64 x65_2, .int .i64 x65_3, .int .i64 x65_4, .int .i64 x65_5, .slice x65_6_b x65_6_l x65_6_c] 45) w4 fun b66 w5 =>
    Append 45 (.agg #[.int .i64 (0 : Int), .int .i64 (0 : Int), .int .i64 (0 : Int), .int .i64 (0 : Int), .int .i64 (0 : Int), .int .i64 (0 : Int), .slice none 0 0]) 7 72 out_b out_l out_c (some ⟨b66, 0, none⟩) 1 w5 fun b67 c67 w6 =>
    Pn c fun a_4 =>
    LdI .i64 (a_4.add 12) w6 fun x71 =>
    Pn c fun a_5 =>
    Sts [.int .i64 (IntKind.i64.wrap (x71 - n))] (a_5.add 12) 0 w6 fun w7 =>
    conn_Conn_arm.Call c w7 fun w8 =>
    N1 c b67 (out_l + 1) c67 w8)
theorem conn_Conn_pump.B4_eq (c out_b : Option Addr) (out_l out_c : Nat) (n : Int) (w : World) (N1 : Option Addr → Option Addr → Nat → Nat → World → Prop)  (R : Option Addr → Nat → Nat → World → Prop) (sB5 : Option Addr → Option Addr → Nat → Nat → Bool → World → Prop) :
    (
  Bm (decide (n ≤ (0 : Int))) (
    Pn c fun a =>
    LdB (a.add 4) w fun x81 =>
    Bm x81 (
      Pn c fun a_1 =>
      LdB (a_1.add 5) w fun x86 =>
      Bm (!x86) (
        Pn c fun a_2 =>
        LdI .i64 (a_2.add 12) w fun x93 =>
        sB5 c out_b out_l out_c (decide (x93 > (0 : Int))) w) (
        sB5 c out_b out_l out_c false w)) (
      sB5 c out_b out_l out_c false w)) (
    Pn c fun a_3 =>
    LdP a_3 w fun x55 =>
    seg_SendBuf_Next.Call x55 n w fun r57_0 r57_1_b r57_1_l r57_1_c w1 =>
    conn_Conn_mk.Call c (2 : Int) r57_0 r57_1_b r57_1_l r57_1_c w1 fun r63_0 r63_1 r63_2 r63_3 r63_4 r63_5 r63_6_b r63_6_l r63_6_c w2 =>
    New (.cells #[.int .i64 (0 : Int), .int .i64 (0 : Int), .int .i64 (0 : Int), .int .i64 (0 : Int), .int .i64 (0 : Int), .int .i64 (0 : Int), .slice none 0 0] 45) w2 fun s_ w3 =>
    Sts [.int .i64 r63_0, .int .i64 r63_1, .int .i64 r63_2, .int .i64 r63_3, .int .i64 r63_4, .int .i64 r63_5, .slice r63_6_b r63_6_l r63_6_c] ⟨s_, 0, none⟩ 0 w3 fun w4 =>
    LdI .i64 ⟨s_, 0, none⟩ w4 fun x65_0 =>
    LdI .i64 ⟨s_, 1, none⟩ w4 fun x65_1 =>
    LdI .i64 ⟨s_, 2, none⟩ w4 fun x65_2 =>
    LdI .i64 ⟨s_, 3, none⟩ w4 fun x65_3 =>
    LdI .i64 ⟨s_, 4, none⟩ w4 fun x65_4 =>
    LdI .i64 ⟨s_, 5, none⟩ w4 fun x65_5 =>
    LdL ⟨s_, 6, none⟩ w4 fun x65_6_b x65_6_l x65_6_c =>
    New (.cells #[.int .i64 x65_0, .int .i64 x65_1, .int .i64 x65_2, .int .i64 x65_3, .int .i64 x65_4, .int .i64 x65_5, .slice x65_6_b x65_6_l x65_6_c] 45) w4 fun b66 w5 =>
    Append 45 (.agg #[.int .i64 (0 : Int), .int .i64 (0 : Int), .int .i64 (0 : Int), .int .i64 (0 : Int), .int .i64 (0 : Int), .int .i64 (0 : Int), .slice none 0 0]) 7 72 out_b out_l out_c (some ⟨b66, 0, none⟩) 1 w5 fun b67 c67 w6 =>
    Pn c fun a_4 =>
    LdI .i64 (a_4.add 12) w6 fun x71 =>
    Pn c fun a_5 =>
    Sts [.int .i64 (IntKind.i64.wrap (x71 - n))] (a_5.add 12) 0 w6 fun w7 =>
    conn_Conn_arm.Call c w7 fun w8 =>
    N1 c b67 (out_l + 1) c67 w8)) = kstep Tryz.prog 127 Tryz.f77.results.toList (Tryz.f77.body.getD .skip) (conn_Conn_pump.RV R) (kvc Tryz.prog 127 Tryz.f77.results.toList (Tryz.f77.body.getD .skip) (conn_Conn_pump.RV R) [([(0, [1, 1, 1, 1, 0, 1]), (0, [1, 1, 1, 1, 1])], fun σ w => dP (slotOf σ 0) fun c_ => dL (slotOf σ 3) fun out_b_ out_l_ out_c_ => dB (slotOf σ 95) fun t95_ => sB5 c_ out_b_ out_l_ out_c_ t95_ w),
    ([(0, [1, 1, 1, 0, 0, 0]), (2, [1, 1, 1, 0, 0, 0]), (1, [0]), (0, [1, 1, 1, 1])], fun σ w => dP (slotOf σ 0) fun c_ => dL (slotOf σ 3) fun out_b_ out_l_ out_c_ => N1 c_ out_b_ out_l_ out_c_ w)] 2000) [(0, [1, 1, 1, 0, 0, 0, 0, 1, 1, 1, 1, 1, 1, 1]), (1, [1]), (2, [1, 1, 1, 0, 0, 0]), (1, [0]), (0, [1, 1, 1, 1])] [(0, .pointer c), (3, .slice out_b out_l out_c), (5, .int .i64 n)] w := by kernel_rfl
theorem conn_Conn_pump.B4_sound {R : Option Addr → Nat → Nat → World → Prop} {N1 : Option Addr → Option Addr → Nat → Nat → World → Prop} (hN1 : ∀ c out_b out_l out_c w, N1 c out_b out_l out_c w → KW Tryz.prog 77 127 (conn_Conn_pump.RV R) ([(0, [1, 1, 1, 0, 0, 0]), (2, [1, 1, 1, 0, 0, 0]), (1, [0]), (0, [1, 1, 1, 1])].map (toItem (Tryz.f77.body.getD .skip))) [(0, .pointer c), (3, .slice out_b out_l out_c)] w) (c out_b : Option Addr) (out_l out_c : Nat) (n : Int) (w : World) (h : conn_Conn_pump.B4 c out_b out_l out_c n w N1  R) :
    KW Tryz.prog 77 127 (conn_Conn_pump.RV R) ([(0, [1, 1, 1, 0, 0, 0, 0, 1, 1, 1, 1, 1, 1, 1]), (1, [1]), (2, [1, 1, 1, 0, 0, 0]), (1, [0]), (0, [1, 1, 1, 1])].map (toItem (Tryz.f77.body.getD .skip))) [(0, .pointer c), (3, .slice out_b out_l out_c), (5, .int .i64 n)] w := by
  exact block_spec Tryz.func77 Tryz.mixed (stops_cons (fun σ w h => by
      obtain ⟨c_, e0, h⟩ := dP_elim h
      obtain ⟨out_b_, out_l_, out_c_, e1, h⟩ := dL_elim h
      obtain ⟨t95_, e2, h⟩ := dB_elim h
      exact (conn_Conn_pump.B5_sound  c_ out_b_ out_l_ out_c_ t95_ w h).weaken (Sub.cons (Sub.cons (Sub.cons (Sub.nil _) e2) e1) e0)) (stops_cons (fun σ w h => by
      obtain ⟨c_, e0, h⟩ := dP_elim h
      obtain ⟨out_b_, out_l_, out_c_, e1, h⟩ := dL_elim h
      exact (hN1 c_ out_b_ out_l_ out_c_ w h).weaken (Sub.cons (Sub.cons (Sub.nil _) e1) e0)) stops_nil)) (Eq.mp (conn_Conn_pump.B4_eq c out_b out_l out_c n w N1  R (fun c_ out_b_ out_l_ out_c_ t95_ w => conn_Conn_pump.B5 c_ out_b_ out_l_ out_c_ t95_ w  R)) h)
def conn_Conn_pump.B3 (c out_b : Option Addr) (out_l out_c : Nat) (n : Int) (w : World) (N1 : Option Addr → Option Addr → Nat → Nat → World → Prop)  (R : Option Addr → Nat → Nat → World → Prop) : Prop :=
  Pn c fun a =>
  LdI .i64 (a.add 12) w fun x43 =>
  Bm (decide (n > x43)) (
    Pn c fun a_1 =>
    LdI .i64 (a_1.add 12) w fun x48 =>
    conn_Conn_pump.B4 c out_b out_l out_c x48 w N1 R) (
    conn_Conn_pump.B4 c out_b out_l out_c n w N1 R)
theorem conn_Conn_pump.B3_eq (c out_b : Option Addr) (out_l out_c : Nat) (n : Int) (w : World) (N1 : Option Addr → Option Addr → Nat → Nat → World → Prop)  (R : Option Addr → Nat → Nat → World → Prop) (sB4 : Option Addr → Option Addr → Nat → Nat → Int → World → Prop) :
    (
  Pn c fun a =>
  LdI .i64 (a.add 12) w fun x43 =>
  Bm (decide (n > x43)) (
    Pn c fun a_1 =>
    LdI .i64 (a_1.add 12) w fun x48 =>
    sB4 c out_b out_l out_c x48 w) (
    sB4 c out_b out_l out_c n w)) = kstep Tryz.prog 127 Tryz.f77.results.toList (Tryz.f77.body.getD .skip) (conn_Conn_pump.RV R) (kvc Tryz.prog 127 Tryz.f77.results.toList (Tryz.f77.body.getD .skip) (conn_Conn_pump.RV R) [([(0, [1, 1, 1, 0, 0, 0, 0, 1, 1, 1, 1, 1, 1, 1]), (1, [1]), (2, [1, 1, 1, 0, 0, 0]), (1, [0]), (0, [1, 1, 1, 1])], fun σ w => dP (slotOf σ 0) fun c_ => dL (slotOf σ 3) fun out_b_ out_l_ out_c_ => dI .i64 (slotOf σ 5) fun n_ => sB4 c_ out_b_ out_l_ out_c_ n_ w)] 2000) [(0, [1, 1, 1, 0, 0, 0, 0, 1, 1, 1, 1, 1, 1]), (1, [1]), (2, [1, 1, 1, 0, 0, 0]), (1, [0]), (0, [1, 1, 1, 1])] [(0, .pointer c), (3, .slice out_b out_l out_c), (5, .int .i64 n)] w := by kernel_rfl
theorem conn_Conn_pump.B3_sound {R : Option Addr → Nat → Nat → World → Prop} {N1 : Option Addr → Option Addr → Nat → Nat → World → Prop} (hN1 : ∀ c out_b out_l out_c w, N1 c out_b out_l out_c w → KW Tryz.prog 77 127 (conn_Conn_pump.RV R) ([(0, [1, 1, 1, 0, 0, 0]), (2, [1, 1, 1, 0, 0, 0]), (1, [0]), (0, [1, 1, 1, 1])].map (toItem (Tryz.f77.body.getD .skip))) [(0, .pointer c), (3, .slice out_b out_l out_c)] w) (c out_b : Option Addr) (out_l out_c : Nat) (n : Int) (w : World) (h : conn_Conn_pump.B3 c out_b out_l out_c n w N1  R) :
    KW Tryz.prog 77 127 (conn_Conn_pump.RV R) ([(0, [1, 1, 1, 0, 0, 0, 0, 1, 1, 1, 1, 1, 1]), (1, [1]), (2, [1, 1, 1, 0, 0, 0]), (1, [0]), (0, [1, 1, 1, 1])].map (toItem (Tryz.f77.body.getD .skip))) [(0, .pointer c), (3, .slice out_b out_l out_c), (5, .int .i64 n)] w := by
  exact block_spec Tryz.func77 Tryz.mixed (stops_cons (fun σ w h => by
      obtain ⟨c_, e0, h⟩ := dP_elim h
      obtain ⟨out_b_, out_l_, out_c_, e1, h⟩ := dL_elim h
      obtain ⟨n_, e2, h⟩ := dI_elim h
      exact (conn_Conn_pump.B4_sound hN1 c_ out_b_ out_l_ out_c_ n_ w h).weaken (Sub.cons (Sub.cons (Sub.cons (Sub.nil _) e2) e1) e0)) stops_nil) (Eq.mp (conn_Conn_pump.B3_eq c out_b out_l out_c n w N1  R (fun c_ out_b_ out_l_ out_c_ n_ w => conn_Conn_pump.B4 c_ out_b_ out_l_ out_c_ n_ w N1 R)) h)
def conn_Conn_pump.B2 (c out_b : Option Addr) (out_l out_c : Nat) (n : Int) (w : World) (N1 : Option Addr → Option Addr → Nat → Nat → World → Prop)  (R : Option Addr → Nat → Nat → World → Prop) : Prop :=
  Bm (decide (n > (12 : Int))) (
    conn_Conn_pump.B3 c out_b out_l out_c (12 : Int) w N1 R) (
    conn_Conn_pump.B3 c out_b out_l out_c n w N1 R)
theorem conn_Conn_pump.B2_eq (c out_b : Option Addr) (out_l out_c : Nat) (n : Int) (w : World) (N1 : Option Addr → Option Addr → Nat → Nat → World → Prop)  (R : Option Addr → Nat → Nat → World → Prop) (sB3 : Option Addr → Option Addr → Nat → Nat → Int → World → Prop) :
    (
  Bm (decide (n > (12 : Int))) (
    sB3 c out_b out_l out_c (12 : Int) w) (
    sB3 c out_b out_l out_c n w)) = kstep Tryz.prog 127 Tryz.f77.results.toList (Tryz.f77.body.getD .skip) (conn_Conn_pump.RV R) (kvc Tryz.prog 127 Tryz.f77.results.toList (Tryz.f77.body.getD .skip) (conn_Conn_pump.RV R) [([(0, [1, 1, 1, 0, 0, 0, 0, 1, 1, 1, 1, 1, 1]), (1, [1]), (2, [1, 1, 1, 0, 0, 0]), (1, [0]), (0, [1, 1, 1, 1])], fun σ w => dP (slotOf σ 0) fun c_ => dL (slotOf σ 3) fun out_b_ out_l_ out_c_ => dI .i64 (slotOf σ 5) fun n_ => sB3 c_ out_b_ out_l_ out_c_ n_ w)] 2000) [(0, [1, 1, 1, 0, 0, 0, 0, 1, 1, 1, 1, 1]), (1, [1]), (2, [1, 1, 1, 0, 0, 0]), (1, [0]), (0, [1, 1, 1, 1])] [(0, .pointer c), (3, .slice out_b out_l out_c), (5, .int .i64 n)] w := by kernel_rfl
theorem conn_Conn_pump.B2_sound {R : Option Addr → Nat → Nat → World → Prop} {N1 : Option Addr → Option Addr → Nat → Nat → World → Prop} (hN1 : ∀ c out_b out_l out_c w, N1 c out_b out_l out_c w → KW Tryz.prog 77 127 (conn_Conn_pump.RV R) ([(0, [1, 1, 1, 0, 0, 0]), (2, [1, 1, 1, 0, 0, 0]), (1, [0]), (0, [1, 1, 1, 1])].map (toItem (Tryz.f77.body.getD .skip))) [(0, .pointer c), (3, .slice out_b out_l out_c)] w) (c out_b : Option Addr) (out_l out_c : Nat) (n : Int) (w : World) (h : conn_Conn_pump.B2 c out_b out_l out_c n w N1  R) :
    KW Tryz.prog 77 127 (conn_Conn_pump.RV R) ([(0, [1, 1, 1, 0, 0, 0, 0, 1, 1, 1, 1, 1]), (1, [1]), (2, [1, 1, 1, 0, 0, 0]), (1, [0]), (0, [1, 1, 1, 1])].map (toItem (Tryz.f77.body.getD .skip))) [(0, .pointer c), (3, .slice out_b out_l out_c), (5, .int .i64 n)] w := by
  exact block_spec Tryz.func77 Tryz.mixed (stops_cons (fun σ w h => by
      obtain ⟨c_, e0, h⟩ := dP_elim h
      obtain ⟨out_b_, out_l_, out_c_, e1, h⟩ := dL_elim h
      obtain ⟨n_, e2, h⟩ := dI_elim h
      exact (conn_Conn_pump.B3_sound hN1 c_ out_b_ out_l_ out_c_ n_ w h).weaken (Sub.cons (Sub.cons (Sub.cons (Sub.nil _) e2) e1) e0)) stops_nil) (Eq.mp (conn_Conn_pump.B2_eq c out_b out_l out_c n w N1  R (fun c_ out_b_ out_l_ out_c_ n_ w => conn_Conn_pump.B3 c_ out_b_ out_l_ out_c_ n_ w N1 R)) h)
def conn_Conn_pump.B1 (c out_b : Option Addr) (out_l out_c : Nat) (room : Int) (w : World) (N1 : Option Addr → Option Addr → Nat → Nat → World → Prop)  (R : Option Addr → Nat → Nat → World → Prop) : Prop :=
  conn_Conn_sent.Call c w fun r26 w1 =>
  Pn c fun a =>
  LdP a w1 fun x31 =>
  seg_SendBuf_Unsent.Call x31 w1 fun r32 w2 =>
  Bm (decide (r32 > (IntKind.i64.wrap (room - r26)))) (
    conn_Conn_pump.B2 c out_b out_l out_c (IntKind.i64.wrap (room - r26)) w2 N1 R) (
    conn_Conn_pump.B2 c out_b out_l out_c r32 w2 N1 R)
theorem conn_Conn_pump.B1_eq (c out_b : Option Addr) (out_l out_c : Nat) (room : Int) (w : World) (N1 : Option Addr → Option Addr → Nat → Nat → World → Prop)  (R : Option Addr → Nat → Nat → World → Prop) (sB2 : Option Addr → Option Addr → Nat → Nat → Int → World → Prop) :
    (
  conn_Conn_sent.Call c w fun r26 w1 =>
  Pn c fun a =>
  LdP a w1 fun x31 =>
  seg_SendBuf_Unsent.Call x31 w1 fun r32 w2 =>
  Bm (decide (r32 > (IntKind.i64.wrap (room - r26)))) (
    sB2 c out_b out_l out_c (IntKind.i64.wrap (room - r26)) w2) (
    sB2 c out_b out_l out_c r32 w2)) = kstep Tryz.prog 127 Tryz.f77.results.toList (Tryz.f77.body.getD .skip) (conn_Conn_pump.RV R) (kvc Tryz.prog 127 Tryz.f77.results.toList (Tryz.f77.body.getD .skip) (conn_Conn_pump.RV R) [([(0, [1, 1, 1, 0, 0, 0, 0, 1, 1, 1, 1, 1]), (1, [1]), (2, [1, 1, 1, 0, 0, 0]), (1, [0]), (0, [1, 1, 1, 1])], fun σ w => dP (slotOf σ 0) fun c_ => dL (slotOf σ 3) fun out_b_ out_l_ out_c_ => dI .i64 (slotOf σ 5) fun n_ => sB2 c_ out_b_ out_l_ out_c_ n_ w)] 2000) [(0, [1, 1, 1, 0, 0, 0, 0, 1, 1]), (1, [1]), (2, [1, 1, 1, 0, 0, 0]), (1, [0]), (0, [1, 1, 1, 1])] [(0, .pointer c), (3, .slice out_b out_l out_c), (4, .int .i64 room)] w := by kernel_rfl
theorem conn_Conn_pump.B1_sound {R : Option Addr → Nat → Nat → World → Prop} {N1 : Option Addr → Option Addr → Nat → Nat → World → Prop} (hN1 : ∀ c out_b out_l out_c w, N1 c out_b out_l out_c w → KW Tryz.prog 77 127 (conn_Conn_pump.RV R) ([(0, [1, 1, 1, 0, 0, 0]), (2, [1, 1, 1, 0, 0, 0]), (1, [0]), (0, [1, 1, 1, 1])].map (toItem (Tryz.f77.body.getD .skip))) [(0, .pointer c), (3, .slice out_b out_l out_c)] w) (c out_b : Option Addr) (out_l out_c : Nat) (room : Int) (w : World) (h : conn_Conn_pump.B1 c out_b out_l out_c room w N1  R) :
    KW Tryz.prog 77 127 (conn_Conn_pump.RV R) ([(0, [1, 1, 1, 0, 0, 0, 0, 1, 1]), (1, [1]), (2, [1, 1, 1, 0, 0, 0]), (1, [0]), (0, [1, 1, 1, 1])].map (toItem (Tryz.f77.body.getD .skip))) [(0, .pointer c), (3, .slice out_b out_l out_c), (4, .int .i64 room)] w := by
  exact block_spec Tryz.func77 Tryz.mixed (stops_cons (fun σ w h => by
      obtain ⟨c_, e0, h⟩ := dP_elim h
      obtain ⟨out_b_, out_l_, out_c_, e1, h⟩ := dL_elim h
      obtain ⟨n_, e2, h⟩ := dI_elim h
      exact (conn_Conn_pump.B2_sound hN1 c_ out_b_ out_l_ out_c_ n_ w h).weaken (Sub.cons (Sub.cons (Sub.cons (Sub.nil _) e2) e1) e0)) stops_nil) (Eq.mp (conn_Conn_pump.B1_eq c out_b out_l out_c room w N1  R (fun c_ out_b_ out_l_ out_c_ n_ w => conn_Conn_pump.B2 c_ out_b_ out_l_ out_c_ n_ w N1 R)) h)
def conn_Conn_pump.L1b (c out_b : Option Addr) (out_l out_c : Nat) (w : World)  (N1 : Option Addr → Option Addr → Nat → Nat → World → Prop) (R : Option Addr → Nat → Nat → World → Prop) : Prop :=
  Pn c fun a =>
  LdI .i64 (a.add 9) w fun x21 =>
  Bm (x21 == (0 : Int)) (
    conn_Conn_pump.B1 c out_b out_l out_c (1 : Int) w N1 R) (
    conn_Conn_pump.B1 c out_b out_l out_c x21 w N1 R)
theorem conn_Conn_pump.L1b_eq (c out_b : Option Addr) (out_l out_c : Nat) (w : World)  (N1 : Option Addr → Option Addr → Nat → Nat → World → Prop) (R : Option Addr → Nat → Nat → World → Prop) (sB1 : Option Addr → Option Addr → Nat → Nat → Int → World → Prop) :
    (
  Pn c fun a =>
  LdI .i64 (a.add 9) w fun x21 =>
  Bm (x21 == (0 : Int)) (
    sB1 c out_b out_l out_c (1 : Int) w) (
    sB1 c out_b out_l out_c x21 w)) = kstep Tryz.prog 127 Tryz.f77.results.toList (Tryz.f77.body.getD .skip) (conn_Conn_pump.RV R) (kvc Tryz.prog 127 Tryz.f77.results.toList (Tryz.f77.body.getD .skip) (conn_Conn_pump.RV R) [([(0, [1, 1, 1, 0, 0, 0, 0, 1, 1]), (1, [1]), (2, [1, 1, 1, 0, 0, 0]), (1, [0]), (0, [1, 1, 1, 1])], fun σ w => dP (slotOf σ 0) fun c_ => dL (slotOf σ 3) fun out_b_ out_l_ out_c_ => dI .i64 (slotOf σ 4) fun room_ => sB1 c_ out_b_ out_l_ out_c_ room_ w)] 2000) [(0, [1, 1, 1, 0, 0, 0]), (2, [1, 1, 1, 0, 0, 0]), (1, [0]), (0, [1, 1, 1, 1])] [(0, .pointer c), (3, .slice out_b out_l out_c)] w := by kernel_rfl
theorem conn_Conn_pump.L1b_sound {R : Option Addr → Nat → Nat → World → Prop} {N1 : Option Addr → Option Addr → Nat → Nat → World → Prop} (hN1 : ∀ c out_b out_l out_c w, N1 c out_b out_l out_c w → KW Tryz.prog 77 127 (conn_Conn_pump.RV R) ([(0, [1, 1, 1, 0, 0, 0]), (2, [1, 1, 1, 0, 0, 0]), (1, [0]), (0, [1, 1, 1, 1])].map (toItem (Tryz.f77.body.getD .skip))) [(0, .pointer c), (3, .slice out_b out_l out_c)] w) (c out_b : Option Addr) (out_l out_c : Nat) (w : World) (h : conn_Conn_pump.L1b c out_b out_l out_c w  N1 R) :
    KW Tryz.prog 77 127 (conn_Conn_pump.RV R) ([(0, [1, 1, 1, 0, 0, 0]), (2, [1, 1, 1, 0, 0, 0]), (1, [0]), (0, [1, 1, 1, 1])].map (toItem (Tryz.f77.body.getD .skip))) [(0, .pointer c), (3, .slice out_b out_l out_c)] w := by
  exact block_spec Tryz.func77 Tryz.mixed (stops_cons (fun σ w h => by
      obtain ⟨c_, e0, h⟩ := dP_elim h
      obtain ⟨out_b_, out_l_, out_c_, e1, h⟩ := dL_elim h
      obtain ⟨room_, e2, h⟩ := dI_elim h
      exact (conn_Conn_pump.B1_sound hN1 c_ out_b_ out_l_ out_c_ room_ w h).weaken (Sub.cons (Sub.cons (Sub.cons (Sub.nil _) e2) e1) e0)) stops_nil) (Eq.mp (conn_Conn_pump.L1b_eq c out_b out_l out_c w  N1 R (fun c_ out_b_ out_l_ out_c_ room_ w => conn_Conn_pump.B1 c_ out_b_ out_l_ out_c_ room_ w N1 R)) h)
def conn_Conn_pump.L1 (c out_b : Option Addr) (out_l out_c : Nat) (w : World)  (R : Option Addr → Nat → Nat → World → Prop) : Prop :=
  ∃ (I : Nat → Option Addr → Option Addr → Nat → Nat → World → Prop) (m : Nat), I m c out_b out_l out_c w ∧ ∀ m c out_b out_l out_c w, I m c out_b out_l out_c w → conn_Conn_pump.L1b c out_b out_l out_c w  (fun c' out_b' out_l' out_c' w' => ∃ m', m' < m ∧ I m' c' out_b' out_l' out_c' w') R
theorem conn_Conn_pump.L1_sound {R : Option Addr → Nat → Nat → World → Prop}  (c out_b : Option Addr) (out_l out_c : Nat) (w : World) (h : conn_Conn_pump.L1 c out_b out_l out_c w  R) :
    KW Tryz.prog 77 127 (conn_Conn_pump.RV R) ([(0, [1, 1, 1, 0, 0, 0]), (2, [1, 1, 1, 0, 0, 0]), (1, [0]), (0, [1, 1, 1, 1])].map (toItem (Tryz.f77.body.getD .skip))) [(0, .pointer c), (3, .slice out_b out_l out_c)] w := by
  obtain ⟨I, m, hBase, hr⟩ := h
  refine KW.loop (fun m σ w => ∃ (c out_b : Option Addr) (out_l out_c : Nat), σ = [(0, .pointer c), (3, .slice out_b out_l out_c)] ∧ I m c out_b out_l out_c w) ?_ m _ w ⟨c, out_b, out_l, out_c, rfl, hBase⟩
  rintro m ih σ w ⟨c, out_b, out_l, out_c, rfl, hI⟩
  exact conn_Conn_pump.L1b_sound  (N1 := fun c' out_b' out_l' out_c' w' => ∃ m', m' < m ∧ I m' c' out_b' out_l' out_c' w') (fun c' out_b' out_l' out_c' w' hx => by obtain ⟨m', hlt, hI'⟩ := hx; exact ih m' hlt _ w' ⟨c', out_b', out_l', out_c', rfl, hI'⟩) c out_b out_l out_c w (hr m c out_b out_l out_c w hI)
def conn_Conn_pump.B0 (c : Option Addr) (w : World)   (R : Option Addr → Nat → Nat → World → Prop) : Prop :=
  New (.cells #[] 45) w fun b11 w1 =>
  Pn c fun a =>
  LdI .i64 (a.add 2) w1 fun x15 =>
  Bm (x15 != (3 : Int)) (
    R (some ⟨b11, 0, none⟩) 0 0 w1) (
    conn_Conn_pump.L1 c (some ⟨b11, 0, none⟩) 0 0 w1  R)
theorem conn_Conn_pump.B0_eq (c : Option Addr) (w : World)   (R : Option Addr → Nat → Nat → World → Prop) (sL1 : Option Addr → Option Addr → Nat → Nat → World → Prop) :
    (
  New (.cells #[] 45) w fun b11 w1 =>
  Pn c fun a =>
  LdI .i64 (a.add 2) w1 fun x15 =>
  Bm (x15 != (3 : Int)) (
    R (some ⟨b11, 0, none⟩) 0 0 w1) (
    sL1 c (some ⟨b11, 0, none⟩) 0 0 w1)) = kstep Tryz.prog 127 Tryz.f77.results.toList (Tryz.f77.body.getD .skip) (conn_Conn_pump.RV R) (kvc Tryz.prog 127 Tryz.f77.results.toList (Tryz.f77.body.getD .skip) (conn_Conn_pump.RV R) [([(0, [1, 1, 1, 0, 0, 0]), (2, [1, 1, 1, 0, 0, 0]), (1, [0]), (0, [1, 1, 1, 1])], fun σ w => dP (slotOf σ 0) fun c_ => dL (slotOf σ 3) fun out_b_ out_l_ out_c_ => sL1 c_ out_b_ out_l_ out_c_ w)] 2000) [(0, [])] [(0, .pointer c)] w := by kernel_rfl
theorem conn_Conn_pump.B0_sound {R : Option Addr → Nat → Nat → World → Prop}  (c : Option Addr) (w : World) (h : conn_Conn_pump.B0 c w   R) :
    KW Tryz.prog 77 127 (conn_Conn_pump.RV R) ([(0, [])].map (toItem (Tryz.f77.body.getD .skip))) [(0, .pointer c)] w := by
  exact block_spec Tryz.func77 Tryz.mixed (stops_cons (fun σ w h => by
      obtain ⟨c_, e0, h⟩ := dP_elim h
      obtain ⟨out_b_, out_l_, out_c_, e1, h⟩ := dL_elim h
      exact (conn_Conn_pump.L1_sound  c_ out_b_ out_l_ out_c_ w h).weaken (Sub.cons (Sub.cons (Sub.nil _) e1) e0)) stops_nil) (Eq.mp (conn_Conn_pump.B0_eq c w   R (fun c_ out_b_ out_l_ out_c_ w => conn_Conn_pump.L1 c_ out_b_ out_l_ out_c_ w  R)) h)
theorem conn_Conn_pump.sound (c : Option Addr) (w : World) (R : Option Addr → Nat → Nat → World → Prop) (h : conn_Conn_pump.B0 c w R) : conn_Conn_pump.Call c w R := by
  have hc := calls_of_block (args := #[.pointer c]) Tryz.func77 (body := (Tryz.f77.body.getD .skip)) (by kernel_rfl) (by kernel_rfl) (args_slot _) (conn_Conn_pump.B0_sound c w h)
  exact hc.mono fun e w' he => by
    obtain ⟨v, rfl, hv⟩ := he
    exact conn_Conn_pump.RV_elim hv
def connm_Conn_fail.B0 (c : Option Addr) (why : Int) (w : World)   (R : World → Prop) : Prop :=
  connm_Conn_wipe.Call c w fun w1 =>
  Pn c fun a =>
  Sts [.int .i64 (4 : Int)] a 0 w1 fun w2 =>
  Pn c fun a_1 =>
  Sts [.int .i64 why] (a_1.add 1) 0 w2 fun w3 =>
  Pn c fun a_2 =>
  Sts [.int .i64 (10 : Int)] (a_2.add 48) 0 w3 fun w4 =>
  R  w4
theorem connm_Conn_fail.B0_eq (c : Option Addr) (why : Int) (w : World)   (R : World → Prop)  :
    (
  connm_Conn_wipe.Call c w fun w1 =>
  Pn c fun a =>
  Sts [.int .i64 (4 : Int)] a 0 w1 fun w2 =>
  Pn c fun a_1 =>
  Sts [.int .i64 why] (a_1.add 1) 0 w2 fun w3 =>
  Pn c fun a_2 =>
  Sts [.int .i64 (10 : Int)] (a_2.add 48) 0 w3 fun w4 =>
  R  w4) = kstep Tryz.prog 16 Tryz.f78.results.toList (Tryz.f78.body.getD .skip) (connm_Conn_fail.RV R) (kvc Tryz.prog 16 Tryz.f78.results.toList (Tryz.f78.body.getD .skip) (connm_Conn_fail.RV R) [] 2000) [(0, [])] [(0, .pointer c), (1, .int .i64 why)] w := by kernel_rfl
theorem connm_Conn_fail.B0_sound {R : World → Prop}  (c : Option Addr) (why : Int) (w : World) (h : connm_Conn_fail.B0 c why w   R) :
    KW Tryz.prog 78 16 (connm_Conn_fail.RV R) ([(0, [])].map (toItem (Tryz.f78.body.getD .skip))) [(0, .pointer c), (1, .int .i64 why)] w := by
  exact block_spec Tryz.func78 Tryz.mixed stops_nil (Eq.mp (connm_Conn_fail.B0_eq c why w   R ) h)
theorem connm_Conn_fail.sound (c : Option Addr) (why : Int) (w : World) (R : World → Prop) (h : connm_Conn_fail.B0 c why w R) : connm_Conn_fail.Call c why w R := by
  have hc := calls_of_block (args := #[.pointer c, .int .i64 why]) Tryz.func78 (body := (Tryz.f78.body.getD .skip)) (by kernel_rfl) (by kernel_rfl) (args_slot _) (connm_Conn_fail.B0_sound c why w h)
  exact hc.mono fun e w' he => by
    obtain ⟨v, rfl, hv⟩ := he
    exact connm_Conn_fail.RV_elim hv
def connm_Conn_arm.B0 (c : Option Addr) (w : World)   (R : World → Prop) : Prop :=
  Pn c fun a =>
  LdI .i64 (a.add 45) w fun x5 =>
  Bm (x5 == (0 : Int)) (
    Pn c fun a_1 =>
    LdI .i64 (a_1.add 46) w fun x11 =>
    0 ≤ (IntKind.u64.wrap x11) ∧
    Pn c fun a_2 =>
    Sts [.int .i64 (IntKind.i64.wrap ((2 : Int) * 2 ^ (min (IntKind.u64.wrap x11).toNat IntKind.i64.bits)))] (a_2.add 45) 0 w fun w1 =>
    R  w1) (
    R  w)
theorem connm_Conn_arm.B0_eq (c : Option Addr) (w : World)   (R : World → Prop)  :
    (
  Pn c fun a =>
  LdI .i64 (a.add 45) w fun x5 =>
  Bm (x5 == (0 : Int)) (
    Pn c fun a_1 =>
    LdI .i64 (a_1.add 46) w fun x11 =>
    0 ≤ (IntKind.u64.wrap x11) ∧
    Pn c fun a_2 =>
    Sts [.int .i64 (IntKind.i64.wrap ((2 : Int) * 2 ^ (min (IntKind.u64.wrap x11).toNat IntKind.i64.bits)))] (a_2.add 45) 0 w fun w1 =>
    R  w1) (
    R  w)) = kstep Tryz.prog 16 Tryz.f79.results.toList (Tryz.f79.body.getD .skip) (connm_Conn_arm.RV R) (kvc Tryz.prog 16 Tryz.f79.results.toList (Tryz.f79.body.getD .skip) (connm_Conn_arm.RV R) [] 2000) [(0, [])] [(0, .pointer c)] w := by kernel_rfl
theorem connm_Conn_arm.B0_sound {R : World → Prop}  (c : Option Addr) (w : World) (h : connm_Conn_arm.B0 c w   R) :
    KW Tryz.prog 79 16 (connm_Conn_arm.RV R) ([(0, [])].map (toItem (Tryz.f79.body.getD .skip))) [(0, .pointer c)] w := by
  exact block_spec Tryz.func79 Tryz.mixed stops_nil (Eq.mp (connm_Conn_arm.B0_eq c w   R ) h)
theorem connm_Conn_arm.sound (c : Option Addr) (w : World) (R : World → Prop) (h : connm_Conn_arm.B0 c w R) : connm_Conn_arm.Call c w R := by
  have hc := calls_of_block (args := #[.pointer c]) Tryz.func79 (body := (Tryz.f79.body.getD .skip)) (by kernel_rfl) (by kernel_rfl) (args_slot _) (connm_Conn_arm.B0_sound c w h)
  exact hc.mono fun e w' he => by
    obtain ⟨v, rfl, hv⟩ := he
    exact connm_Conn_arm.RV_elim hv
def connm_Conn_pump.B5 (c out_b : Option Addr) (out_l out_c : Nat) (t139 : Bool) (w : World)   (R : Option Addr → Nat → Nat → World → Prop) : Prop :=
  Bm t139 (
    Pn c fun a =>
    LdI .i64 (a.add 7) w.drew fun x143 =>
    Pn c fun a_1 =>
    LdI .i64 (a_1.add 9) w.drew fun x147 =>
    api_SeqAdd.Call x143 x147 w.drew fun r148 w1 =>
    connm_Conn_mk.Call c (6 : Int) r148 none 0 0 w1 fun r151_0 r151_1 r151_2 r151_3 r151_4 r151_5 r151_6_b r151_6_l r151_6_c w2 =>
    New (.cells #[.int .i64 (0 : Int), .int .i64 (0 : Int), .int .i64 (0 : Int), .int .i64 (0 : Int), .int .i64 (0 : Int), .int .i64 (0 : Int), .slice none 0 0] 45) w2 fun s_ w3 =>
    Sts [.int .i64 r151_0, .int .i64 r151_1, .int .i64 r151_2, .int .i64 r151_3, .int .i64 r151_4, .int .i64 r151_5, .slice r151_6_b r151_6_l r151_6_c] ⟨s_, 0, none⟩ 0 w3 fun w4 =>
    LdI .i64 ⟨s_, 0, none⟩ w4 fun x153_0 =>
    LdI .i64 ⟨s_, 1, none⟩ w4 fun x153_1 =>
    LdI .i64 ⟨s_, 2, none⟩ w4 fun x153_2 =>
    LdI .i64 ⟨s_, 3, none⟩ w4 fun x153_3 =>
    LdI .i64 ⟨s_, 4, none⟩ w4 fun x153_4 =>
    LdI .i64 ⟨s_, 5, none⟩ w4 fun x153_5 =>
    LdL ⟨s_, 6, none⟩ w4 fun x153_6_b x153_6_l x153_6_c =>
    New (.cells #[.int .i64 x153_0, .int .i64 x153_1, .int .i64 x153_2, .int .i64 x153_3, .int .i64 x153_4, .int .i64 x153_5, .slice x153_6_b x153_6_l x153_6_c] 45) w4 fun b154 w5 =>
    Append 45 (.agg #[.int .i64 (0 : Int), .int .i64 (0 : Int), .int .i64 (0 : Int), .int .i64 (0 : Int), .int .i64 (0 : Int), .int .i64 (0 : Int), .slice none 0 0]) 7 72 out_b out_l out_c (some ⟨b154, 0, none⟩) 1 w5 fun b155 c155 w6 =>
    Pn c fun a_2 =>
    Sts [.bool true] (a_2.add 3) 0 w6 fun w7 =>
    Pn c fun a_3 =>
    LdI .i64 (a_3.add 47) w7 fun x162 =>
    Pn c fun a_4 =>
    Sts [.int .i64 (IntKind.i64.wrap (x162 - (1 : Int)))] (a_4.add 47) 0 w7 fun w8 =>
    connm_Conn_arm.Call c w8 fun w9 =>
    R b155 (out_l + 1) c155 w9) (
    R out_b out_l out_c w)
theorem connm_Conn_pump.B5_eq (c out_b : Option Addr) (out_l out_c : Nat) (t139 : Bool) (w : World)   (R : Option Addr → Nat → Nat → World → Prop)  :
    (
  Bm t139 (
    Pn c fun a =>
    LdI .i64 (a.add 7) w.drew fun x143 =>
    Pn c fun a_1 =>
    LdI .i64 (a_1.add 9) w.drew fun x147 =>
    api_SeqAdd.Call x143 x147 w.drew fun r148 w1 =>
    connm_Conn_mk.Call c (6 : Int) r148 none 0 0 w1 fun r151_0 r151_1 r151_2 r151_3 r151_4 r151_5 r151_6_b r151_6_l r151_6_c w2 =>
    New (.cells #[.int .i64 (0 : Int), .int .i64 (0 : Int), .int .i64 (0 : Int), .int .i64 (0 : Int), .int .i64 (0 : Int), .int .i64 (0 : Int), .slice none 0 0] 45) w2 fun s_ w3 =>
    Sts [.int .i64 r151_0, .int .i64 r151_1, .int .i64 r151_2, .int .i64 r151_3, .int .i64 r151_4, .int .i64 r151_5, .slice r151_6_b r151_6_l r151_6_c] ⟨s_, 0, none⟩ 0 w3 fun w4 =>
    LdI .i64 ⟨s_, 0, none⟩ w4 fun x153_0 =>
    LdI .i64 ⟨s_, 1, none⟩ w4 fun x153_1 =>
    LdI .i64 ⟨s_, 2, none⟩ w4 fun x153_2 =>
    LdI .i64 ⟨s_, 3, none⟩ w4 fun x153_3 =>
    LdI .i64 ⟨s_, 4, none⟩ w4 fun x153_4 =>
    LdI .i64 ⟨s_, 5, none⟩ w4 fun x153_5 =>
    LdL ⟨s_, 6, none⟩ w4 fun x153_6_b x153_6_l x153_6_c =>
    New (.cells #[.int .i64 x153_0, .int .i64 x153_1, .int .i64 x153_2, .int .i64 x153_3, .int .i64 x153_4, .int .i64 x153_5, .slice x153_6_b x153_6_l x153_6_c] 45) w4 fun b154 w5 =>
    Append 45 (.agg #[.int .i64 (0 : Int), .int .i64 (0 : Int), .int .i64 (0 : Int), .int .i64 (0 : Int), .int .i64 (0 : Int), .int .i64 (0 : Int), .slice none 0 0]) 7 72 out_b out_l out_c (some ⟨b154, 0, none⟩) 1 w5 fun b155 c155 w6 =>
    Pn c fun a_2 =>
    Sts [.bool true] (a_2.add 3) 0 w6 fun w7 =>
    Pn c fun a_3 =>
    LdI .i64 (a_3.add 47) w7 fun x162 =>
    Pn c fun a_4 =>
    Sts [.int .i64 (IntKind.i64.wrap (x162 - (1 : Int)))] (a_4.add 47) 0 w7 fun w8 =>
    connm_Conn_arm.Call c w8 fun w9 =>
    R b155 (out_l + 1) c155 w9) (
    R out_b out_l out_c w)) = kstep Tryz.prog 169 Tryz.f80.results.toList (Tryz.f80.body.getD .skip) (connm_Conn_pump.RV R) (kvc Tryz.prog 169 Tryz.f80.results.toList (Tryz.f80.body.getD .skip) (connm_Conn_pump.RV R) [] 2000) [(0, [1, 1, 1, 1, 0, 1]), (0, [1, 1, 1, 1, 1])] [(0, .pointer c), (3, .slice out_b out_l out_c), (139, .bool t139)] w := by kernel_rfl
theorem connm_Conn_pump.B5_sound {R : Option Addr → Nat → Nat → World → Prop}  (c out_b : Option Addr) (out_l out_c : Nat) (t139 : Bool) (w : World) (h : connm_Conn_pump.B5 c out_b out_l out_c t139 w   R) :
    KW Tryz.prog 80 169 (connm_Conn_pump.RV R) ([(0, [1, 1, 1, 1, 0, 1]), (0, [1, 1, 1, 1, 1])].map (toItem (Tryz.f80.body.getD .skip))) [(0, .pointer c), (3, .slice out_b out_l out_c), (139, .bool t139)] w := by
  exact block_spec Tryz.func80 Tryz.mixed stops_nil (Eq.mp (connm_Conn_pump.B5_eq c out_b out_l out_c t139 w   R ) h)
def connm_Conn_pump.B6 (c out_b : Option Addr) (out_l out_c : Nat) (n : Int) (s : Nat) (w : World) (N1 : Option Addr → Option Addr → Nat → Nat → World → Prop)  (R : Option Addr → Nat → Nat → World → Prop) : Prop :=
  LdI .i64 ⟨s, 0, none⟩ w fun x89_0 =>
  LdI .i64 ⟨s, 1, none⟩ w fun x89_1 =>
  LdI .i64 ⟨s, 2, none⟩ w fun x89_2 =>
  LdI .i64 ⟨s, 3, none⟩ w fun x89_3 =>
  LdI .i64 ⟨s, 4, none⟩ w fun x89_4 =>
  LdI .i64 ⟨s, 5, none⟩ w fun x89_5 =>
  LdL ⟨s, 6, none⟩ w fun x89_6_b x89_6_l x89_6_c =>
  New (.cells #[.int .i64 x89_0, .int .i64 x89_1, .int .i64 x89_2, .int .i64 x89_3, .int .i64 x89_4, .int .i64 x89_5, .slice x89_6_b x89_6_l x89_6_c] 45) w fun b90 w1 =>
  Append 45 (.agg #[.int .i64 (0 : Int), .int .i64 (0 : Int), .int .i64 (0 : Int), .int .i64 (0 : Int), .int .i64 (0 : Int), .int .i64 (0 : Int), .slice none 0 0]) 7 72 out_b out_l out_c (some ⟨b90, 0, none⟩) 1 w1 fun b91 c91 w2 =>
  Pn c fun a =>
  LdI .i64 (a.add 9) w2 fun x95 =>
  Pn c fun a_1 =>
  Sts [.int .i64 (IntKind.i64.wrap (x95 + n))] (a_1.add 9) 0 w2 fun w3 =>
  Pn c fun a_2 =>
  LdI .i64 (a_2.add 47) w3 fun x103 =>
  Pn c fun a_3 =>
  Sts [.int .i64 (IntKind.i64.wrap (x103 - n))] (a_3.add 47) 0 w3 fun w4 =>
  connm_Conn_arm.Call c w4 fun w5 =>
  N1 c b91 (out_l + 1) c91 w5
theorem connm_Conn_pump.B6_eq (c out_b : Option Addr) (out_l out_c : Nat) (n : Int) (s : Nat) (w : World) (N1 : Option Addr → Option Addr → Nat → Nat → World → Prop)  (R : Option Addr → Nat → Nat → World → Prop)  :
    (
  LdI .i64 ⟨s, 0, none⟩ w fun x89_0 =>
  LdI .i64 ⟨s, 1, none⟩ w fun x89_1 =>
  LdI .i64 ⟨s, 2, none⟩ w fun x89_2 =>
  LdI .i64 ⟨s, 3, none⟩ w fun x89_3 =>
  LdI .i64 ⟨s, 4, none⟩ w fun x89_4 =>
  LdI .i64 ⟨s, 5, none⟩ w fun x89_5 =>
  LdL ⟨s, 6, none⟩ w fun x89_6_b x89_6_l x89_6_c =>
  New (.cells #[.int .i64 x89_0, .int .i64 x89_1, .int .i64 x89_2, .int .i64 x89_3, .int .i64 x89_4, .int .i64 x89_5, .slice x89_6_b x89_6_l x89_6_c] 45) w fun b90 w1 =>
  Append 45 (.agg #[.int .i64 (0 : Int), .int .i64 (0 : Int), .int .i64 (0 : Int), .int .i64 (0 : Int), .int .i64 (0 : Int), .int .i64 (0 : Int), .slice none 0 0]) 7 72 out_b out_l out_c (some ⟨b90, 0, none⟩) 1 w1 fun b91 c91 w2 =>
  Pn c fun a =>
  LdI .i64 (a.add 9) w2 fun x95 =>
  Pn c fun a_1 =>
  Sts [.int .i64 (IntKind.i64.wrap (x95 + n))] (a_1.add 9) 0 w2 fun w3 =>
  Pn c fun a_2 =>
  LdI .i64 (a_2.add 47) w3 fun x103 =>
  Pn c fun a_3 =>
  Sts [.int .i64 (IntKind.i64.wrap (x103 - n))] (a_3.add 47) 0 w3 fun w4 =>
  connm_Conn_arm.Call c w4 fun w5 =>
  N1 c b91 (out_l + 1) c91 w5) = kstep Tryz.prog 169 Tryz.f80.results.toList (Tryz.f80.body.getD .skip) (connm_Conn_pump.RV R) (kvc Tryz.prog 169 Tryz.f80.results.toList (Tryz.f80.body.getD .skip) (connm_Conn_pump.RV R) [([(0, [1, 1, 1, 0, 0, 0]), (2, [1, 1, 1, 0, 0, 0]), (1, [0]), (0, [1, 1, 1, 1])], fun σ w => dP (slotOf σ 0) fun c_ => dL (slotOf σ 3) fun out_b_ out_l_ out_c_ => N1 c_ out_b_ out_l_ out_c_ w)] 2000) [(0, [1, 1, 1, 0, 0, 0, 0, 1, 1, 1, 1, 1, 1, 1, 1, 1]), (1, [1]), (2, [1, 1, 1, 0, 0, 0]), (1, [0]), (0, [1, 1, 1, 1])] [(0, .pointer c), (3, .slice out_b out_l out_c), (5, .int .i64 n), (7, .pointer (some ⟨s, 0, none⟩))] w := by kernel_rfl
theorem connm_Conn_pump.B6_sound {R : Option Addr → Nat → Nat → World → Prop} {N1 : Option Addr → Option Addr → Nat → Nat → World → Prop} (hN1 : ∀ c out_b out_l out_c w, N1 c out_b out_l out_c w → KW Tryz.prog 80 169 (connm_Conn_pump.RV R) ([(0, [1, 1, 1, 0, 0, 0]), (2, [1, 1, 1, 0, 0, 0]), (1, [0]), (0, [1, 1, 1, 1])].map (toItem (Tryz.f80.body.getD .skip))) [(0, .pointer c), (3, .slice out_b out_l out_c)] w) (c out_b : Option Addr) (out_l out_c : Nat) (n : Int) (s : Nat) (w : World) (h : connm_Conn_pump.B6 c out_b out_l out_c n s w N1  R) :
    KW Tryz.prog 80 169 (connm_Conn_pump.RV R) ([(0, [1, 1, 1, 0, 0, 0, 0, 1, 1, 1, 1, 1, 1, 1, 1, 1]), (1, [1]), (2, [1, 1, 1, 0, 0, 0]), (1, [0]), (0, [1, 1, 1, 1])].map (toItem (Tryz.f80.body.getD .skip))) [(0, .pointer c), (3, .slice out_b out_l out_c), (5, .int .i64 n), (7, .pointer (some ⟨s, 0, none⟩))] w := by
  exact block_spec Tryz.func80 Tryz.mixed (stops_cons (fun σ w h => by
      obtain ⟨c_, e0, h⟩ := dP_elim h
      obtain ⟨out_b_, out_l_, out_c_, e1, h⟩ := dL_elim h
      exact (hN1 c_ out_b_ out_l_ out_c_ w h).weaken (Sub.cons (Sub.cons (Sub.nil _) e1) e0)) stops_nil) (Eq.mp (connm_Conn_pump.B6_eq c out_b out_l out_c n s w N1  R ) h)
def connm_Conn_pump.B4 (c out_b : Option Addr) (out_l out_c : Nat) (n : Int) (w : World) (N1 : Option Addr → Option Addr → Nat → Nat → World → Prop)  (R : Option Addr → Nat → Nat → World → Prop) : Prop :=
  Bm (decide (n ≤ (0 : Int))) (
    Pn c fun a =>
    LdB (a.add 2) w.drew fun x113 =>
    Bm x113 (
      Pn c fun a_1 =>
      LdB (a_1.add 3) w.drew fun x118 =>
      Bm (!x118) (
        Pn c fun a_2 =>
        LdI .i64 (a_2.add 9) w.drew fun x125 =>
        Pn c fun a_3 =>
        LdL (a_3.add 8) w.drew fun x129_b x129_l x129_c =>
        Bm (x125 == ((x129_l : Nat) : Int)) (
          Pn c fun a_4 =>
          LdI .i64 (a_4.add 47) w.drew fun x137 =>
          connm_Conn_pump.B5 c out_b out_l out_c (decide (x137 > (0 : Int))) w.drew  R) (
          connm_Conn_pump.B5 c out_b out_l out_c false w.drew  R)) (
        connm_Conn_pump.B5 c out_b out_l out_c false w.drew  R)) (
      connm_Conn_pump.B5 c out_b out_l out_c false w.drew  R)) (
    Pn c fun a_5 =>
    LdI .i64 (a_5.add 7) w.drew fun x64 =>
    Pn c fun a_6 =>
    LdI .i64 (a_6.add 9) w.drew fun x68 =>
    api_SeqAdd.Call x64 x68 w.drew fun r69 w1 =>
    Pn c fun a_7 =>
    LdL (a_7.add 8) w1.drew fun x75_b x75_l x75_c =>
    Pn c fun a_8 =>
    LdI .i64 (a_8.add 9) w1.drew fun x79 =>
    Pn c fun a_9 =>
    LdI .i64 (a_9.add 9) w1.drew fun x83 =>
    (0 ≤ (IntKind.i64.wrap (x83 + n)) ∧ (IntKind.i64.wrap (x83 + n)) ≤ ((x75_c : Nat) : Int)) ∧
    (0 ≤ x79 ∧ x79 ≤ (IntKind.i64.wrap (x83 + n))) ∧
    ((
      connm_Conn_mk.Call c (2 : Int) r69 (slBase x75_b x79 ((x75_c : Nat) : Int) 1) ((IntKind.i64.wrap (x83 + n)).toNat - x79.toNat) (((x75_c : Nat) : Int).toNat - x79.toNat) w1.drew fun r87_0 r87_1 r87_2 r87_3 r87_4 r87_5 r87_6_b r87_6_l r87_6_c w2 =>
      New (.cells #[.int .i64 (0 : Int), .int .i64 (0 : Int), .int .i64 (0 : Int), .int .i64 (0 : Int), .int .i64 (0 : Int), .int .i64 (0 : Int), .slice none 0 0] 45) w2 fun s_ w3 =>
      Sts [.int .i64 r87_0, .int .i64 r87_1, .int .i64 r87_2, .int .i64 r87_3, .int .i64 r87_4, .int .i64 r87_5, .slice r87_6_b r87_6_l r87_6_c] ⟨s_, 0, none⟩ 0 w3 fun w4 =>
      connm_Conn_pump.B6 c out_b out_l out_c n s_ w4 N1 R) ∧ (
      New (.cells #[.int .i64 (0 : Int), .int .i64 (0 : Int), .int .i64 (0 : Int), .int .i64 (0 : Int), .int .i64 (0 : Int), .int .i64 (0 : Int), .slice none 0 0] 45) w1.drew fun s__1 w5 =>
      w5.cell? (a_9.add 9) = some (.int .i64 x83) ∧
      w5.cell? (a_8.add 9) = some (.int .i64 x79) ∧
      w5.cell? (a_7.add 8) = some (.slice x75_b x75_l x75_c) ∧
      connm_Conn_mk.Call c (2 : Int) r69 (slBase x75_b x79 ((x75_c : Nat) : Int) 1) ((IntKind.i64.wrap (x83 + n)).toNat - x79.toNat) (((x75_c : Nat) : Int).toNat - x79.toNat) w5 fun r87_0_1 r87_1_1 r87_2_1 r87_3_1 r87_4_1 r87_5_1 r87_6_b_1 r87_6_l_1 r87_6_c_1 w6 =>
      Sts [.int .i64 r87_0_1, .int .i64 r87_1_1, .int .i64 r87_2_1, .int .i64 r87_3_1, .int .i64 r87_4_1, .int .i64 r87_5_1, .slice r87_6_b_1 r87_6_l_1 r87_6_c_1] ⟨s__1, 0, none⟩ 0 w6 fun w7 =>
      connm_Conn_pump.B6 c out_b out_l out_c n s__1 w7 N1 R)))
theorem connm_Conn_pump.B4_eq (c out_b : Option Addr) (out_l out_c : Nat) (n : Int) (w : World) (N1 : Option Addr → Option Addr → Nat → Nat → World → Prop)  (R : Option Addr → Nat → Nat → World → Prop) (sB5 : Option Addr → Option Addr → Nat → Nat → Bool → World → Prop) (sB6 : Option Addr → Option Addr → Nat → Nat → Int → Nat → World → Prop) :
    (
  Bm (decide (n ≤ (0 : Int))) (
    Pn c fun a =>
    LdB (a.add 2) w.drew fun x113 =>
    Bm x113 (
      Pn c fun a_1 =>
      LdB (a_1.add 3) w.drew fun x118 =>
      Bm (!x118) (
        Pn c fun a_2 =>
        LdI .i64 (a_2.add 9) w.drew fun x125 =>
        Pn c fun a_3 =>
        LdL (a_3.add 8) w.drew fun x129_b x129_l x129_c =>
        Bm (x125 == ((x129_l : Nat) : Int)) (
          Pn c fun a_4 =>
          LdI .i64 (a_4.add 47) w.drew fun x137 =>
          sB5 c out_b out_l out_c (decide (x137 > (0 : Int))) w.drew) (
          sB5 c out_b out_l out_c false w.drew)) (
        sB5 c out_b out_l out_c false w.drew)) (
      sB5 c out_b out_l out_c false w.drew)) (
    Pn c fun a_5 =>
    LdI .i64 (a_5.add 7) w.drew fun x64 =>
    Pn c fun a_6 =>
    LdI .i64 (a_6.add 9) w.drew fun x68 =>
    api_SeqAdd.Call x64 x68 w.drew fun r69 w1 =>
    Pn c fun a_7 =>
    LdL (a_7.add 8) w1.drew fun x75_b x75_l x75_c =>
    Pn c fun a_8 =>
    LdI .i64 (a_8.add 9) w1.drew fun x79 =>
    Pn c fun a_9 =>
    LdI .i64 (a_9.add 9) w1.drew fun x83 =>
    (0 ≤ (IntKind.i64.wrap (x83 + n)) ∧ (IntKind.i64.wrap (x83 + n)) ≤ ((x75_c : Nat) : Int)) ∧
    (0 ≤ x79 ∧ x79 ≤ (IntKind.i64.wrap (x83 + n))) ∧
    ((
      connm_Conn_mk.Call c (2 : Int) r69 (slBase x75_b x79 ((x75_c : Nat) : Int) 1) ((IntKind.i64.wrap (x83 + n)).toNat - x79.toNat) (((x75_c : Nat) : Int).toNat - x79.toNat) w1.drew fun r87_0 r87_1 r87_2 r87_3 r87_4 r87_5 r87_6_b r87_6_l r87_6_c w2 =>
      New (.cells #[.int .i64 (0 : Int), .int .i64 (0 : Int), .int .i64 (0 : Int), .int .i64 (0 : Int), .int .i64 (0 : Int), .int .i64 (0 : Int), .slice none 0 0] 45) w2 fun s_ w3 =>
      Sts [.int .i64 r87_0, .int .i64 r87_1, .int .i64 r87_2, .int .i64 r87_3, .int .i64 r87_4, .int .i64 r87_5, .slice r87_6_b r87_6_l r87_6_c] ⟨s_, 0, none⟩ 0 w3 fun w4 =>
      sB6 c out_b out_l out_c n s_ w4) ∧ (
      New (.cells #[.int .i64 (0 : Int), .int .i64 (0 : Int), .int .i64 (0 : Int), .int .i64 (0 : Int), .int .i64 (0 : Int), .int .i64 (0 : Int), .slice none 0 0] 45) w1.drew fun s__1 w5 =>
      w5.cell? (a_9.add 9) = some (.int .i64 x83) ∧
      w5.cell? (a_8.add 9) = some (.int .i64 x79) ∧
      w5.cell? (a_7.add 8) = some (.slice x75_b x75_l x75_c) ∧
      connm_Conn_mk.Call c (2 : Int) r69 (slBase x75_b x79 ((x75_c : Nat) : Int) 1) ((IntKind.i64.wrap (x83 + n)).toNat - x79.toNat) (((x75_c : Nat) : Int).toNat - x79.toNat) w5 fun r87_0_1 r87_1_1 r87_2_1 r87_3_1 r87_4_1 r87_5_1 r87_6_b_1 r87_6_l_1 r87_6_c_1 w6 =>
      Sts [.int .i64 r87_0_1, .int .i64 r87_1_1, .int .i64 r87_2_1, .int .i64 r87_3_1, .int .i64 r87_4_1, .int .i64 r87_5_1, .slice r87_6_b_1 r87_6_l_1 r87_6_c_1] ⟨s__1, 0, none⟩ 0 w6 fun w7 =>
      sB6 c out_b out_l out_c n s__1 w7)))) = kstep Tryz.prog 169 Tryz.f80.results.toList (Tryz.f80.body.getD .skip) (connm_Conn_pump.RV R) (kvc Tryz.prog 169 Tryz.f80.results.toList (Tryz.f80.body.getD .skip) (connm_Conn_pump.RV R) [([(0, [1, 1, 1, 1, 0, 1]), (0, [1, 1, 1, 1, 1])], fun σ w => dP (slotOf σ 0) fun c_ => dL (slotOf σ 3) fun out_b_ out_l_ out_c_ => dB (slotOf σ 139) fun t139_ => sB5 c_ out_b_ out_l_ out_c_ t139_ w),
    ([(0, [1, 1, 1, 0, 0, 0, 0, 1, 1, 1, 1, 1, 1, 1, 1, 1]), (1, [1]), (2, [1, 1, 1, 0, 0, 0]), (1, [0]), (0, [1, 1, 1, 1])], fun σ w => dP (slotOf σ 0) fun c_ => dL (slotOf σ 3) fun out_b_ out_l_ out_c_ => dI .i64 (slotOf σ 5) fun n_ => dK (slotOf σ 7) fun s_ => sB6 c_ out_b_ out_l_ out_c_ n_ s_ w)] 2000) [(0, [1, 1, 1, 0, 0, 0, 0, 1, 1, 1, 1, 1, 1]), (1, [1]), (2, [1, 1, 1, 0, 0, 0]), (1, [0]), (0, [1, 1, 1, 1])] [(0, .pointer c), (3, .slice out_b out_l out_c), (5, .int .i64 n)] w := by kernel_rfl
theorem connm_Conn_pump.B4_sound {R : Option Addr → Nat → Nat → World → Prop} {N1 : Option Addr → Option Addr → Nat → Nat → World → Prop} (hN1 : ∀ c out_b out_l out_c w, N1 c out_b out_l out_c w → KW Tryz.prog 80 169 (connm_Conn_pump.RV R) ([(0, [1, 1, 1, 0, 0, 0]), (2, [1, 1, 1, 0, 0, 0]), (1, [0]), (0, [1, 1, 1, 1])].map (toItem (Tryz.f80.body.getD .skip))) [(0, .pointer c), (3, .slice out_b out_l out_c)] w) (c out_b : Option Addr) (out_l out_c : Nat) (n : Int) (w : World) (h : connm_Conn_pump.B4 c out_b out_l out_c n w N1  R) :
    KW Tryz.prog 80 169 (connm_Conn_pump.RV R) ([(0, [1, 1, 1, 0, 0, 0, 0, 1, 1, 1, 1, 1, 1]), (1, [1]), (2, [1, 1, 1, 0, 0, 0]), (1, [0]), (0, [1, 1, 1, 1])].map (toItem (Tryz.f80.body.getD .skip))) [(0, .pointer c), (3, .slice out_b out_l out_c), (5, .int .i64 n)] w := by
  exact block_spec Tryz.func80 Tryz.mixed (stops_cons (fun σ w h => by
      obtain ⟨c_, e0, h⟩ := dP_elim h
      obtain ⟨out_b_, out_l_, out_c_, e1, h⟩ := dL_elim h
      obtain ⟨t139_, e2, h⟩ := dB_elim h
      exact (connm_Conn_pump.B5_sound  c_ out_b_ out_l_ out_c_ t139_ w h).weaken (Sub.cons (Sub.cons (Sub.cons (Sub.nil _) e2) e1) e0)) (stops_cons (fun σ w h => by
      obtain ⟨c_, e0, h⟩ := dP_elim h
      obtain ⟨out_b_, out_l_, out_c_, e1, h⟩ := dL_elim h
      obtain ⟨n_, e2, h⟩ := dI_elim h
      obtain ⟨s_, e3, h⟩ := dK_elim h
      exact (connm_Conn_pump.B6_sound hN1 c_ out_b_ out_l_ out_c_ n_ s_ w h).weaken (Sub.cons (Sub.cons (Sub.cons (Sub.cons (Sub.nil _) e3) e2) e1) e0)) stops_nil)) (Eq.mp (connm_Conn_pump.B4_eq c out_b out_l out_c n w N1  R (fun c_ out_b_ out_l_ out_c_ t139_ w => connm_Conn_pump.B5 c_ out_b_ out_l_ out_c_ t139_ w  R) (fun c_ out_b_ out_l_ out_c_ n_ s_ w => connm_Conn_pump.B6 c_ out_b_ out_l_ out_c_ n_ s_ w N1 R)) h)
def connm_Conn_pump.B3 (c out_b : Option Addr) (out_l out_c : Nat) (n : Int) (w : World) (N1 : Option Addr → Option Addr → Nat → Nat → World → Prop)  (R : Option Addr → Nat → Nat → World → Prop) : Prop :=
  Pn c fun a =>
  LdI .i64 (a.add 47) w fun x53 =>
  Bm (decide (n > x53)) (
    Pn c fun a_1 =>
    LdI .i64 (a_1.add 47) w fun x58 =>
    connm_Conn_pump.B4 c out_b out_l out_c x58 w N1 R) (
    connm_Conn_pump.B4 c out_b out_l out_c n w N1 R)
theorem connm_Conn_pump.B3_eq (c out_b : Option Addr) (out_l out_c : Nat) (n : Int) (w : World) (N1 : Option Addr → Option Addr → Nat → Nat → World → Prop)  (R : Option Addr → Nat → Nat → World → Prop) (sB4 : Option Addr → Option Addr → Nat → Nat → Int → World → Prop) :
    (
  Pn c fun a =>
  LdI .i64 (a.add 47) w fun x53 =>
  Bm (decide (n > x53)) (
    Pn c fun a_1 =>
    LdI .i64 (a_1.add 47) w fun x58 =>
    sB4 c out_b out_l out_c x58 w) (
    sB4 c out_b out_l out_c n w)) = kstep Tryz.prog 169 Tryz.f80.results.toList (Tryz.f80.body.getD .skip) (connm_Conn_pump.RV R) (kvc Tryz.prog 169 Tryz.f80.results.toList (Tryz.f80.body.getD .skip) (connm_Conn_pump.RV R) [([(0, [1, 1, 1, 0, 0, 0, 0, 1, 1, 1, 1, 1, 1]), (1, [1]), (2, [1, 1, 1, 0, 0, 0]), (1, [0]), (0, [1, 1, 1, 1])], fun σ w => dP (slotOf σ 0) fun c_ => dL (slotOf σ 3) fun out_b_ out_l_ out_c_ => dI .i64 (slotOf σ 5) fun n_ => sB4 c_ out_b_ out_l_ out_c_ n_ w)] 2000) [(0, [1, 1, 1, 0, 0, 0, 0, 1, 1, 1, 1, 1]), (1, [1]), (2, [1, 1, 1, 0, 0, 0]), (1, [0]), (0, [1, 1, 1, 1])] [(0, .pointer c), (3, .slice out_b out_l out_c), (5, .int .i64 n)] w := by kernel_rfl
theorem connm_Conn_pump.B3_sound {R : Option Addr → Nat → Nat → World → Prop} {N1 : Option Addr → Option Addr → Nat → Nat → World → Prop} (hN1 : ∀ c out_b out_l out_c w, N1 c out_b out_l out_c w → KW Tryz.prog 80 169 (connm_Conn_pump.RV R) ([(0, [1, 1, 1, 0, 0, 0]), (2, [1, 1, 1, 0, 0, 0]), (1, [0]), (0, [1, 1, 1, 1])].map (toItem (Tryz.f80.body.getD .skip))) [(0, .pointer c), (3, .slice out_b out_l out_c)] w) (c out_b : Option Addr) (out_l out_c : Nat) (n : Int) (w : World) (h : connm_Conn_pump.B3 c out_b out_l out_c n w N1  R) :
    KW Tryz.prog 80 169 (connm_Conn_pump.RV R) ([(0, [1, 1, 1, 0, 0, 0, 0, 1, 1, 1, 1, 1]), (1, [1]), (2, [1, 1, 1, 0, 0, 0]), (1, [0]), (0, [1, 1, 1, 1])].map (toItem (Tryz.f80.body.getD .skip))) [(0, .pointer c), (3, .slice out_b out_l out_c), (5, .int .i64 n)] w := by
  exact block_spec Tryz.func80 Tryz.mixed (stops_cons (fun σ w h => by
      obtain ⟨c_, e0, h⟩ := dP_elim h
      obtain ⟨out_b_, out_l_, out_c_, e1, h⟩ := dL_elim h
      obtain ⟨n_, e2, h⟩ := dI_elim h
      exact (connm_Conn_pump.B4_sound hN1 c_ out_b_ out_l_ out_c_ n_ w h).weaken (Sub.cons (Sub.cons (Sub.cons (Sub.nil _) e2) e1) e0)) stops_nil) (Eq.mp (connm_Conn_pump.B3_eq c out_b out_l out_c n w N1  R (fun c_ out_b_ out_l_ out_c_ n_ w => connm_Conn_pump.B4 c_ out_b_ out_l_ out_c_ n_ w N1 R)) h)
def connm_Conn_pump.B2 (c out_b : Option Addr) (out_l out_c : Nat) (n : Int) (w : World) (N1 : Option Addr → Option Addr → Nat → Nat → World → Prop)  (R : Option Addr → Nat → Nat → World → Prop) : Prop :=
  Bm (decide (n > (12 : Int))) (
    connm_Conn_pump.B3 c out_b out_l out_c (12 : Int) w N1 R) (
    connm_Conn_pump.B3 c out_b out_l out_c n w N1 R)
theorem connm_Conn_pump.B2_eq (c out_b : Option Addr) (out_l out_c : Nat) (n : Int) (w : World) (N1 : Option Addr → Option Addr → Nat → Nat → World → Prop)  (R : Option Addr → Nat → Nat → World → Prop) (sB3 : Option Addr → Option Addr → Nat → Nat → Int → World → Prop) :
    (
  Bm (decide (n > (12 : Int))) (
    sB3 c out_b out_l out_c (12 : Int) w) (
    sB3 c out_b out_l out_c n w)) = kstep Tryz.prog 169 Tryz.f80.results.toList (Tryz.f80.body.getD .skip) (connm_Conn_pump.RV R) (kvc Tryz.prog 169 Tryz.f80.results.toList (Tryz.f80.body.getD .skip) (connm_Conn_pump.RV R) [([(0, [1, 1, 1, 0, 0, 0, 0, 1, 1, 1, 1, 1]), (1, [1]), (2, [1, 1, 1, 0, 0, 0]), (1, [0]), (0, [1, 1, 1, 1])], fun σ w => dP (slotOf σ 0) fun c_ => dL (slotOf σ 3) fun out_b_ out_l_ out_c_ => dI .i64 (slotOf σ 5) fun n_ => sB3 c_ out_b_ out_l_ out_c_ n_ w)] 2000) [(0, [1, 1, 1, 0, 0, 0, 0, 1, 1, 1, 1]), (1, [1]), (2, [1, 1, 1, 0, 0, 0]), (1, [0]), (0, [1, 1, 1, 1])] [(0, .pointer c), (3, .slice out_b out_l out_c), (5, .int .i64 n)] w := by kernel_rfl
theorem connm_Conn_pump.B2_sound {R : Option Addr → Nat → Nat → World → Prop} {N1 : Option Addr → Option Addr → Nat → Nat → World → Prop} (hN1 : ∀ c out_b out_l out_c w, N1 c out_b out_l out_c w → KW Tryz.prog 80 169 (connm_Conn_pump.RV R) ([(0, [1, 1, 1, 0, 0, 0]), (2, [1, 1, 1, 0, 0, 0]), (1, [0]), (0, [1, 1, 1, 1])].map (toItem (Tryz.f80.body.getD .skip))) [(0, .pointer c), (3, .slice out_b out_l out_c)] w) (c out_b : Option Addr) (out_l out_c : Nat) (n : Int) (w : World) (h : connm_Conn_pump.B2 c out_b out_l out_c n w N1  R) :
    KW Tryz.prog 80 169 (connm_Conn_pump.RV R) ([(0, [1, 1, 1, 0, 0, 0, 0, 1, 1, 1, 1]), (1, [1]), (2, [1, 1, 1, 0, 0, 0]), (1, [0]), (0, [1, 1, 1, 1])].map (toItem (Tryz.f80.body.getD .skip))) [(0, .pointer c), (3, .slice out_b out_l out_c), (5, .int .i64 n)] w := by
  exact block_spec Tryz.func80 Tryz.mixed (stops_cons (fun σ w h => by
      obtain ⟨c_, e0, h⟩ := dP_elim h
      obtain ⟨out_b_, out_l_, out_c_, e1, h⟩ := dL_elim h
      obtain ⟨n_, e2, h⟩ := dI_elim h
      exact (connm_Conn_pump.B3_sound hN1 c_ out_b_ out_l_ out_c_ n_ w h).weaken (Sub.cons (Sub.cons (Sub.cons (Sub.nil _) e2) e1) e0)) stops_nil) (Eq.mp (connm_Conn_pump.B2_eq c out_b out_l out_c n w N1  R (fun c_ out_b_ out_l_ out_c_ n_ w => connm_Conn_pump.B3 c_ out_b_ out_l_ out_c_ n_ w N1 R)) h)
def connm_Conn_pump.B1 (c out_b : Option Addr) (out_l out_c : Nat) (lim : Int) (w : World) (N1 : Option Addr → Option Addr → Nat → Nat → World → Prop)  (R : Option Addr → Nat → Nat → World → Prop) : Prop :=
  Pn c fun a =>
  LdL (a.add 8) w.drew fun x26_b x26_l x26_c =>
  Pn c fun a_1 =>
  LdI .i64 (a_1.add 9) w.drew fun x31 =>
  Pn c fun a_2 =>
  LdI .i64 (a_2.add 9) w.drew fun x38 =>
  Bm (decide ((IntKind.i64.wrap (((x26_l : Nat) : Int) - x31)) > (IntKind.i64.wrap (lim - x38)))) (
    Pn c fun a_3 =>
    LdI .i64 (a_3.add 9) w.drew fun x45 =>
    connm_Conn_pump.B2 c out_b out_l out_c (IntKind.i64.wrap (lim - x45)) w.drew N1 R) (
    connm_Conn_pump.B2 c out_b out_l out_c (IntKind.i64.wrap (((x26_l : Nat) : Int) - x31)) w.drew N1 R)
theorem connm_Conn_pump.B1_eq (c out_b : Option Addr) (out_l out_c : Nat) (lim : Int) (w : World) (N1 : Option Addr → Option Addr → Nat → Nat → World → Prop)  (R : Option Addr → Nat → Nat → World → Prop) (sB2 : Option Addr → Option Addr → Nat → Nat → Int → World → Prop) :
    (
  Pn c fun a =>
  LdL (a.add 8) w.drew fun x26_b x26_l x26_c =>
  Pn c fun a_1 =>
  LdI .i64 (a_1.add 9) w.drew fun x31 =>
  Pn c fun a_2 =>
  LdI .i64 (a_2.add 9) w.drew fun x38 =>
  Bm (decide ((IntKind.i64.wrap (((x26_l : Nat) : Int) - x31)) > (IntKind.i64.wrap (lim - x38)))) (
    Pn c fun a_3 =>
    LdI .i64 (a_3.add 9) w.drew fun x45 =>
    sB2 c out_b out_l out_c (IntKind.i64.wrap (lim - x45)) w.drew) (
    sB2 c out_b out_l out_c (IntKind.i64.wrap (((x26_l : Nat) : Int) - x31)) w.drew)) = kstep Tryz.prog 169 Tryz.f80.results.toList (Tryz.f80.body.getD .skip) (connm_Conn_pump.RV R) (kvc Tryz.prog 169 Tryz.f80.results.toList (Tryz.f80.body.getD .skip) (connm_Conn_pump.RV R) [([(0, [1, 1, 1, 0, 0, 0, 0, 1, 1, 1, 1]), (1, [1]), (2, [1, 1, 1, 0, 0, 0]), (1, [0]), (0, [1, 1, 1, 1])], fun σ w => dP (slotOf σ 0) fun c_ => dL (slotOf σ 3) fun out_b_ out_l_ out_c_ => dI .i64 (slotOf σ 5) fun n_ => sB2 c_ out_b_ out_l_ out_c_ n_ w)] 2000) [(0, [1, 1, 1, 0, 0, 0, 0, 1, 1]), (1, [1]), (2, [1, 1, 1, 0, 0, 0]), (1, [0]), (0, [1, 1, 1, 1])] [(0, .pointer c), (3, .slice out_b out_l out_c), (4, .int .i64 lim)] w := by kernel_rfl
theorem connm_Conn_pump.B1_sound {R : Option Addr → Nat → Nat → World → Prop} {N1 : Option Addr → Option Addr → Nat → Nat → World → Prop} (hN1 : ∀ c out_b out_l out_c w, N1 c out_b out_l out_c w → KW Tryz.prog 80 169 (connm_Conn_pump.RV R) ([(0, [1, 1, 1, 0, 0, 0]), (2, [1, 1, 1, 0, 0, 0]), (1, [0]), (0, [1, 1, 1, 1])].map (toItem (Tryz.f80.body.getD .skip))) [(0, .pointer c), (3, .slice out_b out_l out_c)] w) (c out_b : Option Addr) (out_l out_c : Nat) (lim : Int) (w : World) (h : connm_Conn_pump.B1 c out_b out_l out_c lim w N1  R) :
    KW Tryz.prog 80 169 (connm_Conn_pump.RV R) ([(0, [1, 1, 1, 0, 0, 0, 0, 1, 1]), (1, [1]), (2, [1, 1, 1, 0, 0, 0]), (1, [0]), (0, [1, 1, 1, 1])].map (toItem (Tryz.f80.body.getD .skip))) [(0, .pointer c), (3, .slice out_b out_l out_c), (4, .int .i64 lim)] w := by
  exact block_spec Tryz.func80 Tryz.mixed (stops_cons (fun σ w h => by
      obtain ⟨c_, e0, h⟩ := dP_elim h
      obtain ⟨out_b_, out_l_, out_c_, e1, h⟩ := dL_elim h
      obtain ⟨n_, e2, h⟩ := dI_elim h
      exact (connm_Conn_pump.B2_sound hN1 c_ out_b_ out_l_ out_c_ n_ w h).weaken (Sub.cons (Sub.cons (Sub.cons (Sub.nil _) e2) e1) e0)) stops_nil) (Eq.mp (connm_Conn_pump.B1_eq c out_b out_l out_c lim w N1  R (fun c_ out_b_ out_l_ out_c_ n_ w => connm_Conn_pump.B2 c_ out_b_ out_l_ out_c_ n_ w N1 R)) h)
def connm_Conn_pump.L1b (c out_b : Option Addr) (out_l out_c : Nat) (w : World)  (N1 : Option Addr → Option Addr → Nat → Nat → World → Prop) (R : Option Addr → Nat → Nat → World → Prop) : Prop :=
  Pn c fun a =>
  LdI .i64 (a.add 44) w fun x20 =>
  Bm (x20 == (0 : Int)) (
    connm_Conn_pump.B1 c out_b out_l out_c (1 : Int) w N1 R) (
    connm_Conn_pump.B1 c out_b out_l out_c x20 w N1 R)
theorem connm_Conn_pump.L1b_eq (c out_b : Option Addr) (out_l out_c : Nat) (w : World)  (N1 : Option Addr → Option Addr → Nat → Nat → World → Prop) (R : Option Addr → Nat → Nat → World → Prop) (sB1 : Option Addr → Option Addr → Nat → Nat → Int → World → Prop) :
    (
  Pn c fun a =>
  LdI .i64 (a.add 44) w fun x20 =>
  Bm (x20 == (0 : Int)) (
    sB1 c out_b out_l out_c (1 : Int) w) (
    sB1 c out_b out_l out_c x20 w)) = kstep Tryz.prog 169 Tryz.f80.results.toList (Tryz.f80.body.getD .skip) (connm_Conn_pump.RV R) (kvc Tryz.prog 169 Tryz.f80.results.toList (Tryz.f80.body.getD .skip) (connm_Conn_pump.RV R) [([(0, [1, 1, 1, 0, 0, 0, 0, 1, 1]), (1, [1]), (2, [1, 1, 1, 0, 0, 0]), (1, [0]), (0, [1, 1, 1, 1])], fun σ w => dP (slotOf σ 0) fun c_ => dL (slotOf σ 3) fun out_b_ out_l_ out_c_ => dI .i64 (slotOf σ 4) fun lim_ => sB1 c_ out_b_ out_l_ out_c_ lim_ w)] 2000) [(0, [1, 1, 1, 0, 0, 0]), (2, [1, 1, 1, 0, 0, 0]), (1, [0]), (0, [1, 1, 1, 1])] [(0, .pointer c), (3, .slice out_b out_l out_c)] w := by kernel_rfl
theorem connm_Conn_pump.L1b_sound {R : Option Addr → Nat → Nat → World → Prop} {N1 : Option Addr → Option Addr → Nat → Nat → World → Prop} (hN1 : ∀ c out_b out_l out_c w, N1 c out_b out_l out_c w → KW Tryz.prog 80 169 (connm_Conn_pump.RV R) ([(0, [1, 1, 1, 0, 0, 0]), (2, [1, 1, 1, 0, 0, 0]), (1, [0]), (0, [1, 1, 1, 1])].map (toItem (Tryz.f80.body.getD .skip))) [(0, .pointer c), (3, .slice out_b out_l out_c)] w) (c out_b : Option Addr) (out_l out_c : Nat) (w : World) (h : connm_Conn_pump.L1b c out_b out_l out_c w  N1 R) :
    KW Tryz.prog 80 169 (connm_Conn_pump.RV R) ([(0, [1, 1, 1, 0, 0, 0]), (2, [1, 1, 1, 0, 0, 0]), (1, [0]), (0, [1, 1, 1, 1])].map (toItem (Tryz.f80.body.getD .skip))) [(0, .pointer c), (3, .slice out_b out_l out_c)] w := by
  exact block_spec Tryz.func80 Tryz.mixed (stops_cons (fun σ w h => by
      obtain ⟨c_, e0, h⟩ := dP_elim h
      obtain ⟨out_b_, out_l_, out_c_, e1, h⟩ := dL_elim h
      obtain ⟨lim_, e2, h⟩ := dI_elim h
      exact (connm_Conn_pump.B1_sound hN1 c_ out_b_ out_l_ out_c_ lim_ w h).weaken (Sub.cons (Sub.cons (Sub.cons (Sub.nil _) e2) e1) e0)) stops_nil) (Eq.mp (connm_Conn_pump.L1b_eq c out_b out_l out_c w  N1 R (fun c_ out_b_ out_l_ out_c_ lim_ w => connm_Conn_pump.B1 c_ out_b_ out_l_ out_c_ lim_ w N1 R)) h)
def connm_Conn_pump.L1 (c out_b : Option Addr) (out_l out_c : Nat) (w : World)  (R : Option Addr → Nat → Nat → World → Prop) : Prop :=
  ∃ (I : Nat → Option Addr → Option Addr → Nat → Nat → World → Prop) (m : Nat), I m c out_b out_l out_c w ∧ ∀ m c out_b out_l out_c w, I m c out_b out_l out_c w → connm_Conn_pump.L1b c out_b out_l out_c w  (fun c' out_b' out_l' out_c' w' => ∃ m', m' < m ∧ I m' c' out_b' out_l' out_c' w') R
theorem connm_Conn_pump.L1_sound {R : Option Addr → Nat → Nat → World → Prop}  (c out_b : Option Addr) (out_l out_c : Nat) (w : World) (h : connm_Conn_pump.L1 c out_b out_l out_c w  R) :
    KW Tryz.prog 80 169 (connm_Conn_pump.RV R) ([(0, [1, 1, 1, 0, 0, 0]), (2, [1, 1, 1, 0, 0, 0]), (1, [0]), (0, [1, 1, 1, 1])].map (toItem (Tryz.f80.body.getD .skip))) [(0, .pointer c), (3, .slice out_b out_l out_c)] w := by
  obtain ⟨I, m, hBase, hr⟩ := h
  refine KW.loop (fun m σ w => ∃ (c out_b : Option Addr) (out_l out_c : Nat), σ = [(0, .pointer c), (3, .slice out_b out_l out_c)] ∧ I m c out_b out_l out_c w) ?_ m _ w ⟨c, out_b, out_l, out_c, rfl, hBase⟩
  rintro m ih σ w ⟨c, out_b, out_l, out_c, rfl, hI⟩
  exact connm_Conn_pump.L1b_sound  (N1 := fun c' out_b' out_l' out_c' w' => ∃ m', m' < m ∧ I m' c' out_b' out_l' out_c' w') (fun c' out_b' out_l' out_c' w' hx => by obtain ⟨m', hlt, hI'⟩ := hx; exact ih m' hlt _ w' ⟨c', out_b', out_l', out_c', rfl, hI'⟩) c out_b out_l out_c w (hr m c out_b out_l out_c w hI)
def connm_Conn_pump.B0 (c : Option Addr) (w : World)   (R : Option Addr → Nat → Nat → World → Prop) : Prop :=
  New (.cells #[] 45) w fun b10 w1 =>
  Pn c fun a =>
  LdI .i64 a w1 fun x14 =>
  Bm (x14 != (3 : Int)) (
    R (some ⟨b10, 0, none⟩) 0 0 w1) (
    connm_Conn_pump.L1 c (some ⟨b10, 0, none⟩) 0 0 w1  R)
theorem connm_Conn_pump.B0_eq (c : Option Addr) (w : World)   (R : Option Addr → Nat → Nat → World → Prop) (sL1 : Option Addr → Option Addr → Nat → Nat → World → Prop) :
    (
  New (.cells #[] 45) w fun b10 w1 =>
  Pn c fun a =>
  LdI .i64 a w1 fun x14 =>
  Bm (x14 != (3 : Int)) (
    R (some ⟨b10, 0, none⟩) 0 0 w1) (
    sL1 c (some ⟨b10, 0, none⟩) 0 0 w1)) = kstep Tryz.prog 169 Tryz.f80.results.toList (Tryz.f80.body.getD .skip) (connm_Conn_pump.RV R) (kvc Tryz.prog 169 Tryz.f80.results.toList (Tryz.f80.body.getD .skip) (connm_Conn_pump.RV R) [([(0, [1, 1, 1, 0, 0, 0]), (2, [1, 1, 1, 0, 0, 0]), (1, [0]), (0, [1, 1, 1, 1])], fun σ w => dP (slotOf σ 0) fun c_ => dL (slotOf σ 3) fun out_b_ out_l_ out_c_ => sL1 c_ out_b_ out_l_ out_c_ w)] 2000) [(0, [])] [(0, .pointer c)] w := by kernel_rfl
theorem connm_Conn_pump.B0_sound {R : Option Addr → Nat → Nat → World → Prop}  (c : Option Addr) (w : World) (h : connm_Conn_pump.B0 c w   R) :
    KW Tryz.prog 80 169 (connm_Conn_pump.RV R) ([(0, [])].map (toItem (Tryz.f80.body.getD .skip))) [(0, .pointer c)] w := by
  exact block_spec Tryz.func80 Tryz.mixed (stops_cons (fun σ w h => by
      obtain ⟨c_, e0, h⟩ := dP_elim h
      obtain ⟨out_b_, out_l_, out_c_, e1, h⟩ := dL_elim h
      exact (connm_Conn_pump.L1_sound  c_ out_b_ out_l_ out_c_ w h).weaken (Sub.cons (Sub.cons (Sub.nil _) e1) e0)) stops_nil) (Eq.mp (connm_Conn_pump.B0_eq c w   R (fun c_ out_b_ out_l_ out_c_ w => connm_Conn_pump.L1 c_ out_b_ out_l_ out_c_ w  R)) h)
theorem connm_Conn_pump.sound (c : Option Addr) (w : World) (R : Option Addr → Nat → Nat → World → Prop) (h : connm_Conn_pump.B0 c w R) : connm_Conn_pump.Call c w R := by
  have hc := calls_of_block (args := #[.pointer c]) Tryz.func80 (body := (Tryz.f80.body.getD .skip)) (by kernel_rfl) (by kernel_rfl) (args_slot _) (connm_Conn_pump.B0_sound c w h)
  exact hc.mono fun e w' he => by
    obtain ⟨v, rfl, hv⟩ := he
    exact connm_Conn_pump.RV_elim hv
end Go.Proofs.Qxb6500422aGreat
