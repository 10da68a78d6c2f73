import Derived.Test.Qxb6500422aGreatSig
set_option maxRecDepth 100000
set_option linter.unusedVariables false
open Go.Vc
namespace Go.Proofs.Qxb6500422aGreat
def conn_Conn_inSync.B1 (c none0_b : Option Addr) (none0_l none0_c : Nat) (t31 : Bool) (w : World)   (R : Option Addr → Nat → Nat → World → Prop) : Prop :=
  Bm t31 (
    conn_Conn_fail.Call c (17 : Int) w fun w1 =>
    R none0_b none0_l none0_c w1) (
    R none0_b none0_l none0_c w)
theorem conn_Conn_inSync.B1_eq (c none0_b : Option Addr) (none0_l none0_c : Nat) (t31 : Bool) (w : World)   (R : Option Addr → Nat → Nat → World → Prop)  :
    (
  Bm t31 (
    conn_Conn_fail.Call c (17 : Int) w fun w1 =>
    R none0_b none0_l none0_c w1) (
    R none0_b none0_l none0_c w)) = kstep Tryz.prog 139 Tryz.f96.results.toList (Tryz.f96.body.getD .skip) (conn_Conn_inSync.RV R) (kvc Tryz.prog 139 Tryz.f96.results.toList (Tryz.f96.body.getD .skip) (conn_Conn_inSync.RV R) [] 2000) [(0, [1, 1, 0, 1, 0, 1, 1, 0, 1]), (0, [1, 1, 0, 1, 0, 1, 1, 1]), (0, [1, 1, 1])] [(0, .pointer c), (5, .slice none0_b none0_l none0_c), (31, .bool t31)] w := by kernel_rfl
theorem conn_Conn_inSync.B1_sound {R : Option Addr → Nat → Nat → World → Prop}  (c none0_b : Option Addr) (none0_l none0_c : Nat) (t31 : Bool) (w : World) (h : conn_Conn_inSync.B1 c none0_b none0_l none0_c t31 w   R) :
    KW Tryz.prog 96 139 (conn_Conn_inSync.RV R) ([(0, [1, 1, 0, 1, 0, 1, 1, 0, 1]), (0, [1, 1, 0, 1, 0, 1, 1, 1]), (0, [1, 1, 1])].map (toItem (Tryz.f96.body.getD .skip))) [(0, .pointer c), (5, .slice none0_b none0_l none0_c), (31, .bool t31)] w := by
  exact block_spec Tryz.func96 Tryz.mixed stops_nil (Eq.mp (conn_Conn_inSync.B1_eq c none0_b none0_l none0_c t31 w   R ) h)
def conn_Conn_inSync.B5 (c out_b : Option Addr) (out_l out_c : Nat) (t119 : Bool) (w : World)   (R : Option Addr → Nat → Nat → World → Prop) : Prop :=
  Bm t119 (
    Pn c fun a =>
    Sts [.int .i64 (4 : Int)] (a.add 2) 0 w fun w1 =>
    Pn c fun a_1 =>
    Sts [.int .i64 (10 : Int)] (a_1.add 13) 0 w1 fun w2 =>
    Pn c fun a_2 =>
    Sts [.int .i64 (0 : Int)] (a_2.add 10) 0 w2 fun w3 =>
    Pn c fun a_3 =>
    Sts [.int .i64 (0 : Int)] (a_3.add 11) 0 w3 fun w4 =>
    Pn c fun a_4 =>
    Sts [.int .i64 (0 : Int)] (a_4.add 12) 0 w4 fun w5 =>
    Pn c fun a_5 =>
    Sts [.int .i64 (0 : Int)] (a_5.add 9) 0 w5 fun w6 =>
    R out_b out_l out_c w6) (
    R out_b out_l out_c w)
theorem conn_Conn_inSync.B5_eq (c out_b : Option Addr) (out_l out_c : Nat) (t119 : Bool) (w : World)   (R : Option Addr → Nat → Nat → World → Prop)  :
    (
  Bm t119 (
    Pn c fun a =>
    Sts [.int .i64 (4 : Int)] (a.add 2) 0 w fun w1 =>
    Pn c fun a_1 =>
    Sts [.int .i64 (10 : Int)] (a_1.add 13) 0 w1 fun w2 =>
    Pn c fun a_2 =>
    Sts [.int .i64 (0 : Int)] (a_2.add 10) 0 w2 fun w3 =>
    Pn c fun a_3 =>
    Sts [.int .i64 (0 : Int)] (a_3.add 11) 0 w3 fun w4 =>
    Pn c fun a_4 =>
    Sts [.int .i64 (0 : Int)] (a_4.add 12) 0 w4 fun w5 =>
    Pn c fun a_5 =>
    Sts [.int .i64 (0 : Int)] (a_5.add 9) 0 w5 fun w6 =>
    R out_b out_l out_c w6) (
    R out_b out_l out_c w)) = kstep Tryz.prog 139 Tryz.f96.results.toList (Tryz.f96.body.getD .skip) (conn_Conn_inSync.RV R) (kvc Tryz.prog 139 Tryz.f96.results.toList (Tryz.f96.body.getD .skip) (conn_Conn_inSync.RV R) [] 2000) [(0, [1, 1, 1, 1, 1, 1, 1, 1, 1, 1, 1, 0, 1]), (0, [1, 1, 1, 1, 1, 1, 1, 1, 1, 1, 1, 1])] [(0, .pointer c), (12, .slice out_b out_l out_c), (119, .bool t119)] w := by kernel_rfl
theorem conn_Conn_inSync.B5_sound {R : Option Addr → Nat → Nat → World → Prop}  (c out_b : Option Addr) (out_l out_c : Nat) (t119 : Bool) (w : World) (h : conn_Conn_inSync.B5 c out_b out_l out_c t119 w   R) :
    KW Tryz.prog 96 139 (conn_Conn_inSync.RV R) ([(0, [1, 1, 1, 1, 1, 1, 1, 1, 1, 1, 1, 0, 1]), (0, [1, 1, 1, 1, 1, 1, 1, 1, 1, 1, 1, 1])].map (toItem (Tryz.f96.body.getD .skip))) [(0, .pointer c), (12, .slice out_b out_l out_c), (119, .bool t119)] w := by
  exact block_spec Tryz.func96 Tryz.mixed stops_nil (Eq.mp (conn_Conn_inSync.B5_eq c out_b out_l out_c t119 w   R ) h)
def conn_Conn_inSync.B4 (c out_b : Option Addr) (out_l out_c : Nat) (w : World)   (R : Option Addr → Nat → Nat → World → Prop) : Prop :=
  conn_Conn_pump.Call c w fun r106_b r106_l r106_c w1 =>
  Append 45 (.agg #[.int .i64 (0 : Int), .int .i64 (0 : Int), .int .i64 (0 : Int), .int .i64 (0 : Int), .int .i64 (0 : Int), .int .i64 (0 : Int), .slice none 0 0]) 7 72 out_b out_l out_c r106_b r106_l w1 fun b109 c109 w2 =>
  Pn c fun a =>
  LdB (a.add 6) w2 fun x113 =>
  Bm x113 (
    Pn c fun a_1 =>
    LdB (a_1.add 7) w2 fun x118 =>
    conn_Conn_inSync.B5 c b109 (out_l + r106_l) c109 x118 w2  R) (
    conn_Conn_inSync.B5 c b109 (out_l + r106_l) c109 false w2  R)
theorem conn_Conn_inSync.B4_eq (c out_b : Option Addr) (out_l out_c : Nat) (w : World)   (R : Option Addr → Nat → Nat → World → Prop) (sB5 : Option Addr → Option Addr → Nat → Nat → Bool → World → Prop) :
    (
  conn_Conn_pump.Call c w fun r106_b r106_l r106_c w1 =>
  Append 45 (.agg #[.int .i64 (0 : Int), .int .i64 (0 : Int), .int .i64 (0 : Int), .int .i64 (0 : Int), .int .i64 (0 : Int), .int .i64 (0 : Int), .slice none 0 0]) 7 72 out_b out_l out_c r106_b r106_l w1 fun b109 c109 w2 =>
  Pn c fun a =>
  LdB (a.add 6) w2 fun x113 =>
  Bm x113 (
    Pn c fun a_1 =>
    LdB (a_1.add 7) w2 fun x118 =>
    sB5 c b109 (out_l + r106_l) c109 x118 w2) (
    sB5 c b109 (out_l + r106_l) c109 false w2)) = kstep Tryz.prog 139 Tryz.f96.results.toList (Tryz.f96.body.getD .skip) (conn_Conn_inSync.RV R) (kvc Tryz.prog 139 Tryz.f96.results.toList (Tryz.f96.body.getD .skip) (conn_Conn_inSync.RV R) [([(0, [1, 1, 1, 1, 1, 1, 1, 1, 1, 1, 1, 0, 1]), (0, [1, 1, 1, 1, 1, 1, 1, 1, 1, 1, 1, 1])], fun σ w => dP (slotOf σ 0) fun c_ => dL (slotOf σ 12) fun out_b_ out_l_ out_c_ => dB (slotOf σ 119) fun t119_ => sB5 c_ out_b_ out_l_ out_c_ t119_ w)] 2000) [(0, [1, 1, 1, 1, 1, 1, 1, 1, 1])] [(0, .pointer c), (12, .slice out_b out_l out_c)] w := by kernel_rfl
theorem conn_Conn_inSync.B4_sound {R : Option Addr → Nat → Nat → World → Prop}  (c out_b : Option Addr) (out_l out_c : Nat) (w : World) (h : conn_Conn_inSync.B4 c out_b out_l out_c w   R) :
    KW Tryz.prog 96 139 (conn_Conn_inSync.RV R) ([(0, [1, 1, 1, 1, 1, 1, 1, 1, 1])].map (toItem (Tryz.f96.body.getD .skip))) [(0, .pointer c), (12, .slice out_b out_l out_c)] w := by
  exact block_spec Tryz.func96 Tryz.mixed (stops_cons (fun σ w h => by
      obtain ⟨c_, e0, h⟩ := dP_elim h
      obtain ⟨out_b_, out_l_, out_c_, e1, h⟩ := dL_elim h
      obtain ⟨t119_, e2, h⟩ := dB_elim h
      exact (conn_Conn_inSync.B5_sound  c_ out_b_ out_l_ out_c_ t119_ w h).weaken (Sub.cons (Sub.cons (Sub.cons (Sub.nil _) e2) e1) e0)) stops_nil) (Eq.mp (conn_Conn_inSync.B4_eq c out_b out_l out_c w   R (fun c_ out_b_ out_l_ out_c_ t119_ w => conn_Conn_inSync.B5 c_ out_b_ out_l_ out_c_ t119_ w  R)) h)
def conn_Conn_inSync.B3 (c : Option Addr) (s : Nat) (out_b : Option Addr) (out_l out_c : Nat) (t95 : Bool) (w : World)   (R : Option Addr → Nat → Nat → World → Prop) : Prop :=
  Bm t95 (
    LdI .i64 ⟨s, 0, none⟩ w fun x97_0 =>
    LdI .i64 ⟨s, 1, none⟩ w fun x97_1 =>
    LdI .i64 ⟨s, 2, none⟩ w fun x97_2 =>
    LdI .i64 ⟨s, 3, none⟩ w fun x97_3 =>
    LdI .i64 ⟨s, 4, none⟩ w fun x97_4 =>
    LdI .i64 ⟨s, 5, none⟩ w fun x97_5 =>
    LdL ⟨s, 6, none⟩ w fun x97_6_b x97_6_l x97_6_c =>
    conn_Conn_take.Call c x97_0 x97_1 x97_2 x97_3 x97_4 x97_5 x97_6_b x97_6_l x97_6_c w fun w1 =>
    conn_Conn_ack.Call c w1 fun r100_0 r100_1 r100_2 r100_3 r100_4 r100_5 r100_6_b r100_6_l r100_6_c w2 =>
    New (.cells #[.int .i64 (0 : Int), .int .i64 (0 : Int), .int .i64 (0 : Int), .int .i64 (0 : Int), .int .i64 (0 : Int), .int .i64 (0 : Int), .slice none 0 0] 45) w2 fun a_ w3 =>
    Sts [.int .i64 r100_0, .int .i64 r100_1, .int .i64 r100_2, .int .i64 r100_3, .int .i64 r100_4, .int .i64 r100_5, .slice r100_6_b r100_6_l r100_6_c] ⟨a_, 0, none⟩ 0 w3 fun w4 =>
    LdI .i64 ⟨a_, 0, none⟩ w4 fun x102_0 =>
    LdI .i64 ⟨a_, 1, none⟩ w4 fun x102_1 =>
    LdI .i64 ⟨a_, 2, none⟩ w4 fun x102_2 =>
    LdI .i64 ⟨a_, 3, none⟩ w4 fun x102_3 =>
    LdI .i64 ⟨a_, 4, none⟩ w4 fun x102_4 =>
    LdI .i64 ⟨a_, 5, none⟩ w4 fun x102_5 =>
    LdL ⟨a_, 6, none⟩ w4 fun x102_6_b x102_6_l x102_6_c =>
    New (.cells #[.int .i64 x102_0, .int .i64 x102_1, .int .i64 x102_2, .int .i64 x102_3, .int .i64 x102_4, .int .i64 x102_5, .slice x102_6_b x102_6_l x102_6_c] 45) w4 fun b103 w5 =>
    Append 45 (.agg #[.int .i64 (0 : Int), .int .i64 (0 : Int), .int .i64 (0 : Int), .int .i64 (0 : Int), .int .i64 (0 : Int), .int .i64 (0 : Int), .slice none 0 0]) 7 72 out_b out_l out_c (some ⟨b103, 0, none⟩) 1 w5 fun b104 c104 w6 =>
    conn_Conn_inSync.B4 c b104 (out_l + 1) c104 w6  R) (
    conn_Conn_inSync.B4 c out_b out_l out_c w  R)
theorem conn_Conn_inSync.B3_eq (c : Option Addr) (s : Nat) (out_b : Option Addr) (out_l out_c : Nat) (t95 : Bool) (w : World)   (R : Option Addr → Nat → Nat → World → Prop) (sB4 : Option Addr → Option Addr → Nat → Nat → World → Prop) :
    (
  Bm t95 (
    LdI .i64 ⟨s, 0, none⟩ w fun x97_0 =>
    LdI .i64 ⟨s, 1, none⟩ w fun x97_1 =>
    LdI .i64 ⟨s, 2, none⟩ w fun x97_2 =>
    LdI .i64 ⟨s, 3, none⟩ w fun x97_3 =>
    LdI .i64 ⟨s, 4, none⟩ w fun x97_4 =>
    LdI .i64 ⟨s, 5, none⟩ w fun x97_5 =>
    LdL ⟨s, 6, none⟩ w fun x97_6_b x97_6_l x97_6_c =>
    conn_Conn_take.Call c x97_0 x97_1 x97_2 x97_3 x97_4 x97_5 x97_6_b x97_6_l x97_6_c w fun w1 =>
    conn_Conn_ack.Call c w1 fun r100_0 r100_1 r100_2 r100_3 r100_4 r100_5 r100_6_b r100_6_l r100_6_c w2 =>
    New (.cells #[.int .i64 (0 : Int), .int .i64 (0 : Int), .int .i64 (0 : Int), .int .i64 (0 : Int), .int .i64 (0 : Int), .int .i64 (0 : Int), .slice none 0 0] 45) w2 fun a_ w3 =>
    Sts [.int .i64 r100_0, .int .i64 r100_1, .int .i64 r100_2, .int .i64 r100_3, .int .i64 r100_4, .int .i64 r100_5, .slice r100_6_b r100_6_l r100_6_c] ⟨a_, 0, none⟩ 0 w3 fun w4 =>
    LdI .i64 ⟨a_, 0, none⟩ w4 fun x102_0 =>
    LdI .i64 ⟨a_, 1, none⟩ w4 fun x102_1 =>
    LdI .i64 ⟨a_, 2, none⟩ w4 fun x102_2 =>
    LdI .i64 ⟨a_, 3, none⟩ w4 fun x102_3 =>
    LdI .i64 ⟨a_, 4, none⟩ w4 fun x102_4 =>
    LdI .i64 ⟨a_, 5, none⟩ w4 fun x102_5 =>
    LdL ⟨a_, 6, none⟩ w4 fun x102_6_b x102_6_l x102_6_c =>
    New (.cells #[.int .i64 x102_0, .int .i64 x102_1, .int .i64 x102_2, .int .i64 x102_3, .int .i64 x102_4, .int .i64 x102_5, .slice x102_6_b x102_6_l x102_6_c] 45) w4 fun b103 w5 =>
    Append 45 (.agg #[.int .i64 (0 : Int), .int .i64 (0 : Int), .int .i64 (0 : Int), .int .i64 (0 : Int), .int .i64 (0 : Int), .int .i64 (0 : Int), .slice none 0 0]) 7 72 out_b out_l out_c (some ⟨b103, 0, none⟩) 1 w5 fun b104 c104 w6 =>
    sB4 c b104 (out_l + 1) c104 w6) (
    sB4 c out_b out_l out_c w)) = kstep Tryz.prog 139 Tryz.f96.results.toList (Tryz.f96.body.getD .skip) (conn_Conn_inSync.RV R) (kvc Tryz.prog 139 Tryz.f96.results.toList (Tryz.f96.body.getD .skip) (conn_Conn_inSync.RV R) [([(0, [1, 1, 1, 1, 1, 1, 1, 1, 1])], fun σ w => dP (slotOf σ 0) fun c_ => dL (slotOf σ 12) fun out_b_ out_l_ out_c_ => sB4 c_ out_b_ out_l_ out_c_ w)] 2000) [(0, [1, 1, 1, 1, 1, 1, 1, 1, 0, 1]), (0, [1, 1, 1, 1, 1, 1, 1, 1, 1])] [(0, .pointer c), (3, .pointer (some ⟨s, 0, none⟩)), (12, .slice out_b out_l out_c), (95, .bool t95)] w := by kernel_rfl
theorem conn_Conn_inSync.B3_sound {R : Option Addr → Nat → Nat → World → Prop}  (c : Option Addr) (s : Nat) (out_b : Option Addr) (out_l out_c : Nat) (t95 : Bool) (w : World) (h : conn_Conn_inSync.B3 c s out_b out_l out_c t95 w   R) :
    KW Tryz.prog 96 139 (conn_Conn_inSync.RV R) ([(0, [1, 1, 1, 1, 1, 1, 1, 1, 0, 1]), (0, [1, 1, 1, 1, 1, 1, 1, 1, 1])].map (toItem (Tryz.f96.body.getD .skip))) [(0, .pointer c), (3, .pointer (some ⟨s, 0, none⟩)), (12, .slice out_b out_l out_c), (95, .bool t95)] w := by
  exact block_spec Tryz.func96 Tryz.mixed (stops_cons (fun σ w h => by
      obtain ⟨c_, e0, h⟩ := dP_elim h
      obtain ⟨out_b_, out_l_, out_c_, e1, h⟩ := dL_elim h
      exact (conn_Conn_inSync.B4_sound  c_ out_b_ out_l_ out_c_ w h).weaken (Sub.cons (Sub.cons (Sub.nil _) e1) e0)) stops_nil) (Eq.mp (conn_Conn_inSync.B3_eq c s out_b out_l out_c t95 w   R (fun c_ out_b_ out_l_ out_c_ w => conn_Conn_inSync.B4 c_ out_b_ out_l_ out_c_ w  R)) h)
def conn_Conn_inSync.B2 (c : Option Addr) (s : Nat) (none0_b : Option Addr) (none0_l none0_c : Nat) (w : World)   (R : Option Addr → Nat → Nat → World → Prop) : Prop :=
  LdI .i64 ⟨s, 0, none⟩ w fun x78_0 =>
  LdI .i64 ⟨s, 1, none⟩ w fun x78_1 =>
  LdI .i64 ⟨s, 2, none⟩ w fun x78_2 =>
  LdI .i64 ⟨s, 3, none⟩ w fun x78_3 =>
  LdI .i64 ⟨s, 4, none⟩ w fun x78_4 =>
  LdI .i64 ⟨s, 5, none⟩ w fun x78_5 =>
  LdL ⟨s, 6, none⟩ w fun x78_6_b x78_6_l x78_6_c =>
  conn_Conn_acked.Call c x78_0 x78_1 x78_2 x78_3 x78_4 x78_5 x78_6_b x78_6_l x78_6_c w fun r79 w1 =>
  Bm (!r79) (
    conn_Conn_ack.Call c w1 fun r82_0 r82_1 r82_2 r82_3 r82_4 r82_5 r82_6_b r82_6_l r82_6_c w2 =>
    New (.cells #[.int .i64 (0 : Int), .int .i64 (0 : Int), .int .i64 (0 : Int), .int .i64 (0 : Int), .int .i64 (0 : Int), .int .i64 (0 : Int), .slice none 0 0] 45) w2 fun a_ w3 =>
    Sts [.int .i64 r82_0, .int .i64 r82_1, .int .i64 r82_2, .int .i64 r82_3, .int .i64 r82_4, .int .i64 r82_5, .slice r82_6_b r82_6_l r82_6_c] ⟨a_, 0, none⟩ 0 w3 fun w4 =>
    LdI .i64 ⟨a_, 0, none⟩ w4 fun x83_0 =>
    LdI .i64 ⟨a_, 1, none⟩ w4 fun x83_1 =>
    LdI .i64 ⟨a_, 2, none⟩ w4 fun x83_2 =>
    LdI .i64 ⟨a_, 3, none⟩ w4 fun x83_3 =>
    LdI .i64 ⟨a_, 4, none⟩ w4 fun x83_4 =>
    LdI .i64 ⟨a_, 5, none⟩ w4 fun x83_5 =>
    LdL ⟨a_, 6, none⟩ w4 fun x83_6_b x83_6_l x83_6_c =>
    conn_one.Call x83_0 x83_1 x83_2 x83_3 x83_4 x83_5 x83_6_b x83_6_l x83_6_c w4 fun r84_b r84_l r84_c w5 =>
    R r84_b r84_l r84_c w5) (
    LdL ⟨s, 6, none⟩ w1 fun x87_b x87_l x87_c =>
    Bm (decide (((x87_l : Nat) : Int) > (0 : Int))) (
      conn_Conn_inSync.B3 c s none0_b none0_l none0_c true w1  R) (
      LdI .i64 ⟨s, 4, none⟩ w1 fun x92 =>
      conn_Conn_inSync.B3 c s none0_b none0_l none0_c ((IntKind.i64.wrap (BitVec.ofInt IntKind.i64.bits x92 &&& BitVec.ofInt IntKind.i64.bits (4 : Int)).toNat) != (0 : Int)) w1  R))
theorem conn_Conn_inSync.B2_eq (c : Option Addr) (s : Nat) (none0_b : Option Addr) (none0_l none0_c : Nat) (w : World)   (R : Option Addr → Nat → Nat → World → Prop) (sB3 : Option Addr → Nat → Option Addr → Nat → Nat → Bool → World → Prop) :
    (
  LdI .i64 ⟨s, 0, none⟩ w fun x78_0 =>
  LdI .i64 ⟨s, 1, none⟩ w fun x78_1 =>
  LdI .i64 ⟨s, 2, none⟩ w fun x78_2 =>
  LdI .i64 ⟨s, 3, none⟩ w fun x78_3 =>
  LdI .i64 ⟨s, 4, none⟩ w fun x78_4 =>
  LdI .i64 ⟨s, 5, none⟩ w fun x78_5 =>
  LdL ⟨s, 6, none⟩ w fun x78_6_b x78_6_l x78_6_c =>
  conn_Conn_acked.Call c x78_0 x78_1 x78_2 x78_3 x78_4 x78_5 x78_6_b x78_6_l x78_6_c w fun r79 w1 =>
  Bm (!r79) (
    conn_Conn_ack.Call c w1 fun r82_0 r82_1 r82_2 r82_3 r82_4 r82_5 r82_6_b r82_6_l r82_6_c w2 =>
    New (.cells #[.int .i64 (0 : Int), .int .i64 (0 : Int), .int .i64 (0 : Int), .int .i64 (0 : Int), .int .i64 (0 : Int), .int .i64 (0 : Int), .slice none 0 0] 45) w2 fun a_ w3 =>
    Sts [.int .i64 r82_0, .int .i64 r82_1, .int .i64 r82_2, .int .i64 r82_3, .int .i64 r82_4, .int .i64 r82_5, .slice r82_6_b r82_6_l r82_6_c] ⟨a_, 0, none⟩ 0 w3 fun w4 =>
    LdI .i64 ⟨a_, 0, none⟩ w4 fun x83_0 =>
    LdI .i64 ⟨a_, 1, none⟩ w4 fun x83_1 =>
    LdI .i64 ⟨a_, 2, none⟩ w4 fun x83_2 =>
    LdI .i64 ⟨a_, 3, none⟩ w4 fun x83_3 =>
    LdI .i64 ⟨a_, 4, none⟩ w4 fun x83_4 =>
    LdI .i64 ⟨a_, 5, none⟩ w4 fun x83_5 =>
    LdL ⟨a_, 6, none⟩ w4 fun x83_6_b x83_6_l x83_6_c =>
    conn_one.Call x83_0 x83_1 x83_2 x83_3 x83_4 x83_5 x83_6_b x83_6_l x83_6_c w4 fun r84_b r84_l r84_c w5 =>
    R r84_b r84_l r84_c w5) (
    LdL ⟨s, 6, none⟩ w1 fun x87_b x87_l x87_c =>
    Bm (decide (((x87_l : Nat) : Int) > (0 : Int))) (
      sB3 c s none0_b none0_l none0_c true w1) (
      LdI .i64 ⟨s, 4, none⟩ w1 fun x92 =>
      sB3 c s none0_b none0_l none0_c ((IntKind.i64.wrap (BitVec.ofInt IntKind.i64.bits x92 &&& BitVec.ofInt IntKind.i64.bits (4 : Int)).toNat) != (0 : Int)) w1))) = kstep Tryz.prog 139 Tryz.f96.results.toList (Tryz.f96.body.getD .skip) (conn_Conn_inSync.RV R) (kvc Tryz.prog 139 Tryz.f96.results.toList (Tryz.f96.body.getD .skip) (conn_Conn_inSync.RV R) [([(0, [1, 1, 1, 1, 1, 1, 1, 1, 0, 1]), (0, [1, 1, 1, 1, 1, 1, 1, 1, 1])], fun σ w => dP (slotOf σ 0) fun c_ => dK (slotOf σ 3) fun s_ => dL (slotOf σ 12) fun out_b_ out_l_ out_c_ => dB (slotOf σ 95) fun t95_ => sB3 c_ s_ out_b_ out_l_ out_c_ t95_ w)] 2000) [(0, [1, 1, 1, 1, 1, 1])] [(0, .pointer c), (3, .pointer (some ⟨s, 0, none⟩)), (5, .slice none0_b none0_l none0_c)] w := by kernel_rfl
theorem conn_Conn_inSync.B2_sound {R : Option Addr → Nat → Nat → World → Prop}  (c : Option Addr) (s : Nat) (none0_b : Option Addr) (none0_l none0_c : Nat) (w : World) (h : conn_Conn_inSync.B2 c s none0_b none0_l none0_c w   R) :
    KW Tryz.prog 96 139 (conn_Conn_inSync.RV R) ([(0, [1, 1, 1, 1, 1, 1])].map (toItem (Tryz.f96.body.getD .skip))) [(0, .pointer c), (3, .pointer (some ⟨s, 0, none⟩)), (5, .slice none0_b none0_l none0_c)] w := by
  exact block_spec Tryz.func96 Tryz.mixed (stops_cons (fun σ w h => by
      obtain ⟨c_, e0, h⟩ := dP_elim h
      obtain ⟨s_, e1, h⟩ := dK_elim h
      obtain ⟨out_b_, out_l_, out_c_, e2, h⟩ := dL_elim h
      obtain ⟨t95_, e3, h⟩ := dB_elim h
      exact (conn_Conn_inSync.B3_sound  c_ s_ out_b_ out_l_ out_c_ t95_ w h).weaken (Sub.cons (Sub.cons (Sub.cons (Sub.cons (Sub.nil _) e3) e2) e1) e0)) stops_nil) (Eq.mp (conn_Conn_inSync.B2_eq c s none0_b none0_l none0_c w   R (fun c_ s_ out_b_ out_l_ out_c_ t95_ w => conn_Conn_inSync.B3 c_ s_ out_b_ out_l_ out_c_ t95_ w  R)) h)
def conn_Conn_inSync.B0 (c : Option Addr) (s_0 s_1 s_2 s_3 s_4 s_5 : Int) (s_6_b : Option Addr) (s_6_l s_6_c : Nat) (w : World)   (R : Option Addr → Nat → Nat → World → Prop) : Prop :=
  New (.cells #[.int .i64 s_0, .int .i64 s_1, .int .i64 s_2, .int .i64 s_3, .int .i64 s_4, .int .i64 s_5, .slice s_6_b s_6_l s_6_c] 45) w fun s_ w1 =>
  New (.cells #[] 45) w1 fun b15 w2 =>
  LdI .i64 ⟨s_, 4, none⟩ w2 fun x17 =>
  Bm ((IntKind.i64.wrap (BitVec.ofInt IntKind.i64.bits x17 &&& BitVec.ofInt IntKind.i64.bits (8 : Int)).toNat) != (0 : Int)) (
    conn_Conn_rcvNxt.Call c w2 fun r21 w3 =>
    LdI .i64 ⟨s_, 2, none⟩ w3 fun x23 =>
    api_SeqDiff.Call x23 r21 w3 fun r25 w4 =>
    Bm (decide (r25 ≥ (0 : Int))) (
      conn_Conn_inSync.B1 c (some ⟨b15, 0, none⟩) 0 0 (decide (r25 ≤ (17 : Int))) w4  R) (
      conn_Conn_inSync.B1 c (some ⟨b15, 0, none⟩) 0 0 false w4  R)) (
    LdI .i64 ⟨s_, 4, none⟩ w2 fun x36 =>
    Bm ((IntKind.i64.wrap (BitVec.ofInt IntKind.i64.bits x36 &&& BitVec.ofInt IntKind.i64.bits (1 : Int)).toNat) != (0 : Int)) (
      Pn c fun a =>
      LdI .i64 (a.add 2) w2 fun x42 =>
      Bm (x42 == (2 : Int)) (
        conn_Conn_again.Call c w2 fun r45_0 r45_1 r45_2 r45_3 r45_4 r45_5 r45_6_b r45_6_l r45_6_c w5 =>
        New (.cells #[.int .i64 (0 : Int), .int .i64 (0 : Int), .int .i64 (0 : Int), .int .i64 (0 : Int), .int .i64 (0 : Int), .int .i64 (0 : Int), .slice none 0 0] 45) w5 fun a_ w6 =>
        Sts [.int .i64 r45_0, .int .i64 r45_1, .int .i64 r45_2, .int .i64 r45_3, .int .i64 r45_4, .int .i64 r45_5, .slice r45_6_b r45_6_l r45_6_c] ⟨a_, 0, none⟩ 0 w6 fun w7 =>
        LdI .i64 ⟨a_, 0, none⟩ w7 fun x46_0 =>
        LdI .i64 ⟨a_, 1, none⟩ w7 fun x46_1 =>
        LdI .i64 ⟨a_, 2, none⟩ w7 fun x46_2 =>
        LdI .i64 ⟨a_, 3, none⟩ w7 fun x46_3 =>
        LdI .i64 ⟨a_, 4, none⟩ w7 fun x46_4 =>
        LdI .i64 ⟨a_, 5, none⟩ w7 fun x46_5 =>
        LdL ⟨a_, 6, none⟩ w7 fun x46_6_b x46_6_l x46_6_c =>
        conn_one.Call x46_0 x46_1 x46_2 x46_3 x46_4 x46_5 x46_6_b x46_6_l x46_6_c w7 fun r47_b r47_l r47_c w8 =>
        R r47_b r47_l r47_c w8) (
        conn_Conn_ack.Call c w2 fun r49_0 r49_1 r49_2 r49_3 r49_4 r49_5 r49_6_b r49_6_l r49_6_c w9 =>
        New (.cells #[.int .i64 (0 : Int), .int .i64 (0 : Int), .int .i64 (0 : Int), .int .i64 (0 : Int), .int .i64 (0 : Int), .int .i64 (0 : Int), .slice none 0 0] 45) w9 fun a__1 w10 =>
        Sts [.int .i64 r49_0, .int .i64 r49_1, .int .i64 r49_2, .int .i64 r49_3, .int .i64 r49_4, .int .i64 r49_5, .slice r49_6_b r49_6_l r49_6_c] ⟨a__1, 0, none⟩ 0 w10 fun w11 =>
        LdI .i64 ⟨a__1, 0, none⟩ w11 fun x50_0 =>
        LdI .i64 ⟨a__1, 1, none⟩ w11 fun x50_1 =>
        LdI .i64 ⟨a__1, 2, none⟩ w11 fun x50_2 =>
        LdI .i64 ⟨a__1, 3, none⟩ w11 fun x50_3 =>
        LdI .i64 ⟨a__1, 4, none⟩ w11 fun x50_4 =>
        LdI .i64 ⟨a__1, 5, none⟩ w11 fun x50_5 =>
        LdL ⟨a__1, 6, none⟩ w11 fun x50_6_b x50_6_l x50_6_c =>
        conn_one.Call x50_0 x50_1 x50_2 x50_3 x50_4 x50_5 x50_6_b x50_6_l x50_6_c w11 fun r51_b r51_l r51_c w12 =>
        R r51_b r51_l r51_c w12)) (
      LdI .i64 ⟨s_, 4, none⟩ w2 fun x53 =>
      Bm ((IntKind.i64.wrap (BitVec.ofInt IntKind.i64.bits x53 &&& BitVec.ofInt IntKind.i64.bits (2 : Int)).toNat) == (0 : Int)) (
        R (some ⟨b15, 0, none⟩) 0 0 w2) (
        Pn c fun a_1 =>
        LdI .i64 (a_1.add 2) w2 fun x60 =>
        Bm (x60 == (2 : Int)) (
          LdI .i64 ⟨s_, 3, none⟩ w2.drew fun x63 =>
          Pn c fun a_2 =>
          LdI .i64 (a_2.add 8) w2.drew fun x67 =>
          api_SeqAdd.Call x67 (1 : Int) w2.drew fun r68 w13 =>
          w13.cell? ⟨s_, 3, none⟩ = some (.int .i64 x63) ∧
          Bm (x63 != r68) (
            LdI .i64 ⟨s_, 3, none⟩ w13 fun x71 =>
            conn_rst.Call x71 w13 fun r72_0 r72_1 r72_2 r72_3 r72_4 r72_5 r72_6_b r72_6_l r72_6_c w14 =>
            New (.cells #[.int .i64 (0 : Int), .int .i64 (0 : Int), .int .i64 (0 : Int), .int .i64 (0 : Int), .int .i64 (0 : Int), .int .i64 (0 : Int), .slice none 0 0] 45) w14 fun r_ w15 =>
            Sts [.int .i64 r72_0, .int .i64 r72_1, .int .i64 r72_2, .int .i64 r72_3, .int .i64 r72_4, .int .i64 r72_5, .slice r72_6_b r72_6_l r72_6_c] ⟨r_, 0, none⟩ 0 w15 fun w16 =>
            LdI .i64 ⟨r_, 0, none⟩ w16 fun x73_0 =>
            LdI .i64 ⟨r_, 1, none⟩ w16 fun x73_1 =>
            LdI .i64 ⟨r_, 2, none⟩ w16 fun x73_2 =>
            LdI .i64 ⟨r_, 3, none⟩ w16 fun x73_3 =>
            LdI .i64 ⟨r_, 4, none⟩ w16 fun x73_4 =>
            LdI .i64 ⟨r_, 5, none⟩ w16 fun x73_5 =>
            LdL ⟨r_, 6, none⟩ w16 fun x73_6_b x73_6_l x73_6_c =>
            conn_one.Call x73_0 x73_1 x73_2 x73_3 x73_4 x73_5 x73_6_b x73_6_l x73_6_c w16 fun r74_b r74_l r74_c w17 =>
            R r74_b r74_l r74_c w17) (
            conn_Conn_opened.Call c w13 fun w18 =>
            conn_Conn_inSync.B2 c s_ (some ⟨b15, 0, none⟩) 0 0 w18  R)) (
          conn_Conn_inSync.B2 c s_ (some ⟨b15, 0, none⟩) 0 0 w2  R))))
theorem conn_Conn_inSync.B0_eq (c : Option Addr) (s_0 s_1 s_2 s_3 s_4 s_5 : Int) (s_6_b : Option Addr) (s_6_l s_6_c : Nat) (w : World)   (R : Option Addr → Nat → Nat → World → Prop) (sB1 : Option Addr → Option Addr → Nat → Nat → Bool → World → Prop) (sB2 : Option Addr → Nat → Option Addr → Nat → Nat → World → Prop) :
    (
  New (.cells #[.int .i64 s_0, .int .i64 s_1, .int .i64 s_2, .int .i64 s_3, .int .i64 s_4, .int .i64 s_5, .slice s_6_b s_6_l s_6_c] 45) w fun s_ w1 =>
  New (.cells #[] 45) w1 fun b15 w2 =>
  LdI .i64 ⟨s_, 4, none⟩ w2 fun x17 =>
  Bm ((IntKind.i64.wrap (BitVec.ofInt IntKind.i64.bits x17 &&& BitVec.ofInt IntKind.i64.bits (8 : Int)).toNat) != (0 : Int)) (
    conn_Conn_rcvNxt.Call c w2 fun r21 w3 =>
    LdI .i64 ⟨s_, 2, none⟩ w3 fun x23 =>
    api_SeqDiff.Call x23 r21 w3 fun r25 w4 =>
    Bm (decide (r25 ≥ (0 : Int))) (
      sB1 c (some ⟨b15, 0, none⟩) 0 0 (decide (r25 ≤ (17 : Int))) w4) (
      sB1 c (some ⟨b15, 0, none⟩) 0 0 false w4)) (
    LdI .i64 ⟨s_, 4, none⟩ w2 fun x36 =>
    Bm ((IntKind.i64.wrap (BitVec.ofInt IntKind.i64.bits x36 &&& BitVec.ofInt IntKind.i64.bits (1 : Int)).toNat) != (0 : Int)) (
      Pn c fun a =>
      LdI .i64 (a.add 2) w2 fun x42 =>
      Bm (x42 == (2 : Int)) (
        conn_Conn_again.Call c w2 fun r45_0 r45_1 r45_2 r45_3 r45_4 r45_5 r45_6_b r45_6_l r45_6_c w5 =>
        New (.cells #[.int .i64 (0 : Int), .int .i64 (0 : Int), .int .i64 (0 : Int), .int .i64 (0 : Int), .int .i64 (0 : Int), .int .i64 (0 : Int), .slice none 0 0] 45) w5 fun a_ w6 =>
        Sts [.int .i64 r45_0, .int .i64 r45_1, .int .i64 r45_2, .int .i64 r45_3, .int .i64 r45_4, .int .i64 r45_5, .slice r45_6_b r45_6_l r45_6_c] ⟨a_, 0, none⟩ 0 w6 fun w7 =>
        LdI .i64 ⟨a_, 0, none⟩ w7 fun x46_0 =>
        LdI .i64 ⟨a_, 1, none⟩ w7 fun x46_1 =>
        LdI .i64 ⟨a_, 2, none⟩ w7 fun x46_2 =>
        LdI .i64 ⟨a_, 3, none⟩ w7 fun x46_3 =>
        LdI .i64 ⟨a_, 4, none⟩ w7 fun x46_4 =>
        LdI .i64 ⟨a_, 5, none⟩ w7 fun x46_5 =>
        LdL ⟨a_, 6, none⟩ w7 fun x46_6_b x46_6_l x46_6_c =>
        conn_one.Call x46_0 x46_1 x46_2 x46_3 x46_4 x46_5 x46_6_b x46_6_l x46_6_c w7 fun r47_b r47_l r47_c w8 =>
        R r47_b r47_l r47_c w8) (
        conn_Conn_ack.Call c w2 fun r49_0 r49_1 r49_2 r49_3 r49_4 r49_5 r49_6_b r49_6_l r49_6_c w9 =>
        New (.cells #[.int .i64 (0 : Int), .int .i64 (0 : Int), .int .i64 (0 : Int), .int .i64 (0 : Int), .int .i64 (0 : Int), .int .i64 (0 : Int), .slice none 0 0] 45) w9 fun a__1 w10 =>
        Sts [.int .i64 r49_0, .int .i64 r49_1, .int .i64 r49_2, .int .i64 r49_3, .int .i64 r49_4, .int .i64 r49_5, .slice r49_6_b r49_6_l r49_6_c] ⟨a__1, 0, none⟩ 0 w10 fun w11 =>
        LdI .i64 ⟨a__1, 0, none⟩ w11 fun x50_0 =>
        LdI .i64 ⟨a__1, 1, none⟩ w11 fun x50_1 =>
        LdI .i64 ⟨a__1, 2, none⟩ w11 fun x50_2 =>
        LdI .i64 ⟨a__1, 3, none⟩ w11 fun x50_3 =>
        LdI .i64 ⟨a__1, 4, none⟩ w11 fun x50_4 =>
        LdI .i64 ⟨a__1, 5, none⟩ w11 fun x50_5 =>
        LdL ⟨a__1, 6, none⟩ w11 fun x50_6_b x50_6_l x50_6_c =>
        conn_one.Call x50_0 x50_1 x50_2 x50_3 x50_4 x50_5 x50_6_b x50_6_l x50_6_c w11 fun r51_b r51_l r51_c w12 =>
        R r51_b r51_l r51_c w12)) (
      LdI .i64 ⟨s_, 4, none⟩ w2 fun x53 =>
      Bm ((IntKind.i64.wrap (BitVec.ofInt IntKind.i64.bits x53 &&& BitVec.ofInt IntKind.i64.bits (2 : Int)).toNat) == (0 : Int)) (
        R (some ⟨b15, 0, none⟩) 0 0 w2) (
        Pn c fun a_1 =>
        LdI .i64 (a_1.add 2) w2 fun x60 =>
        Bm (x60 == (2 : Int)) (
          LdI .i64 ⟨s_, 3, none⟩ w2.drew fun x63 =>
          Pn c fun a_2 =>
          LdI .i64 (a_2.add 8) w2.drew fun x67 =>
          api_SeqAdd.Call x67 (1 : Int) w2.drew fun r68 w13 =>
          w13.cell? ⟨s_, 3, none⟩ = some (.int .i64 x63) ∧
          Bm (x63 != r68) (
            LdI .i64 ⟨s_, 3, none⟩ w13 fun x71 =>
            conn_rst.Call x71 w13 fun r72_0 r72_1 r72_2 r72_3 r72_4 r72_5 r72_6_b r72_6_l r72_6_c w14 =>
            New (.cells #[.int .i64 (0 : Int), .int .i64 (0 : Int), .int .i64 (0 : Int), .int .i64 (0 : Int), .int .i64 (0 : Int), .int .i64 (0 : Int), .slice none 0 0] 45) w14 fun r_ w15 =>
            Sts [.int .i64 r72_0, .int .i64 r72_1, .int .i64 r72_2, .int .i64 r72_3, .int .i64 r72_4, .int .i64 r72_5, .slice r72_6_b r72_6_l r72_6_c] ⟨r_, 0, none⟩ 0 w15 fun w16 =>
            LdI .i64 ⟨r_, 0, none⟩ w16 fun x73_0 =>
            LdI .i64 ⟨r_, 1, none⟩ w16 fun x73_1 =>
            LdI .i64 ⟨r_, 2, none⟩ w16 fun x73_2 =>
            LdI .i64 ⟨r_, 3, none⟩ w16 fun x73_3 =>
            LdI .i64 ⟨r_, 4, none⟩ w16 fun x73_4 =>
            LdI .i64 ⟨r_, 5, none⟩ w16 fun x73_5 =>
            LdL ⟨r_, 6, none⟩ w16 fun x73_6_b x73_6_l x73_6_c =>
            conn_one.Call x73_0 x73_1 x73_2 x73_3 x73_4 x73_5 x73_6_b x73_6_l x73_6_c w16 fun r74_b r74_l r74_c w17 =>
            R r74_b r74_l r74_c w17) (
            conn_Conn_opened.Call c w13 fun w18 =>
            sB2 c s_ (some ⟨b15, 0, none⟩) 0 0 w18)) (
          sB2 c s_ (some ⟨b15, 0, none⟩) 0 0 w2))))) = kstep Tryz.prog 139 Tryz.f96.results.toList (Tryz.f96.body.getD .skip) (conn_Conn_inSync.RV R) (kvc Tryz.prog 139 Tryz.f96.results.toList (Tryz.f96.body.getD .skip) (conn_Conn_inSync.RV R) [([(0, [1, 1, 0, 1, 0, 1, 1, 0, 1]), (0, [1, 1, 0, 1, 0, 1, 1, 1]), (0, [1, 1, 1])], fun σ w => dP (slotOf σ 0) fun c_ => dL (slotOf σ 5) fun none0_b_ none0_l_ none0_c_ => dB (slotOf σ 31) fun t31_ => sB1 c_ none0_b_ none0_l_ none0_c_ t31_ w),
    ([(0, [1, 1, 1, 1, 1, 1])], fun σ w => dP (slotOf σ 0) fun c_ => dK (slotOf σ 3) fun s_ => dL (slotOf σ 5) fun none0_b_ none0_l_ none0_c_ => sB2 c_ s_ none0_b_ none0_l_ none0_c_ w)] 2000) [(0, [])] [(0, .pointer c), (1, .agg #[.int .i64 s_0, .int .i64 s_1, .int .i64 s_2, .int .i64 s_3, .int .i64 s_4, .int .i64 s_5, .slice s_6_b s_6_l s_6_c])] w := by kernel_rfl
theorem conn_Conn_inSync.B0_sound {R : Option Addr → Nat → Nat → World → Prop}  (c : Option Addr) (s_0 s_1 s_2 s_3 s_4 s_5 : Int) (s_6_b : Option Addr) (s_6_l s_6_c : Nat) (w : World) (h : conn_Conn_inSync.B0 c s_0 s_1 s_2 s_3 s_4 s_5 s_6_b s_6_l s_6_c w   R) :
    KW Tryz.prog 96 139 (conn_Conn_inSync.RV R) ([(0, [])].map (toItem (Tryz.f96.body.getD .skip))) [(0, .pointer c), (1, .agg #[.int .i64 s_0, .int .i64 s_1, .int .i64 s_2, .int .i64 s_3, .int .i64 s_4, .int .i64 s_5, .slice s_6_b s_6_l s_6_c])] w := by
  exact block_spec Tryz.func96 Tryz.mixed (stops_cons (fun σ w h => by
      obtain ⟨c_, e0, h⟩ := dP_elim h
      obtain ⟨none0_b_, none0_l_, none0_c_, e1, h⟩ := dL_elim h
      obtain ⟨t31_, e2, h⟩ := dB_elim h
      exact (conn_Conn_inSync.B1_sound  c_ none0_b_ none0_l_ none0_c_ t31_ w h).weaken (Sub.cons (Sub.cons (Sub.cons (Sub.nil _) e2) e1) e0)) (stops_cons (fun σ w h => by
      obtain ⟨c_, e0, h⟩ := dP_elim h
      obtain ⟨s_, e1, h⟩ := dK_elim h
      obtain ⟨none0_b_, none0_l_, none0_c_, e2, h⟩ := dL_elim h
      exact (conn_Conn_inSync.B2_sound  c_ s_ none0_b_ none0_l_ none0_c_ w h).weaken (Sub.cons (Sub.cons (Sub.cons (Sub.nil _) e2) e1) e0)) stops_nil)) (Eq.mp (conn_Conn_inSync.B0_eq c s_0 s_1 s_2 s_3 s_4 s_5 s_6_b s_6_l s_6_c w   R (fun c_ none0_b_ none0_l_ none0_c_ t31_ w => conn_Conn_inSync.B1 c_ none0_b_ none0_l_ none0_c_ t31_ w  R) (fun c_ s_ none0_b_ none0_l_ none0_c_ w => conn_Conn_inSync.B2 c_ s_ none0_b_ none0_l_ none0_c_ w  R)) h)
theorem conn_Conn_inSync.sound (c : Option Addr) (s_0 s_1 s_2 s_3 s_4 s_5 : Int) (s_6_b : Option Addr) (s_6_l s_6_c : Nat) (w : World) (R : Option Addr → Nat → Nat → World → Prop) (h : conn_Conn_inSync.B0 c s_0 s_1 s_2 s_3 s_4 s_5 s_6_b s_6_l s_6_c w R) : conn_Conn_inSync.Call c s_0 s_1 s_2 s_3 s_4 s_5 s_6_b s_6_l s_6_c w R := by
  have hc := calls_of_block (args := #[.pointer c, .agg #[.int .i64 s_0, .int .i64 s_1, .int .i64 s_2, .int .i64 s_3, .int .i64 s_4, .int .i64 s_5, .slice s_6_b s_6_l s_6_c]]) Tryz.func96 (body := (Tryz.f96.body.getD .skip)) (by kernel_rfl) (by kernel_rfl) (args_slot _) (conn_Conn_inSync.B0_sound c s_0 s_1 s_2 s_3 s_4 s_5 s_6_b s_6_l s_6_c w h)
  exact hc.mono fun e w' he => by
    obtain ⟨v, rfl, hv⟩ := he
    exact conn_Conn_inSync.RV_elim hv
def connm_wnd.B0 (w0 : Int) (w : World)   (R : Int → World → Prop) : Prop :=
  Bm (decide (w0 < (0 : Int))) (
    R (0 : Int) w) (
    Bm (decide (w0 > (255 : Int))) (
      R (255 : Int) w) (
      R w0 w))
theorem connm_wnd.B0_eq (w0 : Int) (w : World)   (R : Int → World → Prop)  :
    (
  Bm (decide (w0 < (0 : Int))) (
    R (0 : Int) w) (
    Bm (decide (w0 > (255 : Int))) (
      R (255 : Int) w) (
      R w0 w))) = kstep Tryz.prog 8 Tryz.f97.results.toList (Tryz.f97.body.getD .skip) (connm_wnd.RV R) (kvc Tryz.prog 8 Tryz.f97.results.toList (Tryz.f97.body.getD .skip) (connm_wnd.RV R) [] 2000) [(0, [])] [(0, .int .i64 w0)] w := by kernel_rfl
theorem connm_wnd.B0_sound {R : Int → World → Prop}  (w0 : Int) (w : World) (h : connm_wnd.B0 w0 w   R) :
    KW Tryz.prog 97 8 (connm_wnd.RV R) ([(0, [])].map (toItem (Tryz.f97.body.getD .skip))) [(0, .int .i64 w0)] w := by
  exact block_spec Tryz.func97 Tryz.mixed stops_nil (Eq.mp (connm_wnd.B0_eq w0 w   R ) h)
theorem connm_wnd.sound (w0 : Int) (w : World) (R : Int → World → Prop) (h : connm_wnd.B0 w0 w R) : connm_wnd.Call w0 w R := by
  have hc := calls_of_block (args := #[.int .i64 w0]) Tryz.func97 (body := (Tryz.f97.body.getD .skip)) (by kernel_rfl) (by kernel_rfl) (args_slot _) (connm_wnd.B0_sound w0 w h)
  exact hc.mono fun e w' he => by
    obtain ⟨v, rfl, hv⟩ := he
    exact connm_wnd.RV_elim hv
def api_SeqDiff.B0 (a b : Int) (w : World)   (R : Int → World → Prop) : Prop :=
  (256 : Int) ≠ 0 ∧
  api_SeqAdd.Call a (IntKind.i64.wrap (0 - (b.tmod (256 : Int)))) w fun r10 w1 =>
  Bm (decide (r10 ≥ (128 : Int))) (
    R (IntKind.i64.wrap (r10 - (256 : Int))) w1) (
    R r10 w1)
theorem api_SeqDiff.B0_eq (a b : Int) (w : World)   (R : Int → World → Prop)  :
    (
  (256 : Int) ≠ 0 ∧
  api_SeqAdd.Call a (IntKind.i64.wrap (0 - (b.tmod (256 : Int)))) w fun r10 w1 =>
  Bm (decide (r10 ≥ (128 : Int))) (
    R (IntKind.i64.wrap (r10 - (256 : Int))) w1) (
    R r10 w1)) = kstep Tryz.prog 16 Tryz.f98.results.toList (Tryz.f98.body.getD .skip) (api_SeqDiff.RV R) (kvc Tryz.prog 16 Tryz.f98.results.toList (Tryz.f98.body.getD .skip) (api_SeqDiff.RV R) [] 2000) [(0, [])] [(0, .int .i64 a), (1, .int .i64 b)] w := by kernel_rfl
theorem api_SeqDiff.B0_sound {R : Int → World → Prop}  (a b : Int) (w : World) (h : api_SeqDiff.B0 a b w   R) :
    KW Tryz.prog 98 16 (api_SeqDiff.RV R) ([(0, [])].map (toItem (Tryz.f98.body.getD .skip))) [(0, .int .i64 a), (1, .int .i64 b)] w := by
  exact block_spec Tryz.func98 Tryz.mixed stops_nil (Eq.mp (api_SeqDiff.B0_eq a b w   R ) h)
theorem api_SeqDiff.sound (a b : Int) (w : World) (R : Int → World → Prop) (h : api_SeqDiff.B0 a b w R) : api_SeqDiff.Call a b w R := by
  have hc := calls_of_block (args := #[.int .i64 a, .int .i64 b]) Tryz.func98 (body := (Tryz.f98.body.getD .skip)) (by kernel_rfl) (by kernel_rfl) (args_slot _) (api_SeqDiff.B0_sound a b w h)
  exact hc.mono fun e w' he => by
    obtain ⟨v, rfl, hv⟩ := he
    exact api_SeqDiff.RV_elim hv
def connm_Conn_insert.B3 (c p_b : Option Addr) (p_l p_c : Nat) (d0 w0 i : Int) (w : World) (N1 : Option Addr → Option Addr → Nat → Nat → Int → Int → Int → World → Prop)  (R : World → Prop) : Prop :=
  N1 c p_b p_l p_c d0 w0 (IntKind.i64.wrap (i + (1 : Int))) w
theorem connm_Conn_insert.B3_eq (c p_b : Option Addr) (p_l p_c : Nat) (d0 w0 i : Int) (w : World) (N1 : Option Addr → Option Addr → Nat → Nat → Int → Int → Int → World → Prop)  (R : World → Prop)  :
    (
  N1 c p_b p_l p_c d0 w0 (IntKind.i64.wrap (i + (1 : Int))) w) = kstep Tryz.prog 133 Tryz.f99.results.toList (Tryz.f99.body.getD .skip) (connm_Conn_insert.RV R) (kvc Tryz.prog 133 Tryz.f99.results.toList (Tryz.f99.body.getD .skip) (connm_Conn_insert.RV R) [([(0, [1, 0, 1, 0, 0]), (2, [1, 0, 1, 0, 0]), (1, [0]), (0, [1, 1])], fun σ w => dP (slotOf σ 0) fun c_ => dL (slotOf σ 2) fun p_b_ p_l_ p_c_ => dI .i64 (slotOf σ 6) fun d0_ => dI .i64 (slotOf σ 7) fun w0_ => dI .i64 (slotOf σ 8) fun i_ => N1 c_ p_b_ p_l_ p_c_ d0_ w0_ i_ w)] 2000) [(0, [1, 0, 1, 0, 0, 1, 1]), (2, [1, 0, 1, 0, 0]), (1, [0]), (0, [1, 1])] [(0, .pointer c), (2, .slice p_b p_l p_c), (6, .int .i64 d0), (7, .int .i64 w0), (8, .int .i64 i)] w := by kernel_rfl
theorem connm_Conn_insert.B3_sound {R : World → Prop} {N1 : Option Addr → Option Addr → Nat → Nat → Int → Int → Int → World → Prop} (hN1 : ∀ c p_b p_l p_c d0 w0 i w, N1 c p_b p_l p_c d0 w0 i w → KW Tryz.prog 99 133 (connm_Conn_insert.RV R) ([(0, [1, 0, 1, 0, 0]), (2, [1, 0, 1, 0, 0]), (1, [0]), (0, [1, 1])].map (toItem (Tryz.f99.body.getD .skip))) [(0, .pointer c), (2, .slice p_b p_l p_c), (6, .int .i64 d0), (7, .int .i64 w0), (8, .int .i64 i)] w) (c p_b : Option Addr) (p_l p_c : Nat) (d0 w0 i : Int) (w : World) (h : connm_Conn_insert.B3 c p_b p_l p_c d0 w0 i w N1  R) :
    KW Tryz.prog 99 133 (connm_Conn_insert.RV R) ([(0, [1, 0, 1, 0, 0, 1, 1]), (2, [1, 0, 1, 0, 0]), (1, [0]), (0, [1, 1])].map (toItem (Tryz.f99.body.getD .skip))) [(0, .pointer c), (2, .slice p_b p_l p_c), (6, .int .i64 d0), (7, .int .i64 w0), (8, .int .i64 i)] w := by
  exact block_spec Tryz.func99 Tryz.mixed (stops_cons (fun σ w h => by
      obtain ⟨c_, e0, h⟩ := dP_elim h
      obtain ⟨p_b_, p_l_, p_c_, e1, h⟩ := dL_elim h
      obtain ⟨d0_, e2, h⟩ := dI_elim h
      obtain ⟨w0_, e3, h⟩ := dI_elim h
      obtain ⟨i_, e4, h⟩ := dI_elim h
      exact (hN1 c_ p_b_ p_l_ p_c_ d0_ w0_ i_ w h).weaken (Sub.cons (Sub.cons (Sub.cons (Sub.cons (Sub.cons (Sub.nil _) e4) e3) e2) e1) e0)) stops_nil) (Eq.mp (connm_Conn_insert.B3_eq c p_b p_l p_c d0 w0 i w N1  R ) h)
def connm_Conn_insert.B2 (c p_b : Option Addr) (p_l p_c : Nat) (d0 w0 i : Int) (t49 : Bool) (w : World) (N1 : Option Addr → Option Addr → Nat → Nat → Int → Int → Int → World → Prop)  (R : World → Prop) : Prop :=
  Bm t49 (
    Pn p_b fun a =>
    (0 ≤ i ∧ i < ((p_l : Nat) : Int)) ∧
    LdI .u8 (Addr.add a (i.toNat * 1)) w.drew fun x61 =>
    Pn c fun a_1 =>
    (0 ≤ (IntKind.i64.wrap (d0 + i)) ∧ (IntKind.i64.wrap (d0 + i)) < ((16 : Nat) : Int)) ∧
    Pn c fun a_2 =>
    Sts [.bool true] (Addr.add (a_1.add 12) ((IntKind.i64.wrap (d0 + i)).toNat * 1)) 0 w.drew fun w1 =>
    (0 ≤ (IntKind.i64.wrap (d0 + i)) ∧ (IntKind.i64.wrap (d0 + i)) < ((16 : Nat) : Int)) ∧
    Sts [.int .u8 x61] (Addr.add (a_2.add 28) ((IntKind.i64.wrap (d0 + i)).toNat * 1)) 0 w1 fun w2 =>
    connm_Conn_insert.B3 c p_b p_l p_c d0 w0 i w2 N1 R) (
    connm_Conn_insert.B3 c p_b p_l p_c d0 w0 i w N1 R)
theorem connm_Conn_insert.B2_eq (c p_b : Option Addr) (p_l p_c : Nat) (d0 w0 i : Int) (t49 : Bool) (w : World) (N1 : Option Addr → Option Addr → Nat → Nat → Int → Int → Int → World → Prop)  (R : World → Prop) (sB3 : Option Addr → Option Addr → Nat → Nat → Int → Int → Int → World → Prop) :
    (
  Bm t49 (
    Pn p_b fun a =>
    (0 ≤ i ∧ i < ((p_l : Nat) : Int)) ∧
    LdI .u8 (Addr.add a (i.toNat * 1)) w.drew fun x61 =>
    Pn c fun a_1 =>
    (0 ≤ (IntKind.i64.wrap (d0 + i)) ∧ (IntKind.i64.wrap (d0 + i)) < ((16 : Nat) : Int)) ∧
    Pn c fun a_2 =>
    Sts [.bool true] (Addr.add (a_1.add 12) ((IntKind.i64.wrap (d0 + i)).toNat * 1)) 0 w.drew fun w1 =>
    (0 ≤ (IntKind.i64.wrap (d0 + i)) ∧ (IntKind.i64.wrap (d0 + i)) < ((16 : Nat) : Int)) ∧
    Sts [.int .u8 x61] (Addr.add (a_2.add 28) ((IntKind.i64.wrap (d0 + i)).toNat * 1)) 0 w1 fun w2 =>
    sB3 c p_b p_l p_c d0 w0 i w2) (
    sB3 c p_b p_l p_c d0 w0 i w)) = kstep Tryz.prog 133 Tryz.f99.results.toList (Tryz.f99.body.getD .skip) (connm_Conn_insert.RV R) (kvc Tryz.prog 133 Tryz.f99.results.toList (Tryz.f99.body.getD .skip) (connm_Conn_insert.RV R) [([(0, [1, 0, 1, 0, 0, 1, 1]), (2, [1, 0, 1, 0, 0]), (1, [0]), (0, [1, 1])], fun σ w => dP (slotOf σ 0) fun c_ => dL (slotOf σ 2) fun p_b_ p_l_ p_c_ => dI .i64 (slotOf σ 6) fun d0_ => dI .i64 (slotOf σ 7) fun w0_ => dI .i64 (slotOf σ 8) fun i_ => sB3 c_ p_b_ p_l_ p_c_ d0_ w0_ i_ w)] 2000) [(0, [1, 0, 1, 0, 0, 1, 0, 0, 1]), (1, [1]), (0, [1, 0, 1, 0, 0, 1, 1]), (2, [1, 0, 1, 0, 0]), (1, [0]), (0, [1, 1])] [(0, .pointer c), (2, .slice p_b p_l p_c), (6, .int .i64 d0), (7, .int .i64 w0), (8, .int .i64 i), (49, .bool t49)] w := by kernel_rfl
theorem connm_Conn_insert.B2_sound {R : World → Prop} {N1 : Option Addr → Option Addr → Nat → Nat → Int → Int → Int → World → Prop} (hN1 : ∀ c p_b p_l p_c d0 w0 i w, N1 c p_b p_l p_c d0 w0 i w → KW Tryz.prog 99 133 (connm_Conn_insert.RV R) ([(0, [1, 0, 1, 0, 0]), (2, [1, 0, 1, 0, 0]), (1, [0]), (0, [1, 1])].map (toItem (Tryz.f99.body.getD .skip))) [(0, .pointer c), (2, .slice p_b p_l p_c), (6, .int .i64 d0), (7, .int .i64 w0), (8, .int .i64 i)] w) (c p_b : Option Addr) (p_l p_c : Nat) (d0 w0 i : Int) (t49 : Bool) (w : World) (h : connm_Conn_insert.B2 c p_b p_l p_c d0 w0 i t49 w N1  R) :
    KW Tryz.prog 99 133 (connm_Conn_insert.RV R) ([(0, [1, 0, 1, 0, 0, 1, 0, 0, 1]), (1, [1]), (0, [1, 0, 1, 0, 0, 1, 1]), (2, [1, 0, 1, 0, 0]), (1, [0]), (0, [1, 1])].map (toItem (Tryz.f99.body.getD .skip))) [(0, .pointer c), (2, .slice p_b p_l p_c), (6, .int .i64 d0), (7, .int .i64 w0), (8, .int .i64 i), (49, .bool t49)] w := by
  exact block_spec Tryz.func99 Tryz.mixed (stops_cons (fun σ w h => by
      obtain ⟨c_, e0, h⟩ := dP_elim h
      obtain ⟨p_b_, p_l_, p_c_, e1, h⟩ := dL_elim h
      obtain ⟨d0_, e2, h⟩ := dI_elim h
      obtain ⟨w0_, e3, h⟩ := dI_elim h
      obtain ⟨i_, e4, h⟩ := dI_elim h
      exact (connm_Conn_insert.B3_sound hN1 c_ p_b_ p_l_ p_c_ d0_ w0_ i_ w h).weaken (Sub.cons (Sub.cons (Sub.cons (Sub.cons (Sub.cons (Sub.nil _) e4) e3) e2) e1) e0)) stops_nil) (Eq.mp (connm_Conn_insert.B2_eq c p_b p_l p_c d0 w0 i t49 w N1  R (fun c_ p_b_ p_l_ p_c_ d0_ w0_ i_ w => connm_Conn_insert.B3 c_ p_b_ p_l_ p_c_ d0_ w0_ i_ w N1 R)) h)
def connm_Conn_insert.L3b (c : Option Addr) (d : Int) (w : World) (N2 : Option Addr → World → Prop) (N3 : Option Addr → Int → World → Prop) (R : World → Prop) : Prop :=
  Bm (decide ((IntKind.i64.wrap (d + (1 : Int))) < (16 : Int))) (
    Pn c fun a =>
    (0 ≤ (IntKind.i64.wrap (d + (1 : Int))) ∧ (IntKind.i64.wrap (d + (1 : Int))) < ((16 : Nat) : Int)) ∧
    LdB (Addr.add (a.add 12) ((IntKind.i64.wrap (d + (1 : Int))).toNat * 1)) w.drew fun x103 =>
    Pn c fun a_1 =>
    (0 ≤ (IntKind.i64.wrap (d + (1 : Int))) ∧ (IntKind.i64.wrap (d + (1 : Int))) < ((16 : Nat) : Int)) ∧
    LdI .u8 (Addr.add (a_1.add 28) ((IntKind.i64.wrap (d + (1 : Int))).toNat * 1)) w.drew fun x110 =>
    Pn c fun a_2 =>
    (0 ≤ d ∧ d < ((16 : Nat) : Int)) ∧
    Pn c fun a_3 =>
    Sts [.bool x103] (Addr.add (a_2.add 12) (d.toNat * 1)) 0 w.drew fun w1 =>
    (0 ≤ d ∧ d < ((16 : Nat) : Int)) ∧
    Sts [.int .u8 x110] (Addr.add (a_3.add 28) (d.toNat * 1)) 0 w1 fun w2 =>
    N3 c (IntKind.i64.wrap (d + (1 : Int))) w2) (
    Pn c fun a_4 =>
    (0 ≤ (15 : Int) ∧ (15 : Int) < ((16 : Nat) : Int)) ∧
    Pn c fun a_5 =>
    Sts [.bool false] ((a_4.add 12).add 15) 0 w.drew fun w3 =>
    (0 ≤ (15 : Int) ∧ (15 : Int) < ((16 : Nat) : Int)) ∧
    Sts [.int .u8 (0 : Int)] ((a_5.add 28).add 15) 0 w3 fun w4 =>
    Pn c fun a_6 =>
    LdI .i64 (a_6.add 10) w4 fun x129 =>
    api_SeqAdd.Call x129 (1 : Int) w4 fun r130 w5 =>
    Pn c fun a_7 =>
    Sts [.int .i64 r130] (a_7.add 10) 0 w5 fun w6 =>
    N2 c w6)
theorem connm_Conn_insert.L3b_eq (c : Option Addr) (d : Int) (w : World) (N2 : Option Addr → World → Prop) (N3 : Option Addr → Int → World → Prop) (R : World → Prop)  :
    (
  Bm (decide ((IntKind.i64.wrap (d + (1 : Int))) < (16 : Int))) (
    Pn c fun a =>
    (0 ≤ (IntKind.i64.wrap (d + (1 : Int))) ∧ (IntKind.i64.wrap (d + (1 : Int))) < ((16 : Nat) : Int)) ∧
    LdB (Addr.add (a.add 12) ((IntKind.i64.wrap (d + (1 : Int))).toNat * 1)) w.drew fun x103 =>
    Pn c fun a_1 =>
    (0 ≤ (IntKind.i64.wrap (d + (1 : Int))) ∧ (IntKind.i64.wrap (d + (1 : Int))) < ((16 : Nat) : Int)) ∧
    LdI .u8 (Addr.add (a_1.add 28) ((IntKind.i64.wrap (d + (1 : Int))).toNat * 1)) w.drew fun x110 =>
    Pn c fun a_2 =>
    (0 ≤ d ∧ d < ((16 : Nat) : Int)) ∧
    Pn c fun a_3 =>
    Sts [.bool x103] (Addr.add (a_2.add 12) (d.toNat * 1)) 0 w.drew fun w1 =>
    (0 ≤ d ∧ d < ((16 : Nat) : Int)) ∧
    Sts [.int .u8 x110] (Addr.add (a_3.add 28) (d.toNat * 1)) 0 w1 fun w2 =>
    N3 c (IntKind.i64.wrap (d + (1 : Int))) w2) (
    Pn c fun a_4 =>
    (0 ≤ (15 : Int) ∧ (15 : Int) < ((16 : Nat) : Int)) ∧
    Pn c fun a_5 =>
    Sts [.bool false] ((a_4.add 12).add 15) 0 w.drew fun w3 =>
    (0 ≤ (15 : Int) ∧ (15 : Int) < ((16 : Nat) : Int)) ∧
    Sts [.int .u8 (0 : Int)] ((a_5.add 28).add 15) 0 w3 fun w4 =>
    Pn c fun a_6 =>
    LdI .i64 (a_6.add 10) w4 fun x129 =>
    api_SeqAdd.Call x129 (1 : Int) w4 fun r130 w5 =>
    Pn c fun a_7 =>
    Sts [.int .i64 r130] (a_7.add 10) 0 w5 fun w6 =>
    N2 c w6)) = kstep Tryz.prog 133 Tryz.f99.results.toList (Tryz.f99.body.getD .skip) (connm_Conn_insert.RV R) (kvc Tryz.prog 133 Tryz.f99.results.toList (Tryz.f99.body.getD .skip) (connm_Conn_insert.RV R) [([(0, [1, 1, 0, 0, 1, 0, 1, 0, 1, 0, 0]), (2, [1, 1, 0, 0, 1, 0, 1, 0, 1, 0, 0]), (1, [4]), (0, [1, 1, 0, 0, 1, 0, 1, 1]), (1, [3]), (2, [1, 1, 0, 0]), (1, [2])], fun σ w => dP (slotOf σ 0) fun c_ => dI .i64 (slotOf σ 9) fun d_ => N3 c_ d_ w),
    ([(0, [1, 1, 0, 0]), (2, [1, 1, 0, 0]), (1, [2])], fun σ w => dP (slotOf σ 0) fun c_ => N2 c_ w)] 2000) [(0, [1, 1, 0, 0, 1, 0, 1, 0, 1, 0, 0]), (2, [1, 1, 0, 0, 1, 0, 1, 0, 1, 0, 0]), (1, [4]), (0, [1, 1, 0, 0, 1, 0, 1, 1]), (1, [3]), (2, [1, 1, 0, 0]), (1, [2])] [(0, .pointer c), (9, .int .i64 d)] w := by kernel_rfl
theorem connm_Conn_insert.L3b_sound {R : World → Prop} {N2 : Option Addr → World → Prop} (hN2 : ∀ c w, N2 c w → KW Tryz.prog 99 133 (connm_Conn_insert.RV R) ([(0, [1, 1, 0, 0]), (2, [1, 1, 0, 0]), (1, [2])].map (toItem (Tryz.f99.body.getD .skip))) [(0, .pointer c)] w) {N3 : Option Addr → Int → World → Prop} (hN3 : ∀ c d w, N3 c d w → KW Tryz.prog 99 133 (connm_Conn_insert.RV R) ([(0, [1, 1, 0, 0, 1, 0, 1, 0, 1, 0, 0]), (2, [1, 1, 0, 0, 1, 0, 1, 0, 1, 0, 0]), (1, [4]), (0, [1, 1, 0, 0, 1, 0, 1, 1]), (1, [3]), (2, [1, 1, 0, 0]), (1, [2])].map (toItem (Tryz.f99.body.getD .skip))) [(0, .pointer c), (9, .int .i64 d)] w) (c : Option Addr) (d : Int) (w : World) (h : connm_Conn_insert.L3b c d w N2 N3 R) :
    KW Tryz.prog 99 133 (connm_Conn_insert.RV R) ([(0, [1, 1, 0, 0, 1, 0, 1, 0, 1, 0, 0]), (2, [1, 1, 0, 0, 1, 0, 1, 0, 1, 0, 0]), (1, [4]), (0, [1, 1, 0, 0, 1, 0, 1, 1]), (1, [3]), (2, [1, 1, 0, 0]), (1, [2])].map (toItem (Tryz.f99.body.getD .skip))) [(0, .pointer c), (9, .int .i64 d)] w := by
  exact block_spec Tryz.func99 Tryz.mixed (stops_cons (fun σ w h => by
      obtain ⟨c_, e0, h⟩ := dP_elim h
      obtain ⟨d_, e1, h⟩ := dI_elim h
      exact (hN3 c_ d_ w h).weaken (Sub.cons (Sub.cons (Sub.nil _) e1) e0)) (stops_cons (fun σ w h => by
      obtain ⟨c_, e0, h⟩ := dP_elim h
      exact (hN2 c_ w h).weaken (Sub.cons (Sub.nil _) e0)) stops_nil)) (Eq.mp (connm_Conn_insert.L3b_eq c d w N2 N3 R ) h)
def connm_Conn_insert.L3 (c : Option Addr) (d : Int) (w : World) (N2 : Option Addr → World → Prop) (R : World → Prop) : Prop :=
  ∃ (I : Nat → Option Addr → Int → World → Prop) (m : Nat), I m c d w ∧ ∀ m c d w, I m c d w → connm_Conn_insert.L3b c d w N2 (fun c' d' w' => ∃ m', m' < m ∧ I m' c' d' w') R
theorem connm_Conn_insert.L3_sound {R : World → Prop} {N2 : Option Addr → World → Prop} (hN2 : ∀ c w, N2 c w → KW Tryz.prog 99 133 (connm_Conn_insert.RV R) ([(0, [1, 1, 0, 0]), (2, [1, 1, 0, 0]), (1, [2])].map (toItem (Tryz.f99.body.getD .skip))) [(0, .pointer c)] w) (c : Option Addr) (d : Int) (w : World) (h : connm_Conn_insert.L3 c d w N2 R) :
    KW Tryz.prog 99 133 (connm_Conn_insert.RV R) ([(0, [1, 1, 0, 0, 1, 0, 1, 0, 1, 0, 0]), (2, [1, 1, 0, 0, 1, 0, 1, 0, 1, 0, 0]), (1, [4]), (0, [1, 1, 0, 0, 1, 0, 1, 1]), (1, [3]), (2, [1, 1, 0, 0]), (1, [2])].map (toItem (Tryz.f99.body.getD .skip))) [(0, .pointer c), (9, .int .i64 d)] w := by
  obtain ⟨I, m, hBase, hr⟩ := h
  refine KW.loop (fun m σ w => ∃ (c : Option Addr) (d : Int), σ = [(0, .pointer c), (9, .int .i64 d)] ∧ I m c d w) ?_ m _ w ⟨c, d, rfl, hBase⟩
  rintro m ih σ w ⟨c, d, rfl, hI⟩
  exact connm_Conn_insert.L3b_sound hN2 (N3 := fun c' d' w' => ∃ m', m' < m ∧ I m' c' d' w') (fun c' d' w' hx => by obtain ⟨m', hlt, hI'⟩ := hx; exact ih m' hlt _ w' ⟨c', d', rfl, hI'⟩) c d w (hr m c d w hI)
def connm_Conn_insert.B4 (c : Option Addr) (w : World) (N2 : Option Addr → World → Prop)  (R : World → Prop) : Prop :=
  connm_Conn_insert.L3 c (0 : Int) w N2 R
theorem connm_Conn_insert.B4_eq (c : Option Addr) (w : World) (N2 : Option Addr → World → Prop)  (R : World → Prop) (sL3 : Option Addr → Int → World → Prop) :
    (
  sL3 c (0 : Int) w) = kstep Tryz.prog 133 Tryz.f99.results.toList (Tryz.f99.body.getD .skip) (connm_Conn_insert.RV R) (kvc Tryz.prog 133 Tryz.f99.results.toList (Tryz.f99.body.getD .skip) (connm_Conn_insert.RV R) [([(0, [1, 1, 0, 0, 1, 0, 1, 0, 1, 0, 0]), (2, [1, 1, 0, 0, 1, 0, 1, 0, 1, 0, 0]), (1, [4]), (0, [1, 1, 0, 0, 1, 0, 1, 1]), (1, [3]), (2, [1, 1, 0, 0]), (1, [2])], fun σ w => dP (slotOf σ 0) fun c_ => dI .i64 (slotOf σ 9) fun d_ => sL3 c_ d_ w)] 2000) [(0, [1, 1, 0, 0, 1, 0, 1]), (1, [3]), (2, [1, 1, 0, 0]), (1, [2])] [(0, .pointer c)] w := by kernel_rfl
theorem connm_Conn_insert.B4_sound {R : World → Prop} {N2 : Option Addr → World → Prop} (hN2 : ∀ c w, N2 c w → KW Tryz.prog 99 133 (connm_Conn_insert.RV R) ([(0, [1, 1, 0, 0]), (2, [1, 1, 0, 0]), (1, [2])].map (toItem (Tryz.f99.body.getD .skip))) [(0, .pointer c)] w) (c : Option Addr) (w : World) (h : connm_Conn_insert.B4 c w N2  R) :
    KW Tryz.prog 99 133 (connm_Conn_insert.RV R) ([(0, [1, 1, 0, 0, 1, 0, 1]), (1, [3]), (2, [1, 1, 0, 0]), (1, [2])].map (toItem (Tryz.f99.body.getD .skip))) [(0, .pointer c)] w := by
  exact block_spec Tryz.func99 Tryz.mixed (stops_cons (fun σ w h => by
      obtain ⟨c_, e0, h⟩ := dP_elim h
      obtain ⟨d_, e1, h⟩ := dI_elim h
      exact (connm_Conn_insert.L3_sound hN2 c_ d_ w h).weaken (Sub.cons (Sub.cons (Sub.nil _) e1) e0)) stops_nil) (Eq.mp (connm_Conn_insert.B4_eq c w N2  R (fun c_ d_ w => connm_Conn_insert.L3 c_ d_ w N2 R)) h)
def connm_Conn_insert.L2b (c : Option Addr) (w : World)  (N2 : Option Addr → World → Prop) (R : World → Prop) : Prop :=
  Pn c fun a =>
  (0 ≤ (0 : Int) ∧ (0 : Int) < ((16 : Nat) : Int)) ∧
  LdB (a.add 12) w fun x72 =>
  Bm x72 (
    Pn c fun a_1 =>
    LdL (a_1.add 11) w.drew fun x77_b x77_l x77_c =>
    Pn c fun a_2 =>
    (0 ≤ (0 : Int) ∧ (0 : Int) < ((16 : Nat) : Int)) ∧
    LdI .u8 (a_2.add 28) w.drew fun x83 =>
    ((
      api_CopyBytes.Call x77_b x77_l x77_c w.drew fun r78_b r78_l r78_c w1 =>
      w1.cell? (a_2.add 28) = some (.int .u8 x83) ∧
      New (.cells #[.int .u8 x83] 5) w1 fun b84 w2 =>
      Append 5 (.int .u8 (0 : Int)) 1 1 r78_b r78_l r78_c (some ⟨b84, 0, none⟩) 1 w2 fun b85 c85 w3 =>
      Pn c fun a_3 =>
      Sts [.slice b85 (r78_l + 1) c85] (a_3.add 11) 0 w3 fun w4 =>
      connm_Conn_insert.B4 c w4 N2 R) ∧ (
      New (.cells #[.int .u8 x83] 5) w.drew fun b84_1 w5 =>
      w5.cell? (a_1.add 11) = some (.slice x77_b x77_l x77_c) ∧
      api_CopyBytes.Call x77_b x77_l x77_c w5 fun r78_b_1 r78_l_1 r78_c_1 w6 =>
      Append 5 (.int .u8 (0 : Int)) 1 1 r78_b_1 r78_l_1 r78_c_1 (some ⟨b84_1, 0, none⟩) 1 w6 fun b85_1 c85_1 w7 =>
      Pn c fun a_4 =>
      Sts [.slice b85_1 (r78_l_1 + 1) c85_1] (a_4.add 11) 0 w7 fun w8 =>
      connm_Conn_insert.B4 c w8 N2 R))) (
    R  w)
theorem connm_Conn_insert.L2b_eq (c : Option Addr) (w : World)  (N2 : Option Addr → World → Prop) (R : World → Prop) (sB4 : Option Addr → World → Prop) :
    (
  Pn c fun a =>
  (0 ≤ (0 : Int) ∧ (0 : Int) < ((16 : Nat) : Int)) ∧
  LdB (a.add 12) w fun x72 =>
  Bm x72 (
    Pn c fun a_1 =>
    LdL (a_1.add 11) w.drew fun x77_b x77_l x77_c =>
    Pn c fun a_2 =>
    (0 ≤ (0 : Int) ∧ (0 : Int) < ((16 : Nat) : Int)) ∧
    LdI .u8 (a_2.add 28) w.drew fun x83 =>
    ((
      api_CopyBytes.Call x77_b x77_l x77_c w.drew fun r78_b r78_l r78_c w1 =>
      w1.cell? (a_2.add 28) = some (.int .u8 x83) ∧
      New (.cells #[.int .u8 x83] 5) w1 fun b84 w2 =>
      Append 5 (.int .u8 (0 : Int)) 1 1 r78_b r78_l r78_c (some ⟨b84, 0, none⟩) 1 w2 fun b85 c85 w3 =>
      Pn c fun a_3 =>
      Sts [.slice b85 (r78_l + 1) c85] (a_3.add 11) 0 w3 fun w4 =>
      sB4 c w4) ∧ (
      New (.cells #[.int .u8 x83] 5) w.drew fun b84_1 w5 =>
      w5.cell? (a_1.add 11) = some (.slice x77_b x77_l x77_c) ∧
      api_CopyBytes.Call x77_b x77_l x77_c w5 fun r78_b_1 r78_l_1 r78_c_1 w6 =>
      Append 5 (.int .u8 (0 : Int)) 1 1 r78_b_1 r78_l_1 r78_c_1 (some ⟨b84_1, 0, none⟩) 1 w6 fun b85_1 c85_1 w7 =>
      Pn c fun a_4 =>
      Sts [.slice b85_1 (r78_l_1 + 1) c85_1] (a_4.add 11) 0 w7 fun w8 =>
      sB4 c w8))) (
    R  w)) = kstep Tryz.prog 133 Tryz.f99.results.toList (Tryz.f99.body.getD .skip) (connm_Conn_insert.RV R) (kvc Tryz.prog 133 Tryz.f99.results.toList (Tryz.f99.body.getD .skip) (connm_Conn_insert.RV R) [([(0, [1, 1, 0, 0, 1, 0, 1]), (1, [3]), (2, [1, 1, 0, 0]), (1, [2])], fun σ w => dP (slotOf σ 0) fun c_ => sB4 c_ w)] 2000) [(0, [1, 1, 0, 0]), (2, [1, 1, 0, 0]), (1, [2])] [(0, .pointer c)] w := by kernel_rfl
theorem connm_Conn_insert.L2b_sound {R : World → Prop} {N2 : Option Addr → World → Prop} (hN2 : ∀ c w, N2 c w → KW Tryz.prog 99 133 (connm_Conn_insert.RV R) ([(0, [1, 1, 0, 0]), (2, [1, 1, 0, 0]), (1, [2])].map (toItem (Tryz.f99.body.getD .skip))) [(0, .pointer c)] w) (c : Option Addr) (w : World) (h : connm_Conn_insert.L2b c w  N2 R) :
    KW Tryz.prog 99 133 (connm_Conn_insert.RV R) ([(0, [1, 1, 0, 0]), (2, [1, 1, 0, 0]), (1, [2])].map (toItem (Tryz.f99.body.getD .skip))) [(0, .pointer c)] w := by
  exact block_spec Tryz.func99 Tryz.mixed (stops_cons (fun σ w h => by
      obtain ⟨c_, e0, h⟩ := dP_elim h
      exact (connm_Conn_insert.B4_sound hN2 c_ w h).weaken (Sub.cons (Sub.nil _) e0)) stops_nil) (Eq.mp (connm_Conn_insert.L2b_eq c w  N2 R (fun c_ w => connm_Conn_insert.B4 c_ w N2 R)) h)
def connm_Conn_insert.L2 (c : Option Addr) (w : World)  (R : World → Prop) : Prop :=
  ∃ (I : Nat → Option Addr → World → Prop) (m : Nat), I m c w ∧ ∀ m c w, I m c w → connm_Conn_insert.L2b c w  (fun c' w' => ∃ m', m' < m ∧ I m' c' w') R
theorem connm_Conn_insert.L2_sound {R : World → Prop}  (c : Option Addr) (w : World) (h : connm_Conn_insert.L2 c w  R) :
    KW Tryz.prog 99 133 (connm_Conn_insert.RV R) ([(0, [1, 1, 0, 0]), (2, [1, 1, 0, 0]), (1, [2])].map (toItem (Tryz.f99.body.getD .skip))) [(0, .pointer c)] w := by
  obtain ⟨I, m, hBase, hr⟩ := h
  refine KW.loop (fun m σ w => ∃ (c : Option Addr), σ = [(0, .pointer c)] ∧ I m c w) ?_ m _ w ⟨c, rfl, hBase⟩
  rintro m ih σ w ⟨c, rfl, hI⟩
  exact connm_Conn_insert.L2b_sound  (N2 := fun c' w' => ∃ m', m' < m ∧ I m' c' w') (fun c' w' hx => by obtain ⟨m', hlt, hI'⟩ := hx; exact ih m' hlt _ w' ⟨c', rfl, hI'⟩) c w (hr m c w hI)
def connm_Conn_insert.B1 (c p_b : Option Addr) (p_l p_c : Nat) (d0 w0 i : Int) (t32 : Bool) (w : World) (N1 : Option Addr → Option Addr → Nat → Nat → Int → Int → Int → World → Prop)  (R : World → Prop) : Prop :=
  Bm t32 (
    Bm (decide ((IntKind.i64.wrap (d0 + i)) ≥ (0 : Int))) (
      Pn c fun a =>
      (0 ≤ (IntKind.i64.wrap (d0 + i)) ∧ (IntKind.i64.wrap (d0 + i)) < ((16 : Nat) : Int)) ∧
      LdB (Addr.add (a.add 12) ((IntKind.i64.wrap (d0 + i)).toNat * 1)) w fun x47 =>
      connm_Conn_insert.B2 c p_b p_l p_c d0 w0 i (!x47) w N1 R) (
      connm_Conn_insert.B2 c p_b p_l p_c d0 w0 i false w N1 R)) (
    connm_Conn_insert.L2 c w  R)
theorem connm_Conn_insert.B1_eq (c p_b : Option Addr) (p_l p_c : Nat) (d0 w0 i : Int) (t32 : Bool) (w : World) (N1 : Option Addr → Option Addr → Nat → Nat → Int → Int → Int → World → Prop)  (R : World → Prop) (sB2 : Option Addr → Option Addr → Nat → Nat → Int → Int → Int → Bool → World → Prop) (sL2 : Option Addr → World → Prop) :
    (
  Bm t32 (
    Bm (decide ((IntKind.i64.wrap (d0 + i)) ≥ (0 : Int))) (
      Pn c fun a =>
      (0 ≤ (IntKind.i64.wrap (d0 + i)) ∧ (IntKind.i64.wrap (d0 + i)) < ((16 : Nat) : Int)) ∧
      LdB (Addr.add (a.add 12) ((IntKind.i64.wrap (d0 + i)).toNat * 1)) w fun x47 =>
      sB2 c p_b p_l p_c d0 w0 i (!x47) w) (
      sB2 c p_b p_l p_c d0 w0 i false w)) (
    sL2 c w)) = kstep Tryz.prog 133 Tryz.f99.results.toList (Tryz.f99.body.getD .skip) (connm_Conn_insert.RV R) (kvc Tryz.prog 133 Tryz.f99.results.toList (Tryz.f99.body.getD .skip) (connm_Conn_insert.RV R) [([(0, [1, 0, 1, 0, 0, 1, 0, 0, 1]), (1, [1]), (0, [1, 0, 1, 0, 0, 1, 1]), (2, [1, 0, 1, 0, 0]), (1, [0]), (0, [1, 1])], fun σ w => dP (slotOf σ 0) fun c_ => dL (slotOf σ 2) fun p_b_ p_l_ p_c_ => dI .i64 (slotOf σ 6) fun d0_ => dI .i64 (slotOf σ 7) fun w0_ => dI .i64 (slotOf σ 8) fun i_ => dB (slotOf σ 49) fun t49_ => sB2 c_ p_b_ p_l_ p_c_ d0_ w0_ i_ t49_ w),
    ([(0, [1, 1, 0, 0]), (2, [1, 1, 0, 0]), (1, [2])], fun σ w => dP (slotOf σ 0) fun c_ => sL2 c_ w)] 2000) [(0, [1, 0, 1, 0, 0, 0, 1]), (0, [1, 0, 1, 0, 0, 1]), (2, [1, 0, 1, 0, 0]), (1, [0]), (0, [1, 1])] [(0, .pointer c), (2, .slice p_b p_l p_c), (6, .int .i64 d0), (7, .int .i64 w0), (8, .int .i64 i), (32, .bool t32)] w := by kernel_rfl
theorem connm_Conn_insert.B1_sound {R : World → Prop} {N1 : Option Addr → Option Addr → Nat → Nat → Int → Int → Int → World → Prop} (hN1 : ∀ c p_b p_l p_c d0 w0 i w, N1 c p_b p_l p_c d0 w0 i w → KW Tryz.prog 99 133 (connm_Conn_insert.RV R) ([(0, [1, 0, 1, 0, 0]), (2, [1, 0, 1, 0, 0]), (1, [0]), (0, [1, 1])].map (toItem (Tryz.f99.body.getD .skip))) [(0, .pointer c), (2, .slice p_b p_l p_c), (6, .int .i64 d0), (7, .int .i64 w0), (8, .int .i64 i)] w) (c p_b : Option Addr) (p_l p_c : Nat) (d0 w0 i : Int) (t32 : Bool) (w : World) (h : connm_Conn_insert.B1 c p_b p_l p_c d0 w0 i t32 w N1  R) :
    KW Tryz.prog 99 133 (connm_Conn_insert.RV R) ([(0, [1, 0, 1, 0, 0, 0, 1]), (0, [1, 0, 1, 0, 0, 1]), (2, [1, 0, 1, 0, 0]), (1, [0]), (0, [1, 1])].map (toItem (Tryz.f99.body.getD .skip))) [(0, .pointer c), (2, .slice p_b p_l p_c), (6, .int .i64 d0), (7, .int .i64 w0), (8, .int .i64 i), (32, .bool t32)] w := by
  exact block_spec Tryz.func99 Tryz.mixed (stops_cons (fun σ w h => by
      obtain ⟨c_, e0, h⟩ := dP_elim h
      obtain ⟨p_b_, p_l_, p_c_, e1, h⟩ := dL_elim h
      obtain ⟨d0_, e2, h⟩ := dI_elim h
      obtain ⟨w0_, e3, h⟩ := dI_elim h
      obtain ⟨i_, e4, h⟩ := dI_elim h
      obtain ⟨t49_, e5, h⟩ := dB_elim h
      exact (connm_Conn_insert.B2_sound hN1 c_ p_b_ p_l_ p_c_ d0_ w0_ i_ t49_ w h).weaken (Sub.cons (Sub.cons (Sub.cons (Sub.cons (Sub.cons (Sub.cons (Sub.nil _) e5) e4) e3) e2) e1) e0)) (stops_cons (fun σ w h => by
      obtain ⟨c_, e0, h⟩ := dP_elim h
      exact (connm_Conn_insert.L2_sound  c_ w h).weaken (Sub.cons (Sub.nil _) e0)) stops_nil)) (Eq.mp (connm_Conn_insert.B1_eq c p_b p_l p_c d0 w0 i t32 w N1  R (fun c_ p_b_ p_l_ p_c_ d0_ w0_ i_ t49_ w => connm_Conn_insert.B2 c_ p_b_ p_l_ p_c_ d0_ w0_ i_ t49_ w N1 R) (fun c_ w => connm_Conn_insert.L2 c_ w  R)) h)
def connm_Conn_insert.L1b (c p_b : Option Addr) (p_l p_c : Nat) (d0 w0 i : Int) (w : World)  (N1 : Option Addr → Option Addr → Nat → Nat → Int → Int → Int → World → Prop) (R : World → Prop) : Prop :=
  Bm (decide (i < ((p_l : Nat) : Int))) (
    connm_Conn_insert.B1 c p_b p_l p_c d0 w0 i (decide ((IntKind.i64.wrap (d0 + i)) < w0)) w N1 R) (
    connm_Conn_insert.B1 c p_b p_l p_c d0 w0 i false w N1 R)
theorem connm_Conn_insert.L1b_eq (c p_b : Option Addr) (p_l p_c : Nat) (d0 w0 i : Int) (w : World)  (N1 : Option Addr → Option Addr → Nat → Nat → Int → Int → Int → World → Prop) (R : World → Prop) (sB1 : Option Addr → Option Addr → Nat → Nat → Int → Int → Int → Bool → World → Prop) :
    (
  Bm (decide (i < ((p_l : Nat) : Int))) (
    sB1 c p_b p_l p_c d0 w0 i (decide ((IntKind.i64.wrap (d0 + i)) < w0)) w) (
    sB1 c p_b p_l p_c d0 w0 i false w)) = kstep Tryz.prog 133 Tryz.f99.results.toList (Tryz.f99.body.getD .skip) (connm_Conn_insert.RV R) (kvc Tryz.prog 133 Tryz.f99.results.toList (Tryz.f99.body.getD .skip) (connm_Conn_insert.RV R) [([(0, [1, 0, 1, 0, 0, 0, 1]), (0, [1, 0, 1, 0, 0, 1]), (2, [1, 0, 1, 0, 0]), (1, [0]), (0, [1, 1])], fun σ w => dP (slotOf σ 0) fun c_ => dL (slotOf σ 2) fun p_b_ p_l_ p_c_ => dI .i64 (slotOf σ 6) fun d0_ => dI .i64 (slotOf σ 7) fun w0_ => dI .i64 (slotOf σ 8) fun i_ => dB (slotOf σ 32) fun t32_ => sB1 c_ p_b_ p_l_ p_c_ d0_ w0_ i_ t32_ w)] 2000) [(0, [1, 0, 1, 0, 0]), (2, [1, 0, 1, 0, 0]), (1, [0]), (0, [1, 1])] [(0, .pointer c), (2, .slice p_b p_l p_c), (6, .int .i64 d0), (7, .int .i64 w0), (8, .int .i64 i)] w := by kernel_rfl
theorem connm_Conn_insert.L1b_sound {R : World → Prop} {N1 : Option Addr → Option Addr → Nat → Nat → Int → Int → Int → World → Prop} (hN1 : ∀ c p_b p_l p_c d0 w0 i w, N1 c p_b p_l p_c d0 w0 i w → KW Tryz.prog 99 133 (connm_Conn_insert.RV R) ([(0, [1, 0, 1, 0, 0]), (2, [1, 0, 1, 0, 0]), (1, [0]), (0, [1, 1])].map (toItem (Tryz.f99.body.getD .skip))) [(0, .pointer c), (2, .slice p_b p_l p_c), (6, .int .i64 d0), (7, .int .i64 w0), (8, .int .i64 i)] w) (c p_b : Option Addr) (p_l p_c : Nat) (d0 w0 i : Int) (w : World) (h : connm_Conn_insert.L1b c p_b p_l p_c d0 w0 i w  N1 R) :
    KW Tryz.prog 99 133 (connm_Conn_insert.RV R) ([(0, [1, 0, 1, 0, 0]), (2, [1, 0, 1, 0, 0]), (1, [0]), (0, [1, 1])].map (toItem (Tryz.f99.body.getD .skip))) [(0, .pointer c), (2, .slice p_b p_l p_c), (6, .int .i64 d0), (7, .int .i64 w0), (8, .int .i64 i)] w := by
  exact block_spec Tryz.func99 Tryz.mixed (stops_cons (fun σ w h => by
      obtain ⟨c_, e0, h⟩ := dP_elim h
      obtain ⟨p_b_, p_l_, p_c_, e1, h⟩ := dL_elim h
      obtain ⟨d0_, e2, h⟩ := dI_elim h
      obtain ⟨w0_, e3, h⟩ := dI_elim h
      obtain ⟨i_, e4, h⟩ := dI_elim h
      obtain ⟨t32_, e5, h⟩ := dB_elim h
      exact (connm_Conn_insert.B1_sound hN1 c_ p_b_ p_l_ p_c_ d0_ w0_ i_ t32_ w h).weaken (Sub.cons (Sub.cons (Sub.cons (Sub.cons (Sub.cons (Sub.cons (Sub.nil _) e5) e4) e3) e2) e1) e0)) stops_nil) (Eq.mp (connm_Conn_insert.L1b_eq c p_b p_l p_c d0 w0 i w  N1 R (fun c_ p_b_ p_l_ p_c_ d0_ w0_ i_ t32_ w => connm_Conn_insert.B1 c_ p_b_ p_l_ p_c_ d0_ w0_ i_ t32_ w N1 R)) h)
def connm_Conn_insert.L1 (c p_b : Option Addr) (p_l p_c : Nat) (d0 w0 i : Int) (w : World)  (R : World → Prop) : Prop :=
  ∃ (I : Nat → Option Addr → Option Addr → Nat → Nat → Int → Int → Int → World → Prop) (m : Nat), I m c p_b p_l p_c d0 w0 i w ∧ ∀ m c p_b p_l p_c d0 w0 i w, I m c p_b p_l p_c d0 w0 i w → connm_Conn_insert.L1b c p_b p_l p_c d0 w0 i w  (fun c' p_b' p_l' p_c' d0' w0' i' w' => ∃ m', m' < m ∧ I m' c' p_b' p_l' p_c' d0' w0' i' w') R
theorem connm_Conn_insert.L1_sound {R : World → Prop}  (c p_b : Option Addr) (p_l p_c : Nat) (d0 w0 i : Int) (w : World) (h : connm_Conn_insert.L1 c p_b p_l p_c d0 w0 i w  R) :
    KW Tryz.prog 99 133 (connm_Conn_insert.RV R) ([(0, [1, 0, 1, 0, 0]), (2, [1, 0, 1, 0, 0]), (1, [0]), (0, [1, 1])].map (toItem (Tryz.f99.body.getD .skip))) [(0, .pointer c), (2, .slice p_b p_l p_c), (6, .int .i64 d0), (7, .int .i64 w0), (8, .int .i64 i)] w := by
  obtain ⟨I, m, hBase, hr⟩ := h
  refine KW.loop (fun m σ w => ∃ (c p_b : Option Addr) (p_l p_c : Nat) (d0 w0 i : Int), σ = [(0, .pointer c), (2, .slice p_b p_l p_c), (6, .int .i64 d0), (7, .int .i64 w0), (8, .int .i64 i)] ∧ I m c p_b p_l p_c d0 w0 i w) ?_ m _ w ⟨c, p_b, p_l, p_c, d0, w0, i, rfl, hBase⟩
  rintro m ih σ w ⟨c, p_b, p_l, p_c, d0, w0, i, rfl, hI⟩
  exact connm_Conn_insert.L1b_sound  (N1 := fun c' p_b' p_l' p_c' d0' w0' i' w' => ∃ m', m' < m ∧ I m' c' p_b' p_l' p_c' d0' w0' i' w') (fun c' p_b' p_l' p_c' d0' w0' i' w' hx => by obtain ⟨m', hlt, hI'⟩ := hx; exact ih m' hlt _ w' ⟨c', p_b', p_l', p_c', d0', w0', i', rfl, hI'⟩) c p_b p_l p_c d0 w0 i w (hr m c p_b p_l p_c d0 w0 i w hI)
def connm_Conn_insert.B0 (c : Option Addr) (seq : Int) (p_b : Option Addr) (p_l p_c : Nat) (w : World)   (R : World → Prop) : Prop :=
  Pn c fun a =>
  LdI .i64 (a.add 10) w.drew fun x14 =>
  Pn c fun a_1 =>
  LdL (a_1.add 11) w.drew fun x19_b x19_l x19_c =>
  api_SeqDiff.Call seq x14 w.drew fun r15 w1 =>
  w1.cell? (a_1.add 11) = some (.slice x19_b x19_l x19_c) ∧
  connm_Conn_insert.L1 c p_b p_l p_c r15 (IntKind.i64.wrap ((16 : Int) - ((x19_l : Nat) : Int))) (0 : Int) w1  R
theorem connm_Conn_insert.B0_eq (c : Option Addr) (seq : Int) (p_b : Option Addr) (p_l p_c : Nat) (w : World)   (R : World → Prop) (sL1 : Option Addr → Option Addr → Nat → Nat → Int → Int → Int → World → Prop) :
    (
  Pn c fun a =>
  LdI .i64 (a.add 10) w.drew fun x14 =>
  Pn c fun a_1 =>
  LdL (a_1.add 11) w.drew fun x19_b x19_l x19_c =>
  api_SeqDiff.Call seq x14 w.drew fun r15 w1 =>
  w1.cell? (a_1.add 11) = some (.slice x19_b x19_l x19_c) ∧
  sL1 c p_b p_l p_c r15 (IntKind.i64.wrap ((16 : Int) - ((x19_l : Nat) : Int))) (0 : Int) w1) = kstep Tryz.prog 133 Tryz.f99.results.toList (Tryz.f99.body.getD .skip) (connm_Conn_insert.RV R) (kvc Tryz.prog 133 Tryz.f99.results.toList (Tryz.f99.body.getD .skip) (connm_Conn_insert.RV R) [([(0, [1, 0, 1, 0, 0]), (2, [1, 0, 1, 0, 0]), (1, [0]), (0, [1, 1])], fun σ w => dP (slotOf σ 0) fun c_ => dL (slotOf σ 2) fun p_b_ p_l_ p_c_ => dI .i64 (slotOf σ 6) fun d0_ => dI .i64 (slotOf σ 7) fun w0_ => dI .i64 (slotOf σ 8) fun i_ => sL1 c_ p_b_ p_l_ p_c_ d0_ w0_ i_ w)] 2000) [(0, [])] [(0, .pointer c), (1, .int .i64 seq), (2, .slice p_b p_l p_c)] w := by kernel_rfl
theorem connm_Conn_insert.B0_sound {R : World → Prop}  (c : Option Addr) (seq : Int) (p_b : Option Addr) (p_l p_c : Nat) (w : World) (h : connm_Conn_insert.B0 c seq p_b p_l p_c w   R) :
    KW Tryz.prog 99 133 (connm_Conn_insert.RV R) ([(0, [])].map (toItem (Tryz.f99.body.getD .skip))) [(0, .pointer c), (1, .int .i64 seq), (2, .slice p_b p_l p_c)] w := by
  exact block_spec Tryz.func99 Tryz.mixed (stops_cons (fun σ w h => by
      obtain ⟨c_, e0, h⟩ := dP_elim h
      obtain ⟨p_b_, p_l_, p_c_, e1, h⟩ := dL_elim h
      obtain ⟨d0_, e2, h⟩ := dI_elim h
      obtain ⟨w0_, e3, h⟩ := dI_elim h
      obtain ⟨i_, e4, h⟩ := dI_elim h
      exact (connm_Conn_insert.L1_sound  c_ p_b_ p_l_ p_c_ d0_ w0_ i_ w h).weaken (Sub.cons (Sub.cons (Sub.cons (Sub.cons (Sub.cons (Sub.nil _) e4) e3) e2) e1) e0)) stops_nil) (Eq.mp (connm_Conn_insert.B0_eq c seq p_b p_l p_c w   R (fun c_ p_b_ p_l_ p_c_ d0_ w0_ i_ w => connm_Conn_insert.L1 c_ p_b_ p_l_ p_c_ d0_ w0_ i_ w  R)) h)
theorem connm_Conn_insert.sound (c : Option Addr) (seq : Int) (p_b : Option Addr) (p_l p_c : Nat) (w : World) (R : World → Prop) (h : connm_Conn_insert.B0 c seq p_b p_l p_c w R) : connm_Conn_insert.Call c seq p_b p_l p_c w R := by
  have hc := calls_of_block (args := #[.pointer c, .int .i64 seq, .slice p_b p_l p_c]) Tryz.func99 (body := (Tryz.f99.body.getD .skip)) (by kernel_rfl) (by kernel_rfl) (args_slot _) (connm_Conn_insert.B0_sound c seq p_b p_l p_c w h)
  exact hc.mono fun e w' he => by
    obtain ⟨v, rfl, hv⟩ := he
    exact connm_Conn_insert.RV_elim hv
end Go.Proofs.Qxb6500422aGreat
