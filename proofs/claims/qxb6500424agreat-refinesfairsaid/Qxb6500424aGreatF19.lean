import Derived.Test.Qxb6500424aGreatSig
set_option maxRecDepth 100000
set_option linter.unusedVariables false
open Go.Vc
namespace Go.Proofs.Qxb6500424aGreat
def conn_Conn_Recv.B1 (c got_b : Option Addr) (got_l got_c : Nat) (out_b : Option Addr) (out_l out_c : Nat) (t53 : Bool) (w : World)   (R : Option Addr → Nat → Nat → Option Addr → Nat → Nat → Int → World → Prop) : Prop :=
  Bm t53 (
    conn_Conn_ack.Call c w fun r55_0 r55_1 r55_2 r55_3 r55_4 r55_5 r55_6_b r55_6_l r55_6_c w1 =>
    New (.cells #[.int .i64 (0 : Int), .int .i64 (0 : Int), .int .i64 (0 : Int), .int .i64 (0 : Int), .int .i64 (0 : Int), .int .i64 (0 : Int), .slice none 0 0] 177) w1 fun a_ w2 =>
    Sts [.int .i64 r55_0, .int .i64 r55_1, .int .i64 r55_2, .int .i64 r55_3, .int .i64 r55_4, .int .i64 r55_5, .slice r55_6_b r55_6_l r55_6_c] ⟨a_, 0, none⟩ 0 w2 fun w3 =>
    LdI .i64 ⟨a_, 0, none⟩ w3 fun x57_0 =>
    LdI .i64 ⟨a_, 1, none⟩ w3 fun x57_1 =>
    LdI .i64 ⟨a_, 2, none⟩ w3 fun x57_2 =>
    LdI .i64 ⟨a_, 3, none⟩ w3 fun x57_3 =>
    LdI .i64 ⟨a_, 4, none⟩ w3 fun x57_4 =>
    LdI .i64 ⟨a_, 5, none⟩ w3 fun x57_5 =>
    LdL ⟨a_, 6, none⟩ w3 fun x57_6_b x57_6_l x57_6_c =>
    New (.cells #[.int .i64 x57_0, .int .i64 x57_1, .int .i64 x57_2, .int .i64 x57_3, .int .i64 x57_4, .int .i64 x57_5, .slice x57_6_b x57_6_l x57_6_c] 177) w3 fun b58 w4 =>
    Append 177 (.agg #[.int .i64 (0 : Int), .int .i64 (0 : Int), .int .i64 (0 : Int), .int .i64 (0 : Int), .int .i64 (0 : Int), .int .i64 (0 : Int), .slice none 0 0]) 7 72 out_b out_l out_c (some ⟨b58, 0, none⟩) 1 w4 fun b59 c59 w5 =>
    R got_b got_l got_c b59 (out_l + 1) c59 (0 : Int) w5) (
    R got_b got_l got_c out_b out_l out_c (0 : Int) w)
theorem conn_Conn_Recv.B1_eq (c got_b : Option Addr) (got_l got_c : Nat) (out_b : Option Addr) (out_l out_c : Nat) (t53 : Bool) (w : World)   (R : Option Addr → Nat → Nat → Option Addr → Nat → Nat → Int → World → Prop)  :
    (
  Bm t53 (
    conn_Conn_ack.Call c w fun r55_0 r55_1 r55_2 r55_3 r55_4 r55_5 r55_6_b r55_6_l r55_6_c w1 =>
    New (.cells #[.int .i64 (0 : Int), .int .i64 (0 : Int), .int .i64 (0 : Int), .int .i64 (0 : Int), .int .i64 (0 : Int), .int .i64 (0 : Int), .slice none 0 0] 177) w1 fun a_ w2 =>
    Sts [.int .i64 r55_0, .int .i64 r55_1, .int .i64 r55_2, .int .i64 r55_3, .int .i64 r55_4, .int .i64 r55_5, .slice r55_6_b r55_6_l r55_6_c] ⟨a_, 0, none⟩ 0 w2 fun w3 =>
    LdI .i64 ⟨a_, 0, none⟩ w3 fun x57_0 =>
    LdI .i64 ⟨a_, 1, none⟩ w3 fun x57_1 =>
    LdI .i64 ⟨a_, 2, none⟩ w3 fun x57_2 =>
    LdI .i64 ⟨a_, 3, none⟩ w3 fun x57_3 =>
    LdI .i64 ⟨a_, 4, none⟩ w3 fun x57_4 =>
    LdI .i64 ⟨a_, 5, none⟩ w3 fun x57_5 =>
    LdL ⟨a_, 6, none⟩ w3 fun x57_6_b x57_6_l x57_6_c =>
    New (.cells #[.int .i64 x57_0, .int .i64 x57_1, .int .i64 x57_2, .int .i64 x57_3, .int .i64 x57_4, .int .i64 x57_5, .slice x57_6_b x57_6_l x57_6_c] 177) w3 fun b58 w4 =>
    Append 177 (.agg #[.int .i64 (0 : Int), .int .i64 (0 : Int), .int .i64 (0 : Int), .int .i64 (0 : Int), .int .i64 (0 : Int), .int .i64 (0 : Int), .slice none 0 0]) 7 72 out_b out_l out_c (some ⟨b58, 0, none⟩) 1 w4 fun b59 c59 w5 =>
    R got_b got_l got_c b59 (out_l + 1) c59 (0 : Int) w5) (
    R got_b got_l got_c out_b out_l out_c (0 : Int) w)) = kstep Tryz.prog 62 Tryz.f135.results.toList (Tryz.f135.body.getD .skip) (conn_Conn_Recv.RV R) (kvc Tryz.prog 62 Tryz.f135.results.toList (Tryz.f135.body.getD .skip) (conn_Conn_Recv.RV R) [] 2000) [(0, [1, 1, 1, 1, 1, 1, 1, 0, 1]), (0, [1, 1, 1, 1, 1, 1, 1, 1])] [(0, .pointer c), (8, .slice got_b got_l got_c), (9, .slice out_b out_l out_c), (53, .bool t53)] w := by kernel_rfl
theorem conn_Conn_Recv.B1_sound {R : Option Addr → Nat → Nat → Option Addr → Nat → Nat → Int → World → Prop}  (c got_b : Option Addr) (got_l got_c : Nat) (out_b : Option Addr) (out_l out_c : Nat) (t53 : Bool) (w : World) (h : conn_Conn_Recv.B1 c got_b got_l got_c out_b out_l out_c t53 w   R) :
    KW Tryz.prog 135 62 (conn_Conn_Recv.RV R) ([(0, [1, 1, 1, 1, 1, 1, 1, 0, 1]), (0, [1, 1, 1, 1, 1, 1, 1, 1])].map (toItem (Tryz.f135.body.getD .skip))) [(0, .pointer c), (8, .slice got_b got_l got_c), (9, .slice out_b out_l out_c), (53, .bool t53)] w := by
  exact block_spec Tryz.func135 Tryz.mixed stops_nil (Eq.mp (conn_Conn_Recv.B1_eq c got_b got_l got_c out_b out_l out_c t53 w   R ) h)
def conn_Conn_Recv.B0 (c : Option Addr) (max : Int) (w : World)   (R : Option Addr → Nat → Nat → Option Addr → Nat → Nat → Int → World → Prop) : Prop :=
  Pn c fun a =>
  LdI .i64 (a.add 2) w fun x14 =>
  Bm (x14 == (0 : Int)) (
    R none 0 0 none 0 0 (13 : Int) w) (
    Bm (decide (max ≤ (0 : Int))) (
      R none 0 0 none 0 0 (24 : Int) w) (
      Pn c fun a_1 =>
      LdP (a_1.add 1) w fun x21 =>
      seg_RecvBuf_Avail.Call x21 w fun r22 w1 =>
      Bm (r22 == (0 : Int)) (
        Pn c fun a_2 =>
        LdB (a_2.add 7) w1 fun x28 =>
        Bm x28 (
          R none 0 0 none 0 0 (16 : Int) w1) (
          Pn c fun a_3 =>
          LdI .i64 (a_3.add 2) w1 fun x32 =>
          Bm (x32 == (4 : Int)) (
            Pn c fun a_4 =>
            LdI .i64 (a_4.add 3) w1.drew fun x37 =>
            R none 0 0 none 0 0 x37 w1.drew) (
            R none 0 0 none 0 0 (14 : Int) w1))) (
        Pn c fun a_5 =>
        LdP (a_5.add 1) w1 fun x41 =>
        seg_RecvBuf_Read.Call x41 max w1 fun r43_b r43_l r43_c w2 =>
        New (.cells #[] 177) w2 fun b44 w3 =>
        Bm (r22 == (16 : Int)) (
          Pn c fun a_6 =>
          LdI .i64 (a_6.add 2) w3 fun x51 =>
          conn_Conn_Recv.B1 c r43_b r43_l r43_c (some ⟨b44, 0, none⟩) 0 0 (x51 == (3 : Int)) w3  R) (
          conn_Conn_Recv.B1 c r43_b r43_l r43_c (some ⟨b44, 0, none⟩) 0 0 false w3  R))))
theorem conn_Conn_Recv.B0_eq (c : Option Addr) (max : Int) (w : World)   (R : Option Addr → Nat → Nat → Option Addr → Nat → Nat → Int → World → Prop) (sB1 : Option Addr → Option Addr → Nat → Nat → Option Addr → Nat → Nat → Bool → World → Prop) :
    (
  Pn c fun a =>
  LdI .i64 (a.add 2) w fun x14 =>
  Bm (x14 == (0 : Int)) (
    R none 0 0 none 0 0 (13 : Int) w) (
    Bm (decide (max ≤ (0 : Int))) (
      R none 0 0 none 0 0 (24 : Int) w) (
      Pn c fun a_1 =>
      LdP (a_1.add 1) w fun x21 =>
      seg_RecvBuf_Avail.Call x21 w fun r22 w1 =>
      Bm (r22 == (0 : Int)) (
        Pn c fun a_2 =>
        LdB (a_2.add 7) w1 fun x28 =>
        Bm x28 (
          R none 0 0 none 0 0 (16 : Int) w1) (
          Pn c fun a_3 =>
          LdI .i64 (a_3.add 2) w1 fun x32 =>
          Bm (x32 == (4 : Int)) (
            Pn c fun a_4 =>
            LdI .i64 (a_4.add 3) w1.drew fun x37 =>
            R none 0 0 none 0 0 x37 w1.drew) (
            R none 0 0 none 0 0 (14 : Int) w1))) (
        Pn c fun a_5 =>
        LdP (a_5.add 1) w1 fun x41 =>
        seg_RecvBuf_Read.Call x41 max w1 fun r43_b r43_l r43_c w2 =>
        New (.cells #[] 177) w2 fun b44 w3 =>
        Bm (r22 == (16 : Int)) (
          Pn c fun a_6 =>
          LdI .i64 (a_6.add 2) w3 fun x51 =>
          sB1 c r43_b r43_l r43_c (some ⟨b44, 0, none⟩) 0 0 (x51 == (3 : Int)) w3) (
          sB1 c r43_b r43_l r43_c (some ⟨b44, 0, none⟩) 0 0 false w3))))) = kstep Tryz.prog 62 Tryz.f135.results.toList (Tryz.f135.body.getD .skip) (conn_Conn_Recv.RV R) (kvc Tryz.prog 62 Tryz.f135.results.toList (Tryz.f135.body.getD .skip) (conn_Conn_Recv.RV R) [([(0, [1, 1, 1, 1, 1, 1, 1, 0, 1]), (0, [1, 1, 1, 1, 1, 1, 1, 1])], fun σ w => dP (slotOf σ 0) fun c_ => dL (slotOf σ 8) fun got_b_ got_l_ got_c_ => dL (slotOf σ 9) fun out_b_ out_l_ out_c_ => dB (slotOf σ 53) fun t53_ => sB1 c_ got_b_ got_l_ got_c_ out_b_ out_l_ out_c_ t53_ w)] 2000) [(0, [])] [(0, .pointer c), (1, .int .i64 max)] w := by kernel_rfl
theorem conn_Conn_Recv.B0_sound {R : Option Addr → Nat → Nat → Option Addr → Nat → Nat → Int → World → Prop}  (c : Option Addr) (max : Int) (w : World) (h : conn_Conn_Recv.B0 c max w   R) :
    KW Tryz.prog 135 62 (conn_Conn_Recv.RV R) ([(0, [])].map (toItem (Tryz.f135.body.getD .skip))) [(0, .pointer c), (1, .int .i64 max)] w := by
  exact block_spec Tryz.func135 Tryz.mixed (stops_cons (fun σ w h => by
      obtain ⟨c_, e0, h⟩ := dP_elim h
      obtain ⟨got_b_, got_l_, got_c_, e1, h⟩ := dL_elim h
      obtain ⟨out_b_, out_l_, out_c_, e2, h⟩ := dL_elim h
      obtain ⟨t53_, e3, h⟩ := dB_elim h
      exact (conn_Conn_Recv.B1_sound  c_ got_b_ got_l_ got_c_ out_b_ out_l_ out_c_ t53_ w h).weaken (Sub.cons (Sub.cons (Sub.cons (Sub.cons (Sub.nil _) e3) e2) e1) e0)) stops_nil) (Eq.mp (conn_Conn_Recv.B0_eq c max w   R (fun c_ got_b_ got_l_ got_c_ out_b_ out_l_ out_c_ t53_ w => conn_Conn_Recv.B1 c_ got_b_ got_l_ got_c_ out_b_ out_l_ out_c_ t53_ w  R)) h)
theorem conn_Conn_Recv.sound (c : Option Addr) (max : Int) (w : World) (R : Option Addr → Nat → Nat → Option Addr → Nat → Nat → Int → World → Prop) (h : conn_Conn_Recv.B0 c max w R) : conn_Conn_Recv.Call c max w R := by
  have hc := calls_of_block (args := #[.pointer c, .int .i64 max]) Tryz.func135 (body := (Tryz.f135.body.getD .skip)) (by kernel_rfl) (by kernel_rfl) (args_slot _) (conn_Conn_Recv.B0_sound c max w h)
  exact hc.mono fun e w' he => by
    obtain ⟨v, rfl, hv⟩ := he
    exact conn_Conn_Recv.RV_elim hv
def api_IsPrefix.B0 (a_b : Option Addr) (a_l a_c : Nat) (b_b : Option Addr) (b_l b_c : Nat) (w : World)   (R : Bool → World → Prop) : Prop :=
  Bm (decide (((a_l : Nat) : Int) ≤ ((b_l : Nat) : Int))) (
    (0 ≤ ((a_l : Nat) : Int) ∧ ((a_l : Nat) : Int) ≤ ((b_c : Nat) : Int)) ∧
    api_SameBytes.Call a_b a_l a_c (slBase b_b ((0 : Nat) : Int) ((b_c : Nat) : Int) 1) (((a_l : Nat) : Int).toNat - ((0 : Nat) : Int).toNat) (((b_c : Nat) : Int).toNat - ((0 : Nat) : Int).toNat) w fun r16 w1 =>
    R r16 w1) (
    R false w)
theorem api_IsPrefix.B0_eq (a_b : Option Addr) (a_l a_c : Nat) (b_b : Option Addr) (b_l b_c : Nat) (w : World)   (R : Bool → World → Prop)  :
    (
  Bm (decide (((a_l : Nat) : Int) ≤ ((b_l : Nat) : Int))) (
    (0 ≤ ((a_l : Nat) : Int) ∧ ((a_l : Nat) : Int) ≤ ((b_c : Nat) : Int)) ∧
    api_SameBytes.Call a_b a_l a_c (slBase b_b ((0 : Nat) : Int) ((b_c : Nat) : Int) 1) (((a_l : Nat) : Int).toNat - ((0 : Nat) : Int).toNat) (((b_c : Nat) : Int).toNat - ((0 : Nat) : Int).toNat) w fun r16 w1 =>
    R r16 w1) (
    R false w)) = kstep Tryz.prog 18 Tryz.f136.results.toList (Tryz.f136.body.getD .skip) (api_IsPrefix.RV R) (kvc Tryz.prog 18 Tryz.f136.results.toList (Tryz.f136.body.getD .skip) (api_IsPrefix.RV R) [] 2000) [(0, [])] [(0, .slice a_b a_l a_c), (1, .slice b_b b_l b_c)] w := by kernel_rfl
theorem api_IsPrefix.B0_sound {R : Bool → World → Prop}  (a_b : Option Addr) (a_l a_c : Nat) (b_b : Option Addr) (b_l b_c : Nat) (w : World) (h : api_IsPrefix.B0 a_b a_l a_c b_b b_l b_c w   R) :
    KW Tryz.prog 136 18 (api_IsPrefix.RV R) ([(0, [])].map (toItem (Tryz.f136.body.getD .skip))) [(0, .slice a_b a_l a_c), (1, .slice b_b b_l b_c)] w := by
  exact block_spec Tryz.func136 Tryz.mixed stops_nil (Eq.mp (api_IsPrefix.B0_eq a_b a_l a_c b_b b_l b_c w   R ) h)
theorem api_IsPrefix.sound (a_b : Option Addr) (a_l a_c : Nat) (b_b : Option Addr) (b_l b_c : Nat) (w : World) (R : Bool → World → Prop) (h : api_IsPrefix.B0 a_b a_l a_c b_b b_l b_c w R) : api_IsPrefix.Call a_b a_l a_c b_b b_l b_c w R := by
  have hc := calls_of_block (args := #[.slice a_b a_l a_c, .slice b_b b_l b_c]) Tryz.func136 (body := (Tryz.f136.body.getD .skip)) (by kernel_rfl) (by kernel_rfl) (args_slot _) (api_IsPrefix.B0_sound a_b a_l a_c b_b b_l b_c w h)
  exact hc.mono fun e w' he => by
    obtain ⟨v, rfl, hv⟩ := he
    exact api_IsPrefix.RV_elim hv
def host_Host_listener.B0 (h0 : Option Addr) (sd : Int) (w : World)   (R : Bool → World → Prop) : Prop :=
  Pn h0 fun a =>
  LdP (a.add 17) w fun x11 =>
  sock_Table_Get.Call x11 sd w fun r13_0_0 r13_0_1 r13_0_2 r13_0_3 r13_0_4 r13_0_5 r13_0_6 r13_0_7 r13_1 w1 =>
  New (.cells #[.int .i64 (0 : Int), .int .i64 (0 : Int), .int .i64 (0 : Int), .int .i64 (0 : Int), .int .i64 (0 : Int), .int .i64 (0 : Int), .int .i64 (0 : Int), .bool false] 66) w1 fun en_ w2 =>
  Sts [.int .i64 r13_0_0, .int .i64 r13_0_1, .int .i64 r13_0_2, .int .i64 r13_0_3, .int .i64 r13_0_4, .int .i64 r13_0_5, .int .i64 r13_0_6, .bool r13_0_7] ⟨en_, 0, none⟩ 0 w2 fun w3 =>
  Bm (r13_1 == (0 : Int)) (
    LdI .i64 ⟨en_, 1, none⟩ w3 fun x20 =>
    R (x20 == (1 : Int)) w3) (
    R false w3)
theorem host_Host_listener.B0_eq (h0 : Option Addr) (sd : Int) (w : World)   (R : Bool → World → Prop)  :
    (
  Pn h0 fun a =>
  LdP (a.add 17) w fun x11 =>
  sock_Table_Get.Call x11 sd w fun r13_0_0 r13_0_1 r13_0_2 r13_0_3 r13_0_4 r13_0_5 r13_0_6 r13_0_7 r13_1 w1 =>
  New (.cells #[.int .i64 (0 : Int), .int .i64 (0 : Int), .int .i64 (0 : Int), .int .i64 (0 : Int), .int .i64 (0 : Int), .int .i64 (0 : Int), .int .i64 (0 : Int), .bool false] 66) w1 fun en_ w2 =>
  Sts [.int .i64 r13_0_0, .int .i64 r13_0_1, .int .i64 r13_0_2, .int .i64 r13_0_3, .int .i64 r13_0_4, .int .i64 r13_0_5, .int .i64 r13_0_6, .bool r13_0_7] ⟨en_, 0, none⟩ 0 w2 fun w3 =>
  Bm (r13_1 == (0 : Int)) (
    LdI .i64 ⟨en_, 1, none⟩ w3 fun x20 =>
    R (x20 == (1 : Int)) w3) (
    R false w3)) = kstep Tryz.prog 23 Tryz.f137.results.toList (Tryz.f137.body.getD .skip) (host_Host_listener.RV R) (kvc Tryz.prog 23 Tryz.f137.results.toList (Tryz.f137.body.getD .skip) (host_Host_listener.RV R) [] 2000) [(0, [])] [(0, .pointer h0), (1, .int .i64 sd)] w := by kernel_rfl
theorem host_Host_listener.B0_sound {R : Bool → World → Prop}  (h0 : Option Addr) (sd : Int) (w : World) (h : host_Host_listener.B0 h0 sd w   R) :
    KW Tryz.prog 137 23 (host_Host_listener.RV R) ([(0, [])].map (toItem (Tryz.f137.body.getD .skip))) [(0, .pointer h0), (1, .int .i64 sd)] w := by
  exact block_spec Tryz.func137 Tryz.mixed stops_nil (Eq.mp (host_Host_listener.B0_eq h0 sd w   R ) h)
theorem host_Host_listener.sound (h0 : Option Addr) (sd : Int) (w : World) (R : Bool → World → Prop) (h : host_Host_listener.B0 h0 sd w R) : host_Host_listener.Call h0 sd w R := by
  have hc := calls_of_block (args := #[.pointer h0, .int .i64 sd]) Tryz.func137 (body := (Tryz.f137.body.getD .skip)) (by kernel_rfl) (by kernel_rfl) (args_slot _) (host_Host_listener.B0_sound h0 sd w h)
  exact hc.mono fun e w' he => by
    obtain ⟨v, rfl, hv⟩ := he
    exact host_Host_listener.RV_elim hv
def host_Host_shut.B3 (h0 : Option Addr) (lsd : Int) (out_b : Option Addr) (out_l out_c : Nat) (list_b : Option Addr) (list_l list_c : Nat) (i : Int) (w : World) (N1 : Option Addr → Int → Option Addr → Nat → Nat → Option Addr → Nat → Nat → Int → World → Prop)  (R : Option Addr → Nat → Nat → World → Prop) : Prop :=
  N1 h0 lsd out_b out_l out_c list_b list_l list_c (IntKind.i64.wrap (i + (1 : Int))) w
theorem host_Host_shut.B3_eq (h0 : Option Addr) (lsd : Int) (out_b : Option Addr) (out_l out_c : Nat) (list_b : Option Addr) (list_l list_c : Nat) (i : Int) (w : World) (N1 : Option Addr → Int → Option Addr → Nat → Nat → Option Addr → Nat → Nat → Int → World → Prop)  (R : Option Addr → Nat → Nat → World → Prop)  :
    (
  N1 h0 lsd out_b out_l out_c list_b list_l list_c (IntKind.i64.wrap (i + (1 : Int))) w) = kstep Tryz.prog 68 Tryz.f138.results.toList (Tryz.f138.body.getD .skip) (host_Host_shut.RV R) (kvc Tryz.prog 68 Tryz.f138.results.toList (Tryz.f138.body.getD .skip) (host_Host_shut.RV R) [([(0, [1, 1, 1, 0, 1, 0, 0]), (2, [1, 1, 1, 0, 1, 0, 0]), (1, [0]), (0, [1, 1, 1, 1])], fun σ w => dP (slotOf σ 0) fun h0_ => dI .i64 (slotOf σ 1) fun lsd_ => dL (slotOf σ 5) fun out_b_ out_l_ out_c_ => dL (slotOf σ 6) fun list_b_ list_l_ list_c_ => dI .i64 (slotOf σ 7) fun i_ => N1 h0_ lsd_ out_b_ out_l_ out_c_ list_b_ list_l_ list_c_ i_ w)] 2000) [(0, [1, 1, 1, 0, 1, 0, 0, 1, 1]), (2, [1, 1, 1, 0, 1, 0, 0]), (1, [0]), (0, [1, 1, 1, 1])] [(0, .pointer h0), (1, .int .i64 lsd), (5, .slice out_b out_l out_c), (6, .slice list_b list_l list_c), (7, .int .i64 i)] w := by kernel_rfl
theorem host_Host_shut.B3_sound {R : Option Addr → Nat → Nat → World → Prop} {N1 : Option Addr → Int → Option Addr → Nat → Nat → Option Addr → Nat → Nat → Int → World → Prop} (hN1 : ∀ h0 lsd out_b out_l out_c list_b list_l list_c i w, N1 h0 lsd out_b out_l out_c list_b list_l list_c i w → KW Tryz.prog 138 68 (host_Host_shut.RV R) ([(0, [1, 1, 1, 0, 1, 0, 0]), (2, [1, 1, 1, 0, 1, 0, 0]), (1, [0]), (0, [1, 1, 1, 1])].map (toItem (Tryz.f138.body.getD .skip))) [(0, .pointer h0), (1, .int .i64 lsd), (5, .slice out_b out_l out_c), (6, .slice list_b list_l list_c), (7, .int .i64 i)] w) (h0 : Option Addr) (lsd : Int) (out_b : Option Addr) (out_l out_c : Nat) (list_b : Option Addr) (list_l list_c : Nat) (i : Int) (w : World) (h : host_Host_shut.B3 h0 lsd out_b out_l out_c list_b list_l list_c i w N1  R) :
    KW Tryz.prog 138 68 (host_Host_shut.RV R) ([(0, [1, 1, 1, 0, 1, 0, 0, 1, 1]), (2, [1, 1, 1, 0, 1, 0, 0]), (1, [0]), (0, [1, 1, 1, 1])].map (toItem (Tryz.f138.body.getD .skip))) [(0, .pointer h0), (1, .int .i64 lsd), (5, .slice out_b out_l out_c), (6, .slice list_b list_l list_c), (7, .int .i64 i)] w := by
  exact block_spec Tryz.func138 Tryz.mixed (stops_cons (fun σ w h => by
      obtain ⟨h0_, e0, h⟩ := dP_elim h
      obtain ⟨lsd_, e1, h⟩ := dI_elim h
      obtain ⟨out_b_, out_l_, out_c_, e2, h⟩ := dL_elim h
      obtain ⟨list_b_, list_l_, list_c_, e3, h⟩ := dL_elim h
      obtain ⟨i_, e4, h⟩ := dI_elim h
      exact (hN1 h0_ lsd_ out_b_ out_l_ out_c_ list_b_ list_l_ list_c_ i_ w h).weaken (Sub.cons (Sub.cons (Sub.cons (Sub.cons (Sub.cons (Sub.nil _) e4) e3) e2) e1) e0)) stops_nil) (Eq.mp (host_Host_shut.B3_eq h0 lsd out_b out_l out_c list_b list_l list_c i w N1  R ) h)
def host_Host_shut.B2 (h0 : Option Addr) (lsd : Int) (out_b : Option Addr) (out_l out_c : Nat) (list_b : Option Addr) (list_l list_c : Nat) (i : Int) (en : Nat) (t42 : Bool) (w : World) (N1 : Option Addr → Int → Option Addr → Nat → Nat → Option Addr → Nat → Nat → Int → World → Prop)  (R : Option Addr → Nat → Nat → World → Prop) : Prop :=
  Bm t42 (
    host_Host_shut.B3 h0 lsd out_b out_l out_c list_b list_l list_c i w N1 R) (
    LdI .i64 ⟨en, 5, none⟩ w.drew fun x46 =>
    Pn h0 fun a =>
    (0 ≤ x46 ∧ x46 < ((4 : Nat) : Int)) ∧
    LdP (Addr.add (a.add 13) (x46.toNat * 1)) w.drew fun x50 =>
    conn_Conn_Abort.Call x50 w.drew fun r51_0_b r51_0_l r51_0_c r51_1 w1 =>
    Bm (r51_1 == (0 : Int)) (
      LdI .i64 ⟨en, 0, none⟩ w1 fun x58_0 =>
      LdI .i64 ⟨en, 1, none⟩ w1 fun x58_1 =>
      LdI .i64 ⟨en, 2, none⟩ w1 fun x58_2 =>
      LdI .i64 ⟨en, 3, none⟩ w1 fun x58_3 =>
      LdI .i64 ⟨en, 4, none⟩ w1 fun x58_4 =>
      LdI .i64 ⟨en, 5, none⟩ w1 fun x58_5 =>
      LdI .i64 ⟨en, 6, none⟩ w1 fun x58_6 =>
      LdB ⟨en, 7, none⟩ w1 fun x58_7 =>
      host_Host_emit.Call h0 out_b out_l out_c x58_0 x58_1 x58_2 x58_3 x58_4 x58_5 x58_6 x58_7 r51_0_b r51_0_l r51_0_c w1 fun r60_b r60_l r60_c w2 =>
      host_Host_shut.B3 h0 lsd r60_b r60_l r60_c list_b list_l list_c i w2 N1 R) (
      host_Host_shut.B3 h0 lsd out_b out_l out_c list_b list_l list_c i w1 N1 R))
theorem host_Host_shut.B2_eq (h0 : Option Addr) (lsd : Int) (out_b : Option Addr) (out_l out_c : Nat) (list_b : Option Addr) (list_l list_c : Nat) (i : Int) (en : Nat) (t42 : Bool) (w : World) (N1 : Option Addr → Int → Option Addr → Nat → Nat → Option Addr → Nat → Nat → Int → World → Prop)  (R : Option Addr → Nat → Nat → World → Prop) (sB3 : Option Addr → Int → Option Addr → Nat → Nat → Option Addr → Nat → Nat → Int → World → Prop) :
    (
  Bm t42 (
    sB3 h0 lsd out_b out_l out_c list_b list_l list_c i w) (
    LdI .i64 ⟨en, 5, none⟩ w.drew fun x46 =>
    Pn h0 fun a =>
    (0 ≤ x46 ∧ x46 < ((4 : Nat) : Int)) ∧
    LdP (Addr.add (a.add 13) (x46.toNat * 1)) w.drew fun x50 =>
    conn_Conn_Abort.Call x50 w.drew fun r51_0_b r51_0_l r51_0_c r51_1 w1 =>
    Bm (r51_1 == (0 : Int)) (
      LdI .i64 ⟨en, 0, none⟩ w1 fun x58_0 =>
      LdI .i64 ⟨en, 1, none⟩ w1 fun x58_1 =>
      LdI .i64 ⟨en, 2, none⟩ w1 fun x58_2 =>
      LdI .i64 ⟨en, 3, none⟩ w1 fun x58_3 =>
      LdI .i64 ⟨en, 4, none⟩ w1 fun x58_4 =>
      LdI .i64 ⟨en, 5, none⟩ w1 fun x58_5 =>
      LdI .i64 ⟨en, 6, none⟩ w1 fun x58_6 =>
      LdB ⟨en, 7, none⟩ w1 fun x58_7 =>
      host_Host_emit.Call h0 out_b out_l out_c x58_0 x58_1 x58_2 x58_3 x58_4 x58_5 x58_6 x58_7 r51_0_b r51_0_l r51_0_c w1 fun r60_b r60_l r60_c w2 =>
      sB3 h0 lsd r60_b r60_l r60_c list_b list_l list_c i w2) (
      sB3 h0 lsd out_b out_l out_c list_b list_l list_c i w1))) = kstep Tryz.prog 68 Tryz.f138.results.toList (Tryz.f138.body.getD .skip) (host_Host_shut.RV R) (kvc Tryz.prog 68 Tryz.f138.results.toList (Tryz.f138.body.getD .skip) (host_Host_shut.RV R) [([(0, [1, 1, 1, 0, 1, 0, 0, 1, 1]), (2, [1, 1, 1, 0, 1, 0, 0]), (1, [0]), (0, [1, 1, 1, 1])], fun σ w => dP (slotOf σ 0) fun h0_ => dI .i64 (slotOf σ 1) fun lsd_ => dL (slotOf σ 5) fun out_b_ out_l_ out_c_ => dL (slotOf σ 6) fun list_b_ list_l_ list_c_ => dI .i64 (slotOf σ 7) fun i_ => sB3 h0_ lsd_ out_b_ out_l_ out_c_ list_b_ list_l_ list_c_ i_ w)] 2000) [(0, [1, 1, 1, 0, 1, 0, 0, 1, 0, 0, 1, 0, 1]), (0, [1, 1, 1, 0, 1, 0, 0, 1, 0, 0, 1, 1]), (1, [1]), (0, [1, 1, 1, 0, 1, 0, 0, 1, 1]), (2, [1, 1, 1, 0, 1, 0, 0]), (1, [0]), (0, [1, 1, 1, 1])] [(0, .pointer h0), (1, .int .i64 lsd), (5, .slice out_b out_l out_c), (6, .slice list_b list_l list_c), (7, .int .i64 i), (8, .pointer (some ⟨en, 0, none⟩)), (42, .bool t42)] w := by kernel_rfl
theorem host_Host_shut.B2_sound {R : Option Addr → Nat → Nat → World → Prop} {N1 : Option Addr → Int → Option Addr → Nat → Nat → Option Addr → Nat → Nat → Int → World → Prop} (hN1 : ∀ h0 lsd out_b out_l out_c list_b list_l list_c i w, N1 h0 lsd out_b out_l out_c list_b list_l list_c i w → KW Tryz.prog 138 68 (host_Host_shut.RV R) ([(0, [1, 1, 1, 0, 1, 0, 0]), (2, [1, 1, 1, 0, 1, 0, 0]), (1, [0]), (0, [1, 1, 1, 1])].map (toItem (Tryz.f138.body.getD .skip))) [(0, .pointer h0), (1, .int .i64 lsd), (5, .slice out_b out_l out_c), (6, .slice list_b list_l list_c), (7, .int .i64 i)] w) (h0 : Option Addr) (lsd : Int) (out_b : Option Addr) (out_l out_c : Nat) (list_b : Option Addr) (list_l list_c : Nat) (i : Int) (en : Nat) (t42 : Bool) (w : World) (h : host_Host_shut.B2 h0 lsd out_b out_l out_c list_b list_l list_c i en t42 w N1  R) :
    KW Tryz.prog 138 68 (host_Host_shut.RV R) ([(0, [1, 1, 1, 0, 1, 0, 0, 1, 0, 0, 1, 0, 1]), (0, [1, 1, 1, 0, 1, 0, 0, 1, 0, 0, 1, 1]), (1, [1]), (0, [1, 1, 1, 0, 1, 0, 0, 1, 1]), (2, [1, 1, 1, 0, 1, 0, 0]), (1, [0]), (0, [1, 1, 1, 1])].map (toItem (Tryz.f138.body.getD .skip))) [(0, .pointer h0), (1, .int .i64 lsd), (5, .slice out_b out_l out_c), (6, .slice list_b list_l list_c), (7, .int .i64 i), (8, .pointer (some ⟨en, 0, none⟩)), (42, .bool t42)] w := by
  exact block_spec Tryz.func138 Tryz.mixed (stops_cons (fun σ w h => by
      obtain ⟨h0_, e0, h⟩ := dP_elim h
      obtain ⟨lsd_, e1, h⟩ := dI_elim h
      obtain ⟨out_b_, out_l_, out_c_, e2, h⟩ := dL_elim h
      obtain ⟨list_b_, list_l_, list_c_, e3, h⟩ := dL_elim h
      obtain ⟨i_, e4, h⟩ := dI_elim h
      exact (host_Host_shut.B3_sound hN1 h0_ lsd_ out_b_ out_l_ out_c_ list_b_ list_l_ list_c_ i_ w h).weaken (Sub.cons (Sub.cons (Sub.cons (Sub.cons (Sub.cons (Sub.nil _) e4) e3) e2) e1) e0)) stops_nil) (Eq.mp (host_Host_shut.B2_eq h0 lsd out_b out_l out_c list_b list_l list_c i en t42 w N1  R (fun h0_ lsd_ out_b_ out_l_ out_c_ list_b_ list_l_ list_c_ i_ w => host_Host_shut.B3 h0_ lsd_ out_b_ out_l_ out_c_ list_b_ list_l_ list_c_ i_ w N1 R)) h)
def host_Host_shut.B1 (h0 : Option Addr) (lsd : Int) (out_b : Option Addr) (out_l out_c : Nat) (list_b : Option Addr) (list_l list_c : Nat) (i : Int) (en : Nat) (e : Int) (w : World) (N1 : Option Addr → Int → Option Addr → Nat → Nat → Option Addr → Nat → Nat → Int → World → Prop)  (R : Option Addr → Nat → Nat → World → Prop) : Prop :=
  Bm (e != (0 : Int)) (
    host_Host_shut.B2 h0 lsd out_b out_l out_c list_b list_l list_c i en true w N1 R) (
    LdI .i64 ⟨en, 6, none⟩ w fun x39 =>
    host_Host_shut.B2 h0 lsd out_b out_l out_c list_b list_l list_c i en (x39 != lsd) w N1 R)
theorem host_Host_shut.B1_eq (h0 : Option Addr) (lsd : Int) (out_b : Option Addr) (out_l out_c : Nat) (list_b : Option Addr) (list_l list_c : Nat) (i : Int) (en : Nat) (e : Int) (w : World) (N1 : Option Addr → Int → Option Addr → Nat → Nat → Option Addr → Nat → Nat → Int → World → Prop)  (R : Option Addr → Nat → Nat → World → Prop) (sB2 : Option Addr → Int → Option Addr → Nat → Nat → Option Addr → Nat → Nat → Int → Nat → Bool → World → Prop) :
    (
  Bm (e != (0 : Int)) (
    sB2 h0 lsd out_b out_l out_c list_b list_l list_c i en true w) (
    LdI .i64 ⟨en, 6, none⟩ w fun x39 =>
    sB2 h0 lsd out_b out_l out_c list_b list_l list_c i en (x39 != lsd) w)) = kstep Tryz.prog 68 Tryz.f138.results.toList (Tryz.f138.body.getD .skip) (host_Host_shut.RV R) (kvc Tryz.prog 68 Tryz.f138.results.toList (Tryz.f138.body.getD .skip) (host_Host_shut.RV R) [([(0, [1, 1, 1, 0, 1, 0, 0, 1, 0, 0, 1, 0, 1]), (0, [1, 1, 1, 0, 1, 0, 0, 1, 0, 0, 1, 1]), (1, [1]), (0, [1, 1, 1, 0, 1, 0, 0, 1, 1]), (2, [1, 1, 1, 0, 1, 0, 0]), (1, [0]), (0, [1, 1, 1, 1])], fun σ w => dP (slotOf σ 0) fun h0_ => dI .i64 (slotOf σ 1) fun lsd_ => dL (slotOf σ 5) fun out_b_ out_l_ out_c_ => dL (slotOf σ 6) fun list_b_ list_l_ list_c_ => dI .i64 (slotOf σ 7) fun i_ => dK (slotOf σ 8) fun en_ => dB (slotOf σ 42) fun t42_ => sB2 h0_ lsd_ out_b_ out_l_ out_c_ list_b_ list_l_ list_c_ i_ en_ t42_ w)] 2000) [(0, [1, 1, 1, 0, 1, 0, 0, 1, 0, 0, 1]), (1, [1]), (0, [1, 1, 1, 0, 1, 0, 0, 1, 1]), (2, [1, 1, 1, 0, 1, 0, 0]), (1, [0]), (0, [1, 1, 1, 1])] [(0, .pointer h0), (1, .int .i64 lsd), (5, .slice out_b out_l out_c), (6, .slice list_b list_l list_c), (7, .int .i64 i), (8, .pointer (some ⟨en, 0, none⟩)), (9, .int .i64 e)] w := by kernel_rfl
theorem host_Host_shut.B1_sound {R : Option Addr → Nat → Nat → World → Prop} {N1 : Option Addr → Int → Option Addr → Nat → Nat → Option Addr → Nat → Nat → Int → World → Prop} (hN1 : ∀ h0 lsd out_b out_l out_c list_b list_l list_c i w, N1 h0 lsd out_b out_l out_c list_b list_l list_c i w → KW Tryz.prog 138 68 (host_Host_shut.RV R) ([(0, [1, 1, 1, 0, 1, 0, 0]), (2, [1, 1, 1, 0, 1, 0, 0]), (1, [0]), (0, [1, 1, 1, 1])].map (toItem (Tryz.f138.body.getD .skip))) [(0, .pointer h0), (1, .int .i64 lsd), (5, .slice out_b out_l out_c), (6, .slice list_b list_l list_c), (7, .int .i64 i)] w) (h0 : Option Addr) (lsd : Int) (out_b : Option Addr) (out_l out_c : Nat) (list_b : Option Addr) (list_l list_c : Nat) (i : Int) (en : Nat) (e : Int) (w : World) (h : host_Host_shut.B1 h0 lsd out_b out_l out_c list_b list_l list_c i en e w N1  R) :
    KW Tryz.prog 138 68 (host_Host_shut.RV R) ([(0, [1, 1, 1, 0, 1, 0, 0, 1, 0, 0, 1]), (1, [1]), (0, [1, 1, 1, 0, 1, 0, 0, 1, 1]), (2, [1, 1, 1, 0, 1, 0, 0]), (1, [0]), (0, [1, 1, 1, 1])].map (toItem (Tryz.f138.body.getD .skip))) [(0, .pointer h0), (1, .int .i64 lsd), (5, .slice out_b out_l out_c), (6, .slice list_b list_l list_c), (7, .int .i64 i), (8, .pointer (some ⟨en, 0, none⟩)), (9, .int .i64 e)] w := by
  exact block_spec Tryz.func138 Tryz.mixed (stops_cons (fun σ w h => by
      obtain ⟨h0_, e0, h⟩ := dP_elim h
      obtain ⟨lsd_, e1, h⟩ := dI_elim h
      obtain ⟨out_b_, out_l_, out_c_, e2, h⟩ := dL_elim h
      obtain ⟨list_b_, list_l_, list_c_, e3, h⟩ := dL_elim h
      obtain ⟨i_, e4, h⟩ := dI_elim h
      obtain ⟨en_, e5, h⟩ := dK_elim h
      obtain ⟨t42_, e6, h⟩ := dB_elim h
      exact (host_Host_shut.B2_sound hN1 h0_ lsd_ out_b_ out_l_ out_c_ list_b_ list_l_ list_c_ i_ en_ t42_ w h).weaken (Sub.cons (Sub.cons (Sub.cons (Sub.cons (Sub.cons (Sub.cons (Sub.cons (Sub.nil _) e6) e5) e4) e3) e2) e1) e0)) stops_nil) (Eq.mp (host_Host_shut.B1_eq h0 lsd out_b out_l out_c list_b list_l list_c i en e w N1  R (fun h0_ lsd_ out_b_ out_l_ out_c_ list_b_ list_l_ list_c_ i_ en_ t42_ w => host_Host_shut.B2 h0_ lsd_ out_b_ out_l_ out_c_ list_b_ list_l_ list_c_ i_ en_ t42_ w N1 R)) h)
def host_Host_shut.L1b (h0 : Option Addr) (lsd : Int) (out_b : Option Addr) (out_l out_c : Nat) (list_b : Option Addr) (list_l list_c : Nat) (i : Int) (w : World)  (N1 : Option Addr → Int → Option Addr → Nat → Nat → Option Addr → Nat → Nat → Int → World → Prop) (R : Option Addr → Nat → Nat → World → Prop) : Prop :=
  Bm (decide (i < ((list_l : Nat) : Int))) (
    Pn h0 fun a =>
    LdP (a.add 17) w.drew fun x27 =>
    Pn list_b fun a_1 =>
    (0 ≤ i ∧ i < ((list_l : Nat) : Int)) ∧
    LdI .i64 (Addr.add a_1 (i.toNat * 1)) w.drew fun x31 =>
    ((
      sock_Table_Get.Call x27 x31 w.drew fun r32_0_0 r32_0_1 r32_0_2 r32_0_3 r32_0_4 r32_0_5 r32_0_6 r32_0_7 r32_1 w1 =>
      New (.cells #[.int .i64 (0 : Int), .int .i64 (0 : Int), .int .i64 (0 : Int), .int .i64 (0 : Int), .int .i64 (0 : Int), .int .i64 (0 : Int), .int .i64 (0 : Int), .bool false] 66) w1 fun en_ w2 =>
      Sts [.int .i64 r32_0_0, .int .i64 r32_0_1, .int .i64 r32_0_2, .int .i64 r32_0_3, .int .i64 r32_0_4, .int .i64 r32_0_5, .int .i64 r32_0_6, .bool r32_0_7] ⟨en_, 0, none⟩ 0 w2 fun w3 =>
      host_Host_shut.B1 h0 lsd out_b out_l out_c list_b list_l list_c i en_ r32_1 w3 N1 R) ∧ (
      New (.cells #[.int .i64 (0 : Int), .int .i64 (0 : Int), .int .i64 (0 : Int), .int .i64 (0 : Int), .int .i64 (0 : Int), .int .i64 (0 : Int), .int .i64 (0 : Int), .bool false] 66) w.drew fun en__1 w4 =>
      w4.cell? (Addr.add a_1 (i.toNat * 1)) = some (.int .i64 x31) ∧
      w4.cell? (a.add 17) = some (.pointer x27) ∧
      sock_Table_Get.Call x27 x31 w4 fun r32_0_0_1 r32_0_1_1 r32_0_2_1 r32_0_3_1 r32_0_4_1 r32_0_5_1 r32_0_6_1 r32_0_7_1 r32_1_1 w5 =>
      Sts [.int .i64 r32_0_0_1, .int .i64 r32_0_1_1, .int .i64 r32_0_2_1, .int .i64 r32_0_3_1, .int .i64 r32_0_4_1, .int .i64 r32_0_5_1, .int .i64 r32_0_6_1, .bool r32_0_7_1] ⟨en__1, 0, none⟩ 0 w5 fun w6 =>
      host_Host_shut.B1 h0 lsd out_b out_l out_c list_b list_l list_c i en__1 r32_1_1 w6 N1 R))) (
    Pn h0 fun a_2 =>
    LdP (a_2.add 17) w fun x64 =>
    sock_Table_Free.Call x64 lsd w fun r66 w7 =>
    R out_b out_l out_c w7)
theorem host_Host_shut.L1b_eq (h0 : Option Addr) (lsd : Int) (out_b : Option Addr) (out_l out_c : Nat) (list_b : Option Addr) (list_l list_c : Nat) (i : Int) (w : World)  (N1 : Option Addr → Int → Option Addr → Nat → Nat → Option Addr → Nat → Nat → Int → World → Prop) (R : Option Addr → Nat → Nat → World → Prop) (sB1 : Option Addr → Int → Option Addr → Nat → Nat → Option Addr → Nat → Nat → Int → Nat → Int → World → Prop) :
    (
  Bm (decide (i < ((list_l : Nat) : Int))) (
    Pn h0 fun a =>
    LdP (a.add 17) w.drew fun x27 =>
    Pn list_b fun a_1 =>
    (0 ≤ i ∧ i < ((list_l : Nat) : Int)) ∧
    LdI .i64 (Addr.add a_1 (i.toNat * 1)) w.drew fun x31 =>
    ((
      sock_Table_Get.Call x27 x31 w.drew fun r32_0_0 r32_0_1 r32_0_2 r32_0_3 r32_0_4 r32_0_5 r32_0_6 r32_0_7 r32_1 w1 =>
      New (.cells #[.int .i64 (0 : Int), .int .i64 (0 : Int), .int .i64 (0 : Int), .int .i64 (0 : Int), .int .i64 (0 : Int), .int .i64 (0 : Int), .int .i64 (0 : Int), .bool false] 66) w1 fun en_ w2 =>
      Sts [.int .i64 r32_0_0, .int .i64 r32_0_1, .int .i64 r32_0_2, .int .i64 r32_0_3, .int .i64 r32_0_4, .int .i64 r32_0_5, .int .i64 r32_0_6, .bool r32_0_7] ⟨en_, 0, none⟩ 0 w2 fun w3 =>
      sB1 h0 lsd out_b out_l out_c list_b list_l list_c i en_ r32_1 w3) ∧ (
      New (.cells #[.int .i64 (0 : Int), .int .i64 (0 : Int), .int .i64 (0 : Int), .int .i64 (0 : Int), .int .i64 (0 : Int), .int .i64 (0 : Int), .int .i64 (0 : Int), .bool false] 66) w.drew fun en__1 w4 =>
      w4.cell? (Addr.add a_1 (i.toNat * 1)) = some (.int .i64 x31) ∧
      w4.cell? (a.add 17) = some (.pointer x27) ∧
      sock_Table_Get.Call x27 x31 w4 fun r32_0_0_1 r32_0_1_1 r32_0_2_1 r32_0_3_1 r32_0_4_1 r32_0_5_1 r32_0_6_1 r32_0_7_1 r32_1_1 w5 =>
      Sts [.int .i64 r32_0_0_1, .int .i64 r32_0_1_1, .int .i64 r32_0_2_1, .int .i64 r32_0_3_1, .int .i64 r32_0_4_1, .int .i64 r32_0_5_1, .int .i64 r32_0_6_1, .bool r32_0_7_1] ⟨en__1, 0, none⟩ 0 w5 fun w6 =>
      sB1 h0 lsd out_b out_l out_c list_b list_l list_c i en__1 r32_1_1 w6))) (
    Pn h0 fun a_2 =>
    LdP (a_2.add 17) w fun x64 =>
    sock_Table_Free.Call x64 lsd w fun r66 w7 =>
    R out_b out_l out_c w7)) = kstep Tryz.prog 68 Tryz.f138.results.toList (Tryz.f138.body.getD .skip) (host_Host_shut.RV R) (kvc Tryz.prog 68 Tryz.f138.results.toList (Tryz.f138.body.getD .skip) (host_Host_shut.RV R) [([(0, [1, 1, 1, 0, 1, 0, 0, 1, 0, 0, 1]), (1, [1]), (0, [1, 1, 1, 0, 1, 0, 0, 1, 1]), (2, [1, 1, 1, 0, 1, 0, 0]), (1, [0]), (0, [1, 1, 1, 1])], fun σ w => dP (slotOf σ 0) fun h0_ => dI .i64 (slotOf σ 1) fun lsd_ => dL (slotOf σ 5) fun out_b_ out_l_ out_c_ => dL (slotOf σ 6) fun list_b_ list_l_ list_c_ => dI .i64 (slotOf σ 7) fun i_ => dK (slotOf σ 8) fun en_ => dI .i64 (slotOf σ 9) fun e_ => sB1 h0_ lsd_ out_b_ out_l_ out_c_ list_b_ list_l_ list_c_ i_ en_ e_ w)] 2000) [(0, [1, 1, 1, 0, 1, 0, 0]), (2, [1, 1, 1, 0, 1, 0, 0]), (1, [0]), (0, [1, 1, 1, 1])] [(0, .pointer h0), (1, .int .i64 lsd), (5, .slice out_b out_l out_c), (6, .slice list_b list_l list_c), (7, .int .i64 i)] w := by kernel_rfl
theorem host_Host_shut.L1b_sound {R : Option Addr → Nat → Nat → World → Prop} {N1 : Option Addr → Int → Option Addr → Nat → Nat → Option Addr → Nat → Nat → Int → World → Prop} (hN1 : ∀ h0 lsd out_b out_l out_c list_b list_l list_c i w, N1 h0 lsd out_b out_l out_c list_b list_l list_c i w → KW Tryz.prog 138 68 (host_Host_shut.RV R) ([(0, [1, 1, 1, 0, 1, 0, 0]), (2, [1, 1, 1, 0, 1, 0, 0]), (1, [0]), (0, [1, 1, 1, 1])].map (toItem (Tryz.f138.body.getD .skip))) [(0, .pointer h0), (1, .int .i64 lsd), (5, .slice out_b out_l out_c), (6, .slice list_b list_l list_c), (7, .int .i64 i)] w) (h0 : Option Addr) (lsd : Int) (out_b : Option Addr) (out_l out_c : Nat) (list_b : Option Addr) (list_l list_c : Nat) (i : Int) (w : World) (h : host_Host_shut.L1b h0 lsd out_b out_l out_c list_b list_l list_c i w  N1 R) :
    KW Tryz.prog 138 68 (host_Host_shut.RV R) ([(0, [1, 1, 1, 0, 1, 0, 0]), (2, [1, 1, 1, 0, 1, 0, 0]), (1, [0]), (0, [1, 1, 1, 1])].map (toItem (Tryz.f138.body.getD .skip))) [(0, .pointer h0), (1, .int .i64 lsd), (5, .slice out_b out_l out_c), (6, .slice list_b list_l list_c), (7, .int .i64 i)] w := by
  exact block_spec Tryz.func138 Tryz.mixed (stops_cons (fun σ w h => by
      obtain ⟨h0_, e0, h⟩ := dP_elim h
      obtain ⟨lsd_, e1, h⟩ := dI_elim h
      obtain ⟨out_b_, out_l_, out_c_, e2, h⟩ := dL_elim h
      obtain ⟨list_b_, list_l_, list_c_, e3, h⟩ := dL_elim h
      obtain ⟨i_, e4, h⟩ := dI_elim h
      obtain ⟨en_, e5, h⟩ := dK_elim h
      obtain ⟨e_, e6, h⟩ := dI_elim h
      exact (host_Host_shut.B1_sound hN1 h0_ lsd_ out_b_ out_l_ out_c_ list_b_ list_l_ list_c_ i_ en_ e_ w h).weaken (Sub.cons (Sub.cons (Sub.cons (Sub.cons (Sub.cons (Sub.cons (Sub.cons (Sub.nil _) e6) e5) e4) e3) e2) e1) e0)) stops_nil) (Eq.mp (host_Host_shut.L1b_eq h0 lsd out_b out_l out_c list_b list_l list_c i w  N1 R (fun h0_ lsd_ out_b_ out_l_ out_c_ list_b_ list_l_ list_c_ i_ en_ e_ w => host_Host_shut.B1 h0_ lsd_ out_b_ out_l_ out_c_ list_b_ list_l_ list_c_ i_ en_ e_ w N1 R)) h)
def host_Host_shut.L1 (h0 : Option Addr) (lsd : Int) (out_b : Option Addr) (out_l out_c : Nat) (list_b : Option Addr) (list_l list_c : Nat) (i : Int) (w : World)  (R : Option Addr → Nat → Nat → World → Prop) : Prop :=
  ∃ (I : Nat → Option Addr → Int → Option Addr → Nat → Nat → Option Addr → Nat → Nat → Int → World → Prop) (m : Nat), I m h0 lsd out_b out_l out_c list_b list_l list_c i w ∧ ∀ m h0 lsd out_b out_l out_c list_b list_l list_c i w, I m h0 lsd out_b out_l out_c list_b list_l list_c i w → host_Host_shut.L1b h0 lsd out_b out_l out_c list_b list_l list_c i w  (fun h0' lsd' out_b' out_l' out_c' list_b' list_l' list_c' i' w' => ∃ m', m' < m ∧ I m' h0' lsd' out_b' out_l' out_c' list_b' list_l' list_c' i' w') R
theorem host_Host_shut.L1_sound {R : Option Addr → Nat → Nat → World → Prop}  (h0 : Option Addr) (lsd : Int) (out_b : Option Addr) (out_l out_c : Nat) (list_b : Option Addr) (list_l list_c : Nat) (i : Int) (w : World) (h : host_Host_shut.L1 h0 lsd out_b out_l out_c list_b list_l list_c i w  R) :
    KW Tryz.prog 138 68 (host_Host_shut.RV R) ([(0, [1, 1, 1, 0, 1, 0, 0]), (2, [1, 1, 1, 0, 1, 0, 0]), (1, [0]), (0, [1, 1, 1, 1])].map (toItem (Tryz.f138.body.getD .skip))) [(0, .pointer h0), (1, .int .i64 lsd), (5, .slice out_b out_l out_c), (6, .slice list_b list_l list_c), (7, .int .i64 i)] w := by
  obtain ⟨I, m, hBase, hr⟩ := h
  refine KW.loop (fun m σ w => ∃ (h0 : Option Addr) (lsd : Int) (out_b : Option Addr) (out_l out_c : Nat) (list_b : Option Addr) (list_l list_c : Nat) (i : Int), σ = [(0, .pointer h0), (1, .int .i64 lsd), (5, .slice out_b out_l out_c), (6, .slice list_b list_l list_c), (7, .int .i64 i)] ∧ I m h0 lsd out_b out_l out_c list_b list_l list_c i w) ?_ m _ w ⟨h0, lsd, out_b, out_l, out_c, list_b, list_l, list_c, i, rfl, hBase⟩
  rintro m ih σ w ⟨h0, lsd, out_b, out_l, out_c, list_b, list_l, list_c, i, rfl, hI⟩
  exact host_Host_shut.L1b_sound  (N1 := fun h0' lsd' out_b' out_l' out_c' list_b' list_l' list_c' i' w' => ∃ m', m' < m ∧ I m' h0' lsd' out_b' out_l' out_c' list_b' list_l' list_c' i' w') (fun h0' lsd' out_b' out_l' out_c' list_b' list_l' list_c' i' w' hx => by obtain ⟨m', hlt, hI'⟩ := hx; exact ih m' hlt _ w' ⟨h0', lsd', out_b', out_l', out_c', list_b', list_l', list_c', i', rfl, hI'⟩) h0 lsd out_b out_l out_c list_b list_l list_c i w (hr m h0 lsd out_b out_l out_c list_b list_l list_c i w hI)
def host_Host_shut.B0 (h0 : Option Addr) (lsd : Int) (w : World)   (R : Option Addr → Nat → Nat → World → Prop) : Prop :=
  New (.cells #[] 81) w fun b11 w1 =>
  Pn h0 fun a =>
  LdP (a.add 17) w1 fun x15 =>
  sock_Table_List.Call x15 w1 fun r16_b r16_l r16_c w2 =>
  host_Host_shut.L1 h0 lsd (some ⟨b11, 0, none⟩) 0 0 r16_b r16_l r16_c (0 : Int) w2  R
theorem host_Host_shut.B0_eq (h0 : Option Addr) (lsd : Int) (w : World)   (R : Option Addr → Nat → Nat → World → Prop) (sL1 : Option Addr → Int → Option Addr → Nat → Nat → Option Addr → Nat → Nat → Int → World → Prop) :
    (
  New (.cells #[] 81) w fun b11 w1 =>
  Pn h0 fun a =>
  LdP (a.add 17) w1 fun x15 =>
  sock_Table_List.Call x15 w1 fun r16_b r16_l r16_c w2 =>
  sL1 h0 lsd (some ⟨b11, 0, none⟩) 0 0 r16_b r16_l r16_c (0 : Int) w2) = kstep Tryz.prog 68 Tryz.f138.results.toList (Tryz.f138.body.getD .skip) (host_Host_shut.RV R) (kvc Tryz.prog 68 Tryz.f138.results.toList (Tryz.f138.body.getD .skip) (host_Host_shut.RV R) [([(0, [1, 1, 1, 0, 1, 0, 0]), (2, [1, 1, 1, 0, 1, 0, 0]), (1, [0]), (0, [1, 1, 1, 1])], fun σ w => dP (slotOf σ 0) fun h0_ => dI .i64 (slotOf σ 1) fun lsd_ => dL (slotOf σ 5) fun out_b_ out_l_ out_c_ => dL (slotOf σ 6) fun list_b_ list_l_ list_c_ => dI .i64 (slotOf σ 7) fun i_ => sL1 h0_ lsd_ out_b_ out_l_ out_c_ list_b_ list_l_ list_c_ i_ w)] 2000) [(0, [])] [(0, .pointer h0), (1, .int .i64 lsd)] w := by kernel_rfl
theorem host_Host_shut.B0_sound {R : Option Addr → Nat → Nat → World → Prop}  (h0 : Option Addr) (lsd : Int) (w : World) (h : host_Host_shut.B0 h0 lsd w   R) :
    KW Tryz.prog 138 68 (host_Host_shut.RV R) ([(0, [])].map (toItem (Tryz.f138.body.getD .skip))) [(0, .pointer h0), (1, .int .i64 lsd)] w := by
  exact block_spec Tryz.func138 Tryz.mixed (stops_cons (fun σ w h => by
      obtain ⟨h0_, e0, h⟩ := dP_elim h
      obtain ⟨lsd_, e1, h⟩ := dI_elim h
      obtain ⟨out_b_, out_l_, out_c_, e2, h⟩ := dL_elim h
      obtain ⟨list_b_, list_l_, list_c_, e3, h⟩ := dL_elim h
      obtain ⟨i_, e4, h⟩ := dI_elim h
      exact (host_Host_shut.L1_sound  h0_ lsd_ out_b_ out_l_ out_c_ list_b_ list_l_ list_c_ i_ w h).weaken (Sub.cons (Sub.cons (Sub.cons (Sub.cons (Sub.cons (Sub.nil _) e4) e3) e2) e1) e0)) stops_nil) (Eq.mp (host_Host_shut.B0_eq h0 lsd w   R (fun h0_ lsd_ out_b_ out_l_ out_c_ list_b_ list_l_ list_c_ i_ w => host_Host_shut.L1 h0_ lsd_ out_b_ out_l_ out_c_ list_b_ list_l_ list_c_ i_ w  R)) h)
theorem host_Host_shut.sound (h0 : Option Addr) (lsd : Int) (w : World) (R : Option Addr → Nat → Nat → World → Prop) (h : host_Host_shut.B0 h0 lsd w R) : host_Host_shut.Call h0 lsd w R := by
  have hc := calls_of_block (args := #[.pointer h0, .int .i64 lsd]) Tryz.func138 (body := (Tryz.f138.body.getD .skip)) (by kernel_rfl) (by kernel_rfl) (args_slot _) (host_Host_shut.B0_sound h0 lsd w h)
  exact hc.mono fun e w' he => by
    obtain ⟨v, rfl, hv⟩ := he
    exact host_Host_shut.RV_elim hv
def conn_Conn_Abort.B1  (w : World)   (R : Option Addr → Nat → Nat → Int → World → Prop) : Prop :=
  New (.cells #[] 177) w fun b30 w1 =>
  R (some ⟨b30, 0, none⟩) 0 0 (0 : Int) w1
theorem conn_Conn_Abort.B1_eq  (w : World)   (R : Option Addr → Nat → Nat → Int → World → Prop)  :
    (
  New (.cells #[] 177) w fun b30 w1 =>
  R (some ⟨b30, 0, none⟩) 0 0 (0 : Int) w1) = kstep Tryz.prog 44 Tryz.f139.results.toList (Tryz.f139.body.getD .skip) (conn_Conn_Abort.RV R) (kvc Tryz.prog 44 Tryz.f139.results.toList (Tryz.f139.body.getD .skip) (conn_Conn_Abort.RV R) [] 2000) [(0, [1, 0, 1, 0, 1, 1, 1, 0, 1]), (1, [0]), (0, [1, 1])] [] w := by kernel_rfl
theorem conn_Conn_Abort.B1_sound {R : Option Addr → Nat → Nat → Int → World → Prop}   (w : World) (h : conn_Conn_Abort.B1  w   R) :
    KW Tryz.prog 139 44 (conn_Conn_Abort.RV R) ([(0, [1, 0, 1, 0, 1, 1, 1, 0, 1]), (1, [0]), (0, [1, 1])].map (toItem (Tryz.f139.body.getD .skip))) [] w := by
  exact block_spec Tryz.func139 Tryz.mixed stops_nil (Eq.mp (conn_Conn_Abort.B1_eq  w   R ) h)
def conn_Conn_Abort.B0 (c : Option Addr) (w : World)   (R : Option Addr → Nat → Nat → Int → World → Prop) : Prop :=
  Pn c fun a =>
  LdI .i64 (a.add 2) w fun x10 =>
  Bm (x10 == (0 : Int)) (
    R none 0 0 (13 : Int) w) (
    Bm (x10 == (4 : Int)) (
      Pn c fun a_1 =>
      LdI .i64 (a_1.add 3) w fun x18 =>
      Bm (x18 == (0 : Int)) (
        Pn c fun a_2 =>
        LdI .i64 (a_2.add 13) w fun x23 =>
        conn_Conn_fail.Call c (20 : Int) w fun w1 =>
        Pn c fun a_3 =>
        Sts [.int .i64 x23] (a_3.add 13) 0 w1 fun w2 =>
        conn_Conn_Abort.B1  w2  R) (
        conn_Conn_Abort.B1  w  R)) (
      Bm (x10 == (1 : Int)) (
        conn_Conn_fail.Call c (20 : Int) w fun w3 =>
        New (.cells #[] 177) w3 fun b35 w4 =>
        R (some ⟨b35, 0, none⟩) 0 0 (0 : Int) w4) (
        conn_Conn_sndNxt.Call c w fun r37 w5 =>
        conn_rst.Call r37 w5 fun r39_0 r39_1 r39_2 r39_3 r39_4 r39_5 r39_6_b r39_6_l r39_6_c w6 =>
        New (.cells #[.int .i64 (0 : Int), .int .i64 (0 : Int), .int .i64 (0 : Int), .int .i64 (0 : Int), .int .i64 (0 : Int), .int .i64 (0 : Int), .slice none 0 0] 177) w6 fun r_ w7 =>
        Sts [.int .i64 r39_0, .int .i64 r39_1, .int .i64 r39_2, .int .i64 r39_3, .int .i64 r39_4, .int .i64 r39_5, .slice r39_6_b r39_6_l r39_6_c] ⟨r_, 0, none⟩ 0 w7 fun w8 =>
        conn_Conn_fail.Call c (20 : Int) w8 fun w9 =>
        LdI .i64 ⟨r_, 0, none⟩ w9 fun x42_0 =>
        LdI .i64 ⟨r_, 1, none⟩ w9 fun x42_1 =>
        LdI .i64 ⟨r_, 2, none⟩ w9 fun x42_2 =>
        LdI .i64 ⟨r_, 3, none⟩ w9 fun x42_3 =>
        LdI .i64 ⟨r_, 4, none⟩ w9 fun x42_4 =>
        LdI .i64 ⟨r_, 5, none⟩ w9 fun x42_5 =>
        LdL ⟨r_, 6, none⟩ w9 fun x42_6_b x42_6_l x42_6_c =>
        conn_one.Call x42_0 x42_1 x42_2 x42_3 x42_4 x42_5 x42_6_b x42_6_l x42_6_c w9 fun r43_b r43_l r43_c w10 =>
        R r43_b r43_l r43_c (0 : Int) w10)))
theorem conn_Conn_Abort.B0_eq (c : Option Addr) (w : World)   (R : Option Addr → Nat → Nat → Int → World → Prop) (sB1 : World → Prop) :
    (
  Pn c fun a =>
  LdI .i64 (a.add 2) w fun x10 =>
  Bm (x10 == (0 : Int)) (
    R none 0 0 (13 : Int) w) (
    Bm (x10 == (4 : Int)) (
      Pn c fun a_1 =>
      LdI .i64 (a_1.add 3) w fun x18 =>
      Bm (x18 == (0 : Int)) (
        Pn c fun a_2 =>
        LdI .i64 (a_2.add 13) w fun x23 =>
        conn_Conn_fail.Call c (20 : Int) w fun w1 =>
        Pn c fun a_3 =>
        Sts [.int .i64 x23] (a_3.add 13) 0 w1 fun w2 =>
        sB1  w2) (
        sB1  w)) (
      Bm (x10 == (1 : Int)) (
        conn_Conn_fail.Call c (20 : Int) w fun w3 =>
        New (.cells #[] 177) w3 fun b35 w4 =>
        R (some ⟨b35, 0, none⟩) 0 0 (0 : Int) w4) (
        conn_Conn_sndNxt.Call c w fun r37 w5 =>
        conn_rst.Call r37 w5 fun r39_0 r39_1 r39_2 r39_3 r39_4 r39_5 r39_6_b r39_6_l r39_6_c w6 =>
        New (.cells #[.int .i64 (0 : Int), .int .i64 (0 : Int), .int .i64 (0 : Int), .int .i64 (0 : Int), .int .i64 (0 : Int), .int .i64 (0 : Int), .slice none 0 0] 177) w6 fun r_ w7 =>
        Sts [.int .i64 r39_0, .int .i64 r39_1, .int .i64 r39_2, .int .i64 r39_3, .int .i64 r39_4, .int .i64 r39_5, .slice r39_6_b r39_6_l r39_6_c] ⟨r_, 0, none⟩ 0 w7 fun w8 =>
        conn_Conn_fail.Call c (20 : Int) w8 fun w9 =>
        LdI .i64 ⟨r_, 0, none⟩ w9 fun x42_0 =>
        LdI .i64 ⟨r_, 1, none⟩ w9 fun x42_1 =>
        LdI .i64 ⟨r_, 2, none⟩ w9 fun x42_2 =>
        LdI .i64 ⟨r_, 3, none⟩ w9 fun x42_3 =>
        LdI .i64 ⟨r_, 4, none⟩ w9 fun x42_4 =>
        LdI .i64 ⟨r_, 5, none⟩ w9 fun x42_5 =>
        LdL ⟨r_, 6, none⟩ w9 fun x42_6_b x42_6_l x42_6_c =>
        conn_one.Call x42_0 x42_1 x42_2 x42_3 x42_4 x42_5 x42_6_b x42_6_l x42_6_c w9 fun r43_b r43_l r43_c w10 =>
        R r43_b r43_l r43_c (0 : Int) w10)))) = kstep Tryz.prog 44 Tryz.f139.results.toList (Tryz.f139.body.getD .skip) (conn_Conn_Abort.RV R) (kvc Tryz.prog 44 Tryz.f139.results.toList (Tryz.f139.body.getD .skip) (conn_Conn_Abort.RV R) [([(0, [1, 0, 1, 0, 1, 1, 1, 0, 1]), (1, [0]), (0, [1, 1])], fun σ w => sB1  w)] 2000) [(0, [])] [(0, .pointer c)] w := by kernel_rfl
theorem conn_Conn_Abort.B0_sound {R : Option Addr → Nat → Nat → Int → World → Prop}  (c : Option Addr) (w : World) (h : conn_Conn_Abort.B0 c w   R) :
    KW Tryz.prog 139 44 (conn_Conn_Abort.RV R) ([(0, [])].map (toItem (Tryz.f139.body.getD .skip))) [(0, .pointer c)] w := by
  exact block_spec Tryz.func139 Tryz.mixed (stops_cons (fun σ w h => by
      exact (conn_Conn_Abort.B1_sound   w h).weaken (Sub.nil _)) stops_nil) (Eq.mp (conn_Conn_Abort.B0_eq c w   R (fun  w => conn_Conn_Abort.B1  w  R)) h)
theorem conn_Conn_Abort.sound (c : Option Addr) (w : World) (R : Option Addr → Nat → Nat → Int → World → Prop) (h : conn_Conn_Abort.B0 c w R) : conn_Conn_Abort.Call c w R := by
  have hc := calls_of_block (args := #[.pointer c]) Tryz.func139 (body := (Tryz.f139.body.getD .skip)) (by kernel_rfl) (by kernel_rfl) (args_slot _) (conn_Conn_Abort.B0_sound c w h)
  exact hc.mono fun e w' he => by
    obtain ⟨v, rfl, hv⟩ := he
    exact conn_Conn_Abort.RV_elim hv
def conn_Conn_Close.B0 (c : Option Addr) (w : World)   (R : Option Addr → Nat → Nat → Int → World → Prop) : Prop :=
  Pn c fun a =>
  LdI .i64 (a.add 2) w fun x9 =>
  Bm (x9 == (0 : Int)) (
    R none 0 0 (13 : Int) w) (
    Bm (x9 == (4 : Int)) (
      conn_Conn_ended.Call c w fun r15 w1 =>
      R none 0 0 r15 w1) (
      Bm (x9 == (1 : Int)) (
        conn_Conn_fail.Call c (20 : Int) w fun w2 =>
        New (.cells #[] 177) w2 fun b21 w3 =>
        R (some ⟨b21, 0, none⟩) 0 0 (0 : Int) w3) (
        Pn c fun a_1 =>
        LdB (a_1.add 4) w fun x25 =>
        Bm x25 (
          R none 0 0 (15 : Int) w) (
          Pn c fun a_2 =>
          Sts [.bool true] (a_2.add 4) 0 w fun w4 =>
          conn_Conn_pump.Call c w4 fun r30_b r30_l r30_c w5 =>
          R r30_b r30_l r30_c (0 : Int) w5))))
theorem conn_Conn_Close.B0_eq (c : Option Addr) (w : World)   (R : Option Addr → Nat → Nat → Int → World → Prop)  :
    (
  Pn c fun a =>
  LdI .i64 (a.add 2) w fun x9 =>
  Bm (x9 == (0 : Int)) (
    R none 0 0 (13 : Int) w) (
    Bm (x9 == (4 : Int)) (
      conn_Conn_ended.Call c w fun r15 w1 =>
      R none 0 0 r15 w1) (
      Bm (x9 == (1 : Int)) (
        conn_Conn_fail.Call c (20 : Int) w fun w2 =>
        New (.cells #[] 177) w2 fun b21 w3 =>
        R (some ⟨b21, 0, none⟩) 0 0 (0 : Int) w3) (
        Pn c fun a_1 =>
        LdB (a_1.add 4) w fun x25 =>
        Bm x25 (
          R none 0 0 (15 : Int) w) (
          Pn c fun a_2 =>
          Sts [.bool true] (a_2.add 4) 0 w fun w4 =>
          conn_Conn_pump.Call c w4 fun r30_b r30_l r30_c w5 =>
          R r30_b r30_l r30_c (0 : Int) w5))))) = kstep Tryz.prog 32 Tryz.f140.results.toList (Tryz.f140.body.getD .skip) (conn_Conn_Close.RV R) (kvc Tryz.prog 32 Tryz.f140.results.toList (Tryz.f140.body.getD .skip) (conn_Conn_Close.RV R) [] 2000) [(0, [])] [(0, .pointer c)] w := by kernel_rfl
theorem conn_Conn_Close.B0_sound {R : Option Addr → Nat → Nat → Int → World → Prop}  (c : Option Addr) (w : World) (h : conn_Conn_Close.B0 c w   R) :
    KW Tryz.prog 140 32 (conn_Conn_Close.RV R) ([(0, [])].map (toItem (Tryz.f140.body.getD .skip))) [(0, .pointer c)] w := by
  exact block_spec Tryz.func140 Tryz.mixed stops_nil (Eq.mp (conn_Conn_Close.B0_eq c w   R ) h)
theorem conn_Conn_Close.sound (c : Option Addr) (w : World) (R : Option Addr → Nat → Nat → Int → World → Prop) (h : conn_Conn_Close.B0 c w R) : conn_Conn_Close.Call c w R := by
  have hc := calls_of_block (args := #[.pointer c]) Tryz.func140 (body := (Tryz.f140.body.getD .skip)) (by kernel_rfl) (by kernel_rfl) (args_slot _) (conn_Conn_Close.B0_sound c w h)
  exact hc.mono fun e w' he => by
    obtain ⟨v, rfl, hv⟩ := he
    exact conn_Conn_Close.RV_elim hv
def seg_SendBuf_Una.B0 (b : Option Addr) (w : World)   (R : Int → World → Prop) : Prop :=
  Pn b fun a =>
  LdI .u8 (a.add 19) w fun x6 =>
  R (IntKind.i64.wrap x6) w
theorem seg_SendBuf_Una.B0_eq (b : Option Addr) (w : World)   (R : Int → World → Prop)  :
    (
  Pn b fun a =>
  LdI .u8 (a.add 19) w fun x6 =>
  R (IntKind.i64.wrap x6) w) = kstep Tryz.prog 8 Tryz.f141.results.toList (Tryz.f141.body.getD .skip) (seg_SendBuf_Una.RV R) (kvc Tryz.prog 8 Tryz.f141.results.toList (Tryz.f141.body.getD .skip) (seg_SendBuf_Una.RV R) [] 2000) [(0, [])] [(0, .pointer b)] w := by kernel_rfl
theorem seg_SendBuf_Una.B0_sound {R : Int → World → Prop}  (b : Option Addr) (w : World) (h : seg_SendBuf_Una.B0 b w   R) :
    KW Tryz.prog 141 8 (seg_SendBuf_Una.RV R) ([(0, [])].map (toItem (Tryz.f141.body.getD .skip))) [(0, .pointer b)] w := by
  exact block_spec Tryz.func141 Tryz.mixed stops_nil (Eq.mp (seg_SendBuf_Una.B0_eq b w   R ) h)
theorem seg_SendBuf_Una.sound (b : Option Addr) (w : World) (R : Int → World → Prop) (h : seg_SendBuf_Una.B0 b w R) : seg_SendBuf_Una.Call b w R := by
  have hc := calls_of_block (args := #[.pointer b]) Tryz.func141 (body := (Tryz.f141.body.getD .skip)) (by kernel_rfl) (by kernel_rfl) (args_slot _) (seg_SendBuf_Una.B0_sound b w h)
  exact hc.mono fun e w' he => by
    obtain ⟨v, rfl, hv⟩ := he
    exact seg_SendBuf_Una.RV_elim hv
def api_SeqAdd.B0 (a n : Int) (w : World)   (R : Int → World → Prop) : Prop :=
  (256 : Int) ≠ 0 ∧
  (256 : Int) ≠ 0 ∧
  (256 : Int) ≠ 0 ∧
  (256 : Int) ≠ 0 ∧
  R ((IntKind.i64.wrap (((IntKind.i64.wrap ((a.tmod (256 : Int)) + (n.tmod (256 : Int)))).tmod (256 : Int)) + (256 : Int))).tmod (256 : Int)) w
theorem api_SeqAdd.B0_eq (a n : Int) (w : World)   (R : Int → World → Prop)  :
    (
  (256 : Int) ≠ 0 ∧
  (256 : Int) ≠ 0 ∧
  (256 : Int) ≠ 0 ∧
  (256 : Int) ≠ 0 ∧
  R ((IntKind.i64.wrap (((IntKind.i64.wrap ((a.tmod (256 : Int)) + (n.tmod (256 : Int)))).tmod (256 : Int)) + (256 : Int))).tmod (256 : Int)) w) = kstep Tryz.prog 13 Tryz.f142.results.toList (Tryz.f142.body.getD .skip) (api_SeqAdd.RV R) (kvc Tryz.prog 13 Tryz.f142.results.toList (Tryz.f142.body.getD .skip) (api_SeqAdd.RV R) [] 2000) [(0, [])] [(0, .int .i64 a), (1, .int .i64 n)] w := by kernel_rfl
theorem api_SeqAdd.B0_sound {R : Int → World → Prop}  (a n : Int) (w : World) (h : api_SeqAdd.B0 a n w   R) :
    KW Tryz.prog 142 13 (api_SeqAdd.RV R) ([(0, [])].map (toItem (Tryz.f142.body.getD .skip))) [(0, .int .i64 a), (1, .int .i64 n)] w := by
  exact block_spec Tryz.func142 Tryz.mixed stops_nil (Eq.mp (api_SeqAdd.B0_eq a n w   R ) h)
theorem api_SeqAdd.sound (a n : Int) (w : World) (R : Int → World → Prop) (h : api_SeqAdd.B0 a n w R) : api_SeqAdd.Call a n w R := by
  have hc := calls_of_block (args := #[.int .i64 a, .int .i64 n]) Tryz.func142 (body := (Tryz.f142.body.getD .skip)) (by kernel_rfl) (by kernel_rfl) (args_slot _) (api_SeqAdd.B0_sound a n w h)
  exact hc.mono fun e w' he => by
    obtain ⟨v, rfl, hv⟩ := he
    exact api_SeqAdd.RV_elim hv
def conn_Conn_flying.B2 (n : Int) (t28 : Bool) (w : World)   (R : Int → World → Prop) : Prop :=
  Bm t28 (
    R (IntKind.i64.wrap (n + (1 : Int))) w) (
    R n w)
theorem conn_Conn_flying.B2_eq (n : Int) (t28 : Bool) (w : World)   (R : Int → World → Prop)  :
    (
  Bm t28 (
    R (IntKind.i64.wrap (n + (1 : Int))) w) (
    R n w)) = kstep Tryz.prog 32 Tryz.f143.results.toList (Tryz.f143.body.getD .skip) (conn_Conn_flying.RV R) (kvc Tryz.prog 32 Tryz.f143.results.toList (Tryz.f143.body.getD .skip) (conn_Conn_flying.RV R) [] 2000) [(0, [1, 1, 1, 0, 1]), (0, [1, 1, 1, 1])] [(3, .int .i64 n), (28, .bool t28)] w := by kernel_rfl
theorem conn_Conn_flying.B2_sound {R : Int → World → Prop}  (n : Int) (t28 : Bool) (w : World) (h : conn_Conn_flying.B2 n t28 w   R) :
    KW Tryz.prog 143 32 (conn_Conn_flying.RV R) ([(0, [1, 1, 1, 0, 1]), (0, [1, 1, 1, 1])].map (toItem (Tryz.f143.body.getD .skip))) [(3, .int .i64 n), (28, .bool t28)] w := by
  exact block_spec Tryz.func143 Tryz.mixed stops_nil (Eq.mp (conn_Conn_flying.B2_eq n t28 w   R ) h)
def conn_Conn_flying.B1 (c : Option Addr) (t15 : Bool) (w : World)   (R : Int → World → Prop) : Prop :=
  Bm t15 (
    R (1 : Int) w) (
    conn_Conn_sent.Call c w fun r17 w1 =>
    Pn c fun a =>
    LdB (a.add 5) w1 fun x21 =>
    Bm x21 (
      Pn c fun a_1 =>
      LdB (a_1.add 6) w1 fun x26 =>
      conn_Conn_flying.B2 r17 (!x26) w1  R) (
      conn_Conn_flying.B2 r17 false w1  R))
theorem conn_Conn_flying.B1_eq (c : Option Addr) (t15 : Bool) (w : World)   (R : Int → World → Prop) (sB2 : Int → Bool → World → Prop) :
    (
  Bm t15 (
    R (1 : Int) w) (
    conn_Conn_sent.Call c w fun r17 w1 =>
    Pn c fun a =>
    LdB (a.add 5) w1 fun x21 =>
    Bm x21 (
      Pn c fun a_1 =>
      LdB (a_1.add 6) w1 fun x26 =>
      sB2 r17 (!x26) w1) (
      sB2 r17 false w1))) = kstep Tryz.prog 32 Tryz.f143.results.toList (Tryz.f143.body.getD .skip) (conn_Conn_flying.RV R) (kvc Tryz.prog 32 Tryz.f143.results.toList (Tryz.f143.body.getD .skip) (conn_Conn_flying.RV R) [([(0, [1, 1, 1, 0, 1]), (0, [1, 1, 1, 1])], fun σ w => dI .i64 (slotOf σ 3) fun n_ => dB (slotOf σ 28) fun t28_ => sB2 n_ t28_ w)] 2000) [(0, [1, 0, 1]), (0, [1, 1])] [(0, .pointer c), (15, .bool t15)] w := by kernel_rfl
theorem conn_Conn_flying.B1_sound {R : Int → World → Prop}  (c : Option Addr) (t15 : Bool) (w : World) (h : conn_Conn_flying.B1 c t15 w   R) :
    KW Tryz.prog 143 32 (conn_Conn_flying.RV R) ([(0, [1, 0, 1]), (0, [1, 1])].map (toItem (Tryz.f143.body.getD .skip))) [(0, .pointer c), (15, .bool t15)] w := by
  exact block_spec Tryz.func143 Tryz.mixed (stops_cons (fun σ w h => by
      obtain ⟨n_, e0, h⟩ := dI_elim h
      obtain ⟨t28_, e1, h⟩ := dB_elim h
      exact (conn_Conn_flying.B2_sound  n_ t28_ w h).weaken (Sub.cons (Sub.cons (Sub.nil _) e1) e0)) stops_nil) (Eq.mp (conn_Conn_flying.B1_eq c t15 w   R (fun n_ t28_ w => conn_Conn_flying.B2 n_ t28_ w  R)) h)
def conn_Conn_flying.B0 (c : Option Addr) (w : World)   (R : Int → World → Prop) : Prop :=
  Pn c fun a =>
  LdI .i64 (a.add 2) w fun x7 =>
  Bm (x7 == (1 : Int)) (
    conn_Conn_flying.B1 c true w  R) (
    Pn c fun a_1 =>
    LdI .i64 (a_1.add 2) w fun x13 =>
    conn_Conn_flying.B1 c (x13 == (2 : Int)) w  R)
theorem conn_Conn_flying.B0_eq (c : Option Addr) (w : World)   (R : Int → World → Prop) (sB1 : Option Addr → Bool → World → Prop) :
    (
  Pn c fun a =>
  LdI .i64 (a.add 2) w fun x7 =>
  Bm (x7 == (1 : Int)) (
    sB1 c true w) (
    Pn c fun a_1 =>
    LdI .i64 (a_1.add 2) w fun x13 =>
    sB1 c (x13 == (2 : Int)) w)) = kstep Tryz.prog 32 Tryz.f143.results.toList (Tryz.f143.body.getD .skip) (conn_Conn_flying.RV R) (kvc Tryz.prog 32 Tryz.f143.results.toList (Tryz.f143.body.getD .skip) (conn_Conn_flying.RV R) [([(0, [1, 0, 1]), (0, [1, 1])], fun σ w => dP (slotOf σ 0) fun c_ => dB (slotOf σ 15) fun t15_ => sB1 c_ t15_ w)] 2000) [(0, [])] [(0, .pointer c)] w := by kernel_rfl
theorem conn_Conn_flying.B0_sound {R : Int → World → Prop}  (c : Option Addr) (w : World) (h : conn_Conn_flying.B0 c w   R) :
    KW Tryz.prog 143 32 (conn_Conn_flying.RV R) ([(0, [])].map (toItem (Tryz.f143.body.getD .skip))) [(0, .pointer c)] w := by
  exact block_spec Tryz.func143 Tryz.mixed (stops_cons (fun σ w h => by
      obtain ⟨c_, e0, h⟩ := dP_elim h
      obtain ⟨t15_, e1, h⟩ := dB_elim h
      exact (conn_Conn_flying.B1_sound  c_ t15_ w h).weaken (Sub.cons (Sub.cons (Sub.nil _) e1) e0)) stops_nil) (Eq.mp (conn_Conn_flying.B0_eq c w   R (fun c_ t15_ w => conn_Conn_flying.B1 c_ t15_ w  R)) h)
theorem conn_Conn_flying.sound (c : Option Addr) (w : World) (R : Int → World → Prop) (h : conn_Conn_flying.B0 c w R) : conn_Conn_flying.Call c w R := by
  have hc := calls_of_block (args := #[.pointer c]) Tryz.func143 (body := (Tryz.f143.body.getD .skip)) (by kernel_rfl) (by kernel_rfl) (args_slot _) (conn_Conn_flying.B0_sound c w h)
  exact hc.mono fun e w' he => by
    obtain ⟨v, rfl, hv⟩ := he
    exact conn_Conn_flying.RV_elim hv
def seg_RecvBuf_Nxt.B0 (b : Option Addr) (w : World)   (R : Int → World → Prop) : Prop :=
  Pn b fun a =>
  LdI .u8 (a.add 16) w fun x6 =>
  R (IntKind.i64.wrap x6) w
theorem seg_RecvBuf_Nxt.B0_eq (b : Option Addr) (w : World)   (R : Int → World → Prop)  :
    (
  Pn b fun a =>
  LdI .u8 (a.add 16) w fun x6 =>
  R (IntKind.i64.wrap x6) w) = kstep Tryz.prog 8 Tryz.f144.results.toList (Tryz.f144.body.getD .skip) (seg_RecvBuf_Nxt.RV R) (kvc Tryz.prog 8 Tryz.f144.results.toList (Tryz.f144.body.getD .skip) (seg_RecvBuf_Nxt.RV R) [] 2000) [(0, [])] [(0, .pointer b)] w := by kernel_rfl
theorem seg_RecvBuf_Nxt.B0_sound {R : Int → World → Prop}  (b : Option Addr) (w : World) (h : seg_RecvBuf_Nxt.B0 b w   R) :
    KW Tryz.prog 144 8 (seg_RecvBuf_Nxt.RV R) ([(0, [])].map (toItem (Tryz.f144.body.getD .skip))) [(0, .pointer b)] w := by
  exact block_spec Tryz.func144 Tryz.mixed stops_nil (Eq.mp (seg_RecvBuf_Nxt.B0_eq b w   R ) h)
theorem seg_RecvBuf_Nxt.sound (b : Option Addr) (w : World) (R : Int → World → Prop) (h : seg_RecvBuf_Nxt.B0 b w R) : seg_RecvBuf_Nxt.Call b w R := by
  have hc := calls_of_block (args := #[.pointer b]) Tryz.func144 (body := (Tryz.f144.body.getD .skip)) (by kernel_rfl) (by kernel_rfl) (args_slot _) (seg_RecvBuf_Nxt.B0_sound b w h)
  exact hc.mono fun e w' he => by
    obtain ⟨v, rfl, hv⟩ := he
    exact seg_RecvBuf_Nxt.RV_elim hv
def frame_sound.B1 (t41 : Bool) (w : World)   (R : Int → World → Prop) : Prop :=
  Bm t41 (
    R (4 : Int) w) (
    R (0 : Int) w)
theorem frame_sound.B1_eq (t41 : Bool) (w : World)   (R : Int → World → Prop)  :
    (
  Bm t41 (
    R (4 : Int) w) (
    R (0 : Int) w)) = kstep Tryz.prog 42 Tryz.f145.results.toList (Tryz.f145.body.getD .skip) (frame_sound.RV R) (kvc Tryz.prog 42 Tryz.f145.results.toList (Tryz.f145.body.getD .skip) (frame_sound.RV R) [] 2000) [(0, [1, 1, 1, 1, 1, 1, 1, 1, 1, 0, 1]), (0, [1, 1, 1, 1, 1, 1, 1, 1, 1, 1])] [(41, .bool t41)] w := by kernel_rfl
theorem frame_sound.B1_sound {R : Int → World → Prop}  (t41 : Bool) (w : World) (h : frame_sound.B1 t41 w   R) :
    KW Tryz.prog 145 42 (frame_sound.RV R) ([(0, [1, 1, 1, 1, 1, 1, 1, 1, 1, 0, 1]), (0, [1, 1, 1, 1, 1, 1, 1, 1, 1, 1])].map (toItem (Tryz.f145.body.getD .skip))) [(41, .bool t41)] w := by
  exact block_spec Tryz.func145 Tryz.mixed stops_nil (Eq.mp (frame_sound.B1_eq t41 w   R ) h)
def frame_sound.B0 (raw_b : Option Addr) (raw_l raw_c : Nat) (w : World)   (R : Int → World → Prop) : Prop :=
  Bm (decide ((IntKind.i64.wrap (((raw_l : Nat) : Int) - (2 : Int))) < (4 : Int))) (
    R (1 : Int) w) (
    Bm (decide ((IntKind.i64.wrap (((raw_l : Nat) : Int) - (2 : Int))) > (28 : Int))) (
      R (2 : Int) w) (
      Pn raw_b fun a =>
      (0 ≤ (3 : Int) ∧ (3 : Int) < ((raw_l : Nat) : Int)) ∧
      LdI .u8 (a.add 3) w fun x16 =>
      Bm ((IntKind.i64.wrap x16) != (IntKind.i64.wrap ((IntKind.i64.wrap (((raw_l : Nat) : Int) - (2 : Int))) - (4 : Int)))) (
        R (3 : Int) w) (
        New (.cells #[.int .u8 (0 : Int), .int .u8 (0 : Int)] 221) w fun u_ w1 =>
        (0 ≤ (IntKind.i64.wrap (((raw_l : Nat) : Int) - (2 : Int))) ∧ (IntKind.i64.wrap (((raw_l : Nat) : Int) - (2 : Int))) ≤ ((raw_c : Nat) : Int)) ∧
        frame_Sum_AddAll.Call (some ⟨u_, 0, none⟩) (slBase raw_b ((0 : Nat) : Int) ((raw_c : Nat) : Int) 1) ((IntKind.i64.wrap (((raw_l : Nat) : Int) - (2 : Int))).toNat - ((0 : Nat) : Int).toNat) (((raw_c : Nat) : Int).toNat - ((0 : Nat) : Int).toNat) w1 fun w2 =>
        frame_Sum_A.Call (some ⟨u_, 0, none⟩) w2 fun r25 w3 =>
        frame_Sum_B.Call (some ⟨u_, 0, none⟩) w3 fun r26 w4 =>
        Pn raw_b fun a_1 =>
        (0 ≤ (IntKind.i64.wrap (((raw_l : Nat) : Int) - (2 : Int))) ∧ (IntKind.i64.wrap (((raw_l : Nat) : Int) - (2 : Int))) < ((raw_l : Nat) : Int)) ∧
        LdI .u8 (Addr.add a_1 ((IntKind.i64.wrap (((raw_l : Nat) : Int) - (2 : Int))).toNat * 1)) w4 fun x31 =>
        Bm (r25 != x31) (
          frame_sound.B1 true w4  R) (
          Pn raw_b fun a_2 =>
          (0 ≤ (IntKind.i64.wrap ((IntKind.i64.wrap (((raw_l : Nat) : Int) - (2 : Int))) + (1 : Int))) ∧ (IntKind.i64.wrap ((IntKind.i64.wrap (((raw_l : Nat) : Int) - (2 : Int))) + (1 : Int))) < ((raw_l : Nat) : Int)) ∧
          LdI .u8 (Addr.add a_2 ((IntKind.i64.wrap ((IntKind.i64.wrap (((raw_l : Nat) : Int) - (2 : Int))) + (1 : Int))).toNat * 1)) w4 fun x39 =>
          frame_sound.B1 (r26 != x39) w4  R))))
theorem frame_sound.B0_eq (raw_b : Option Addr) (raw_l raw_c : Nat) (w : World)   (R : Int → World → Prop) (sB1 : Bool → World → Prop) :
    (
  Bm (decide ((IntKind.i64.wrap (((raw_l : Nat) : Int) - (2 : Int))) < (4 : Int))) (
    R (1 : Int) w) (
    Bm (decide ((IntKind.i64.wrap (((raw_l : Nat) : Int) - (2 : Int))) > (28 : Int))) (
      R (2 : Int) w) (
      Pn raw_b fun a =>
      (0 ≤ (3 : Int) ∧ (3 : Int) < ((raw_l : Nat) : Int)) ∧
      LdI .u8 (a.add 3) w fun x16 =>
      Bm ((IntKind.i64.wrap x16) != (IntKind.i64.wrap ((IntKind.i64.wrap (((raw_l : Nat) : Int) - (2 : Int))) - (4 : Int)))) (
        R (3 : Int) w) (
        New (.cells #[.int .u8 (0 : Int), .int .u8 (0 : Int)] 221) w fun u_ w1 =>
        (0 ≤ (IntKind.i64.wrap (((raw_l : Nat) : Int) - (2 : Int))) ∧ (IntKind.i64.wrap (((raw_l : Nat) : Int) - (2 : Int))) ≤ ((raw_c : Nat) : Int)) ∧
        frame_Sum_AddAll.Call (some ⟨u_, 0, none⟩) (slBase raw_b ((0 : Nat) : Int) ((raw_c : Nat) : Int) 1) ((IntKind.i64.wrap (((raw_l : Nat) : Int) - (2 : Int))).toNat - ((0 : Nat) : Int).toNat) (((raw_c : Nat) : Int).toNat - ((0 : Nat) : Int).toNat) w1 fun w2 =>
        frame_Sum_A.Call (some ⟨u_, 0, none⟩) w2 fun r25 w3 =>
        frame_Sum_B.Call (some ⟨u_, 0, none⟩) w3 fun r26 w4 =>
        Pn raw_b fun a_1 =>
        (0 ≤ (IntKind.i64.wrap (((raw_l : Nat) : Int) - (2 : Int))) ∧ (IntKind.i64.wrap (((raw_l : Nat) : Int) - (2 : Int))) < ((raw_l : Nat) : Int)) ∧
        LdI .u8 (Addr.add a_1 ((IntKind.i64.wrap (((raw_l : Nat) : Int) - (2 : Int))).toNat * 1)) w4 fun x31 =>
        Bm (r25 != x31) (
          sB1 true w4) (
          Pn raw_b fun a_2 =>
          (0 ≤ (IntKind.i64.wrap ((IntKind.i64.wrap (((raw_l : Nat) : Int) - (2 : Int))) + (1 : Int))) ∧ (IntKind.i64.wrap ((IntKind.i64.wrap (((raw_l : Nat) : Int) - (2 : Int))) + (1 : Int))) < ((raw_l : Nat) : Int)) ∧
          LdI .u8 (Addr.add a_2 ((IntKind.i64.wrap ((IntKind.i64.wrap (((raw_l : Nat) : Int) - (2 : Int))) + (1 : Int))).toNat * 1)) w4 fun x39 =>
          sB1 (r26 != x39) w4))))) = kstep Tryz.prog 42 Tryz.f145.results.toList (Tryz.f145.body.getD .skip) (frame_sound.RV R) (kvc Tryz.prog 42 Tryz.f145.results.toList (Tryz.f145.body.getD .skip) (frame_sound.RV R) [([(0, [1, 1, 1, 1, 1, 1, 1, 1, 1, 0, 1]), (0, [1, 1, 1, 1, 1, 1, 1, 1, 1, 1])], fun σ w => dB (slotOf σ 41) fun t41_ => sB1 t41_ w)] 2000) [(0, [])] [(0, .slice raw_b raw_l raw_c)] w := by kernel_rfl
theorem frame_sound.B0_sound {R : Int → World → Prop}  (raw_b : Option Addr) (raw_l raw_c : Nat) (w : World) (h : frame_sound.B0 raw_b raw_l raw_c w   R) :
    KW Tryz.prog 145 42 (frame_sound.RV R) ([(0, [])].map (toItem (Tryz.f145.body.getD .skip))) [(0, .slice raw_b raw_l raw_c)] w := by
  exact block_spec Tryz.func145 Tryz.mixed (stops_cons (fun σ w h => by
      obtain ⟨t41_, e0, h⟩ := dB_elim h
      exact (frame_sound.B1_sound  t41_ w h).weaken (Sub.cons (Sub.nil _) e0)) stops_nil) (Eq.mp (frame_sound.B0_eq raw_b raw_l raw_c w   R (fun t41_ w => frame_sound.B1 t41_ w  R)) h)
theorem frame_sound.sound (raw_b : Option Addr) (raw_l raw_c : Nat) (w : World) (R : Int → World → Prop) (h : frame_sound.B0 raw_b raw_l raw_c w R) : frame_sound.Call raw_b raw_l raw_c w R := by
  have hc := calls_of_block (args := #[.slice raw_b raw_l raw_c]) Tryz.func145 (body := (Tryz.f145.body.getD .skip)) (by kernel_rfl) (by kernel_rfl) (args_slot _) (frame_sound.B0_sound raw_b raw_l raw_c w h)
  exact hc.mono fun e w' he => by
    obtain ⟨v, rfl, hv⟩ := he
    exact frame_sound.RV_elim hv
end Go.Proofs.Qxb6500424aGreat
