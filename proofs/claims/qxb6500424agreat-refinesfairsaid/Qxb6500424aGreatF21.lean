import Derived.Test.Qxb6500424aGreatSig
set_option maxRecDepth 100000
set_option linter.unusedVariables false
open Go.Vc
namespace Go.Proofs.Qxb6500424aGreat
def sock_Table_Child.B3 (t : Option Addr) (lport rhost rport l s : Int) (t51 : Bool) (w : World)   (R : Int → Int → World → Prop) : Prop :=
  Bm t51 (
    R (0 : Int) (11 : Int) w) (
    Pn t fun a =>
    (0 ≤ l ∧ l < ((6 : Nat) : Int)) ∧
    LdI .i64 ((Addr.add a (l.toNat * 15)).add 1) w fun x64 =>
    sock_Table_conn.Call t lport rhost rport s x64 w fun r65 w1 =>
    Bm (r65 == (0 : Int)) (
      R (0 : Int) (11 : Int) w1) (
      Pn t fun a_1 =>
      (0 ≤ l ∧ l < ((6 : Nat) : Int)) ∧
      LdI .i64 ((Addr.add a_1 (l.toNat * 15)).add 10) w1.drew fun x74 =>
      Pn t fun a_2 =>
      (0 ≤ l ∧ l < ((6 : Nat) : Int)) ∧
      Sts [.int .i64 (IntKind.i64.wrap (x74 + (1 : Int)))] ((Addr.add a_2 (l.toNat * 15)).add 10) 0 w1.drew fun w2 =>
      R r65 (0 : Int) w2))
theorem sock_Table_Child.B3_eq (t : Option Addr) (lport rhost rport l s : Int) (t51 : Bool) (w : World)   (R : Int → Int → World → Prop)  :
    (
  Bm t51 (
    R (0 : Int) (11 : Int) w) (
    Pn t fun a =>
    (0 ≤ l ∧ l < ((6 : Nat) : Int)) ∧
    LdI .i64 ((Addr.add a (l.toNat * 15)).add 1) w fun x64 =>
    sock_Table_conn.Call t lport rhost rport s x64 w fun r65 w1 =>
    Bm (r65 == (0 : Int)) (
      R (0 : Int) (11 : Int) w1) (
      Pn t fun a_1 =>
      (0 ≤ l ∧ l < ((6 : Nat) : Int)) ∧
      LdI .i64 ((Addr.add a_1 (l.toNat * 15)).add 10) w1.drew fun x74 =>
      Pn t fun a_2 =>
      (0 ≤ l ∧ l < ((6 : Nat) : Int)) ∧
      Sts [.int .i64 (IntKind.i64.wrap (x74 + (1 : Int)))] ((Addr.add a_2 (l.toNat * 15)).add 10) 0 w1.drew fun w2 =>
      R r65 (0 : Int) w2))) = kstep Tryz.prog 81 Tryz.f159.results.toList (Tryz.f159.body.getD .skip) (sock_Table_Child.RV R) (kvc Tryz.prog 81 Tryz.f159.results.toList (Tryz.f159.body.getD .skip) (sock_Table_Child.RV R) [] 2000) [(0, [1, 1, 1, 1, 1, 1, 1, 1, 0, 1]), (0, [1, 1, 1, 1, 1, 1, 1, 1, 1])] [(0, .pointer t), (1, .int .i64 lport), (2, .int .i64 rhost), (3, .int .i64 rport), (10, .int .i64 l), (12, .int .i64 s), (51, .bool t51)] w := by kernel_rfl
theorem sock_Table_Child.B3_sound {R : Int → Int → World → Prop}  (t : Option Addr) (lport rhost rport l s : Int) (t51 : Bool) (w : World) (h : sock_Table_Child.B3 t lport rhost rport l s t51 w   R) :
    KW Tryz.prog 159 81 (sock_Table_Child.RV R) ([(0, [1, 1, 1, 1, 1, 1, 1, 1, 0, 1]), (0, [1, 1, 1, 1, 1, 1, 1, 1, 1])].map (toItem (Tryz.f159.body.getD .skip))) [(0, .pointer t), (1, .int .i64 lport), (2, .int .i64 rhost), (3, .int .i64 rport), (10, .int .i64 l), (12, .int .i64 s), (51, .bool t51)] w := by
  exact block_spec Tryz.func159 Tryz.mixed stops_nil (Eq.mp (sock_Table_Child.B3_eq t lport rhost rport l s t51 w   R ) h)
def sock_Table_Child.B2 (t : Option Addr) (lport rhost rport l : Int) (t30 : Bool) (w : World)   (R : Int → Int → World → Prop) : Prop :=
  Bm t30 (
    R (0 : Int) (22 : Int) w) (
    sock_Table_Lookup.Call t lport rhost rport w fun r35 w1 =>
    Bm (r35 != (0 : Int)) (
      R (0 : Int) (23 : Int) w1) (
      sock_Table_lowBlock.Call t w1 fun r39 w2 =>
      Pn t fun a =>
      (0 ≤ l ∧ l < ((6 : Nat) : Int)) ∧
      LdI .i64 ((Addr.add a (l.toNat * 15)).add 10) w2 fun x46 =>
      Bm (decide (x46 ≥ (2 : Int))) (
        sock_Table_Child.B3 t lport rhost rport l r39 true w2  R) (
        sock_Table_Child.B3 t lport rhost rport l r39 (r39 == (-1 : Int)) w2  R)))
theorem sock_Table_Child.B2_eq (t : Option Addr) (lport rhost rport l : Int) (t30 : Bool) (w : World)   (R : Int → Int → World → Prop) (sB3 : Option Addr → Int → Int → Int → Int → Int → Bool → World → Prop) :
    (
  Bm t30 (
    R (0 : Int) (22 : Int) w) (
    sock_Table_Lookup.Call t lport rhost rport w fun r35 w1 =>
    Bm (r35 != (0 : Int)) (
      R (0 : Int) (23 : Int) w1) (
      sock_Table_lowBlock.Call t w1 fun r39 w2 =>
      Pn t fun a =>
      (0 ≤ l ∧ l < ((6 : Nat) : Int)) ∧
      LdI .i64 ((Addr.add a (l.toNat * 15)).add 10) w2 fun x46 =>
      Bm (decide (x46 ≥ (2 : Int))) (
        sB3 t lport rhost rport l r39 true w2) (
        sB3 t lport rhost rport l r39 (r39 == (-1 : Int)) w2)))) = kstep Tryz.prog 81 Tryz.f159.results.toList (Tryz.f159.body.getD .skip) (sock_Table_Child.RV R) (kvc Tryz.prog 81 Tryz.f159.results.toList (Tryz.f159.body.getD .skip) (sock_Table_Child.RV R) [([(0, [1, 1, 1, 1, 1, 1, 1, 1, 0, 1]), (0, [1, 1, 1, 1, 1, 1, 1, 1, 1])], fun σ w => dP (slotOf σ 0) fun t_ => dI .i64 (slotOf σ 1) fun lport_ => dI .i64 (slotOf σ 2) fun rhost_ => dI .i64 (slotOf σ 3) fun rport_ => dI .i64 (slotOf σ 10) fun l_ => dI .i64 (slotOf σ 12) fun s_ => dB (slotOf σ 51) fun t51_ => sB3 t_ lport_ rhost_ rport_ l_ s_ t51_ w)] 2000) [(0, [1, 1, 1, 1, 0, 1]), (0, [1, 1, 1, 1, 1])] [(0, .pointer t), (1, .int .i64 lport), (2, .int .i64 rhost), (3, .int .i64 rport), (10, .int .i64 l), (30, .bool t30)] w := by kernel_rfl
theorem sock_Table_Child.B2_sound {R : Int → Int → World → Prop}  (t : Option Addr) (lport rhost rport l : Int) (t30 : Bool) (w : World) (h : sock_Table_Child.B2 t lport rhost rport l t30 w   R) :
    KW Tryz.prog 159 81 (sock_Table_Child.RV R) ([(0, [1, 1, 1, 1, 0, 1]), (0, [1, 1, 1, 1, 1])].map (toItem (Tryz.f159.body.getD .skip))) [(0, .pointer t), (1, .int .i64 lport), (2, .int .i64 rhost), (3, .int .i64 rport), (10, .int .i64 l), (30, .bool t30)] w := by
  exact block_spec Tryz.func159 Tryz.mixed (stops_cons (fun σ w h => by
      obtain ⟨t_, e0, h⟩ := dP_elim h
      obtain ⟨lport_, e1, h⟩ := dI_elim h
      obtain ⟨rhost_, e2, h⟩ := dI_elim h
      obtain ⟨rport_, e3, h⟩ := dI_elim h
      obtain ⟨l_, e4, h⟩ := dI_elim h
      obtain ⟨s_, e5, h⟩ := dI_elim h
      obtain ⟨t51_, e6, h⟩ := dB_elim h
      exact (sock_Table_Child.B3_sound  t_ lport_ rhost_ rport_ l_ s_ t51_ w h).weaken (Sub.cons (Sub.cons (Sub.cons (Sub.cons (Sub.cons (Sub.cons (Sub.cons (Sub.nil _) e6) e5) e4) e3) e2) e1) e0)) stops_nil) (Eq.mp (sock_Table_Child.B2_eq t lport rhost rport l t30 w   R (fun t_ lport_ rhost_ rport_ l_ s_ t51_ w => sock_Table_Child.B3 t_ lport_ rhost_ rport_ l_ s_ t51_ w  R)) h)
def sock_Table_Child.B1 (t : Option Addr) (lport rhost rport l : Int) (t24 : Bool) (w : World)   (R : Int → Int → World → Prop) : Prop :=
  Bm t24 (
    R (0 : Int) (5 : Int) w) (
    Bm (decide (rport < (1 : Int))) (
      sock_Table_Child.B2 t lport rhost rport l true w  R) (
      sock_Table_Child.B2 t lport rhost rport l (decide (rport > (15 : Int))) w  R))
theorem sock_Table_Child.B1_eq (t : Option Addr) (lport rhost rport l : Int) (t24 : Bool) (w : World)   (R : Int → Int → World → Prop) (sB2 : Option Addr → Int → Int → Int → Int → Bool → World → Prop) :
    (
  Bm t24 (
    R (0 : Int) (5 : Int) w) (
    Bm (decide (rport < (1 : Int))) (
      sB2 t lport rhost rport l true w) (
      sB2 t lport rhost rport l (decide (rport > (15 : Int))) w))) = kstep Tryz.prog 81 Tryz.f159.results.toList (Tryz.f159.body.getD .skip) (sock_Table_Child.RV R) (kvc Tryz.prog 81 Tryz.f159.results.toList (Tryz.f159.body.getD .skip) (sock_Table_Child.RV R) [([(0, [1, 1, 1, 1, 0, 1]), (0, [1, 1, 1, 1, 1])], fun σ w => dP (slotOf σ 0) fun t_ => dI .i64 (slotOf σ 1) fun lport_ => dI .i64 (slotOf σ 2) fun rhost_ => dI .i64 (slotOf σ 3) fun rport_ => dI .i64 (slotOf σ 10) fun l_ => dB (slotOf σ 30) fun t30_ => sB2 t_ lport_ rhost_ rport_ l_ t30_ w)] 2000) [(0, [1, 1, 1, 0, 1]), (0, [1, 1, 1, 1])] [(0, .pointer t), (1, .int .i64 lport), (2, .int .i64 rhost), (3, .int .i64 rport), (10, .int .i64 l), (24, .bool t24)] w := by kernel_rfl
theorem sock_Table_Child.B1_sound {R : Int → Int → World → Prop}  (t : Option Addr) (lport rhost rport l : Int) (t24 : Bool) (w : World) (h : sock_Table_Child.B1 t lport rhost rport l t24 w   R) :
    KW Tryz.prog 159 81 (sock_Table_Child.RV R) ([(0, [1, 1, 1, 0, 1]), (0, [1, 1, 1, 1])].map (toItem (Tryz.f159.body.getD .skip))) [(0, .pointer t), (1, .int .i64 lport), (2, .int .i64 rhost), (3, .int .i64 rport), (10, .int .i64 l), (24, .bool t24)] w := by
  exact block_spec Tryz.func159 Tryz.mixed (stops_cons (fun σ w h => by
      obtain ⟨t_, e0, h⟩ := dP_elim h
      obtain ⟨lport_, e1, h⟩ := dI_elim h
      obtain ⟨rhost_, e2, h⟩ := dI_elim h
      obtain ⟨rport_, e3, h⟩ := dI_elim h
      obtain ⟨l_, e4, h⟩ := dI_elim h
      obtain ⟨t30_, e5, h⟩ := dB_elim h
      exact (sock_Table_Child.B2_sound  t_ lport_ rhost_ rport_ l_ t30_ w h).weaken (Sub.cons (Sub.cons (Sub.cons (Sub.cons (Sub.cons (Sub.cons (Sub.nil _) e5) e4) e3) e2) e1) e0)) stops_nil) (Eq.mp (sock_Table_Child.B1_eq t lport rhost rport l t24 w   R (fun t_ lport_ rhost_ rport_ l_ t30_ w => sock_Table_Child.B2 t_ lport_ rhost_ rport_ l_ t30_ w  R)) h)
def sock_Table_Child.B0 (t : Option Addr) (lport rhost rport : Int) (w : World)   (R : Int → Int → World → Prop) : Prop :=
  sock_Table_listenerRow.Call t lport w fun r16 w1 =>
  Bm (r16 == (-1 : Int)) (
    R (0 : Int) (21 : Int) w1) (
    Bm (decide (rhost < (1 : Int))) (
      sock_Table_Child.B1 t lport rhost rport r16 true w1  R) (
      sock_Table_Child.B1 t lport rhost rport r16 (decide (rhost > (255 : Int))) w1  R))
theorem sock_Table_Child.B0_eq (t : Option Addr) (lport rhost rport : Int) (w : World)   (R : Int → Int → World → Prop) (sB1 : Option Addr → Int → Int → Int → Int → Bool → World → Prop) :
    (
  sock_Table_listenerRow.Call t lport w fun r16 w1 =>
  Bm (r16 == (-1 : Int)) (
    R (0 : Int) (21 : Int) w1) (
    Bm (decide (rhost < (1 : Int))) (
      sB1 t lport rhost rport r16 true w1) (
      sB1 t lport rhost rport r16 (decide (rhost > (255 : Int))) w1))) = kstep Tryz.prog 81 Tryz.f159.results.toList (Tryz.f159.body.getD .skip) (sock_Table_Child.RV R) (kvc Tryz.prog 81 Tryz.f159.results.toList (Tryz.f159.body.getD .skip) (sock_Table_Child.RV R) [([(0, [1, 1, 1, 0, 1]), (0, [1, 1, 1, 1])], fun σ w => dP (slotOf σ 0) fun t_ => dI .i64 (slotOf σ 1) fun lport_ => dI .i64 (slotOf σ 2) fun rhost_ => dI .i64 (slotOf σ 3) fun rport_ => dI .i64 (slotOf σ 10) fun l_ => dB (slotOf σ 24) fun t24_ => sB1 t_ lport_ rhost_ rport_ l_ t24_ w)] 2000) [(0, [])] [(0, .pointer t), (1, .int .i64 lport), (2, .int .i64 rhost), (3, .int .i64 rport)] w := by kernel_rfl
theorem sock_Table_Child.B0_sound {R : Int → Int → World → Prop}  (t : Option Addr) (lport rhost rport : Int) (w : World) (h : sock_Table_Child.B0 t lport rhost rport w   R) :
    KW Tryz.prog 159 81 (sock_Table_Child.RV R) ([(0, [])].map (toItem (Tryz.f159.body.getD .skip))) [(0, .pointer t), (1, .int .i64 lport), (2, .int .i64 rhost), (3, .int .i64 rport)] w := by
  exact block_spec Tryz.func159 Tryz.mixed (stops_cons (fun σ w h => by
      obtain ⟨t_, e0, h⟩ := dP_elim h
      obtain ⟨lport_, e1, h⟩ := dI_elim h
      obtain ⟨rhost_, e2, h⟩ := dI_elim h
      obtain ⟨rport_, e3, h⟩ := dI_elim h
      obtain ⟨l_, e4, h⟩ := dI_elim h
      obtain ⟨t24_, e5, h⟩ := dB_elim h
      exact (sock_Table_Child.B1_sound  t_ lport_ rhost_ rport_ l_ t24_ w h).weaken (Sub.cons (Sub.cons (Sub.cons (Sub.cons (Sub.cons (Sub.cons (Sub.nil _) e5) e4) e3) e2) e1) e0)) stops_nil) (Eq.mp (sock_Table_Child.B0_eq t lport rhost rport w   R (fun t_ lport_ rhost_ rport_ l_ t24_ w => sock_Table_Child.B1 t_ lport_ rhost_ rport_ l_ t24_ w  R)) h)
theorem sock_Table_Child.sound (t : Option Addr) (lport rhost rport : Int) (w : World) (R : Int → Int → World → Prop) (h : sock_Table_Child.B0 t lport rhost rport w R) : sock_Table_Child.Call t lport rhost rport w R := by
  have hc := calls_of_block (args := #[.pointer t, .int .i64 lport, .int .i64 rhost, .int .i64 rport]) Tryz.func159 (body := (Tryz.f159.body.getD .skip)) (by kernel_rfl) (by kernel_rfl) (args_slot _) (sock_Table_Child.B0_sound t lport rhost rport w h)
  exact hc.mono fun e w' he => by
    obtain ⟨v, rfl, hv⟩ := he
    exact sock_Table_Child.RV_elim hv
def conn_Conn_OpenPassive.B0 (c : Option Addr) (iss syn_0 syn_1 syn_2 syn_3 syn_4 syn_5 : Int) (syn_6_b : Option Addr) (syn_6_l syn_6_c : Nat) (w : World)   (R : Option Addr → Nat → Nat → Int → World → Prop) : Prop :=
  New (.cells #[.int .i64 syn_0, .int .i64 syn_1, .int .i64 syn_2, .int .i64 syn_3, .int .i64 syn_4, .int .i64 syn_5, .slice syn_6_b syn_6_l syn_6_c] 177) w fun syn_ w1 =>
  Pn c fun a =>
  LdI .i64 (a.add 2) w1 fun x13 =>
  Bm (x13 != (0 : Int)) (
    R none 0 0 (13 : Int) w1) (
    LdI .i64 ⟨syn_, 4, none⟩ w1 fun x16 =>
    Bm ((IntKind.i64.wrap (BitVec.ofInt IntKind.i64.bits x16 &&& BitVec.ofInt IntKind.i64.bits (15 : Int)).toNat) != (1 : Int)) (
      R none 0 0 (24 : Int) w1) (
      conn_Conn_begin.Call c (2 : Int) iss w1 fun w2 =>
      LdI .i64 ⟨syn_, 2, none⟩ w2 fun x23 =>
      api_SeqAdd.Call x23 (1 : Int) w2 fun r24 w3 =>
      Pn c fun a_1 =>
      LdP (a_1.add 1) w3 fun x28 =>
      seg_RecvBuf_Reset.Call x28 r24 w3 fun w4 =>
      LdI .i64 ⟨syn_, 5, none⟩ w4 fun x33 =>
      conn_window.Call x33 w4 fun r34 w5 =>
      Pn c fun a_2 =>
      Sts [.int .i64 r34] (a_2.add 9) 0 w5 fun w6 =>
      conn_Conn_again.Call c w6 fun r38_0 r38_1 r38_2 r38_3 r38_4 r38_5 r38_6_b r38_6_l r38_6_c w7 =>
      New (.cells #[.int .i64 (0 : Int), .int .i64 (0 : Int), .int .i64 (0 : Int), .int .i64 (0 : Int), .int .i64 (0 : Int), .int .i64 (0 : Int), .slice none 0 0] 177) w7 fun s_ w8 =>
      Sts [.int .i64 r38_0, .int .i64 r38_1, .int .i64 r38_2, .int .i64 r38_3, .int .i64 r38_4, .int .i64 r38_5, .slice r38_6_b r38_6_l r38_6_c] ⟨s_, 0, none⟩ 0 w8 fun w9 =>
      LdI .i64 ⟨s_, 0, none⟩ w9 fun x39_0 =>
      LdI .i64 ⟨s_, 1, none⟩ w9 fun x39_1 =>
      LdI .i64 ⟨s_, 2, none⟩ w9 fun x39_2 =>
      LdI .i64 ⟨s_, 3, none⟩ w9 fun x39_3 =>
      LdI .i64 ⟨s_, 4, none⟩ w9 fun x39_4 =>
      LdI .i64 ⟨s_, 5, none⟩ w9 fun x39_5 =>
      LdL ⟨s_, 6, none⟩ w9 fun x39_6_b x39_6_l x39_6_c =>
      conn_one.Call x39_0 x39_1 x39_2 x39_3 x39_4 x39_5 x39_6_b x39_6_l x39_6_c w9 fun r40_b r40_l r40_c w10 =>
      R r40_b r40_l r40_c (0 : Int) w10))
theorem conn_Conn_OpenPassive.B0_eq (c : Option Addr) (iss syn_0 syn_1 syn_2 syn_3 syn_4 syn_5 : Int) (syn_6_b : Option Addr) (syn_6_l syn_6_c : Nat) (w : World)   (R : Option Addr → Nat → Nat → Int → World → Prop)  :
    (
  New (.cells #[.int .i64 syn_0, .int .i64 syn_1, .int .i64 syn_2, .int .i64 syn_3, .int .i64 syn_4, .int .i64 syn_5, .slice syn_6_b syn_6_l syn_6_c] 177) w fun syn_ w1 =>
  Pn c fun a =>
  LdI .i64 (a.add 2) w1 fun x13 =>
  Bm (x13 != (0 : Int)) (
    R none 0 0 (13 : Int) w1) (
    LdI .i64 ⟨syn_, 4, none⟩ w1 fun x16 =>
    Bm ((IntKind.i64.wrap (BitVec.ofInt IntKind.i64.bits x16 &&& BitVec.ofInt IntKind.i64.bits (15 : Int)).toNat) != (1 : Int)) (
      R none 0 0 (24 : Int) w1) (
      conn_Conn_begin.Call c (2 : Int) iss w1 fun w2 =>
      LdI .i64 ⟨syn_, 2, none⟩ w2 fun x23 =>
      api_SeqAdd.Call x23 (1 : Int) w2 fun r24 w3 =>
      Pn c fun a_1 =>
      LdP (a_1.add 1) w3 fun x28 =>
      seg_RecvBuf_Reset.Call x28 r24 w3 fun w4 =>
      LdI .i64 ⟨syn_, 5, none⟩ w4 fun x33 =>
      conn_window.Call x33 w4 fun r34 w5 =>
      Pn c fun a_2 =>
      Sts [.int .i64 r34] (a_2.add 9) 0 w5 fun w6 =>
      conn_Conn_again.Call c w6 fun r38_0 r38_1 r38_2 r38_3 r38_4 r38_5 r38_6_b r38_6_l r38_6_c w7 =>
      New (.cells #[.int .i64 (0 : Int), .int .i64 (0 : Int), .int .i64 (0 : Int), .int .i64 (0 : Int), .int .i64 (0 : Int), .int .i64 (0 : Int), .slice none 0 0] 177) w7 fun s_ w8 =>
      Sts [.int .i64 r38_0, .int .i64 r38_1, .int .i64 r38_2, .int .i64 r38_3, .int .i64 r38_4, .int .i64 r38_5, .slice r38_6_b r38_6_l r38_6_c] ⟨s_, 0, none⟩ 0 w8 fun w9 =>
      LdI .i64 ⟨s_, 0, none⟩ w9 fun x39_0 =>
      LdI .i64 ⟨s_, 1, none⟩ w9 fun x39_1 =>
      LdI .i64 ⟨s_, 2, none⟩ w9 fun x39_2 =>
      LdI .i64 ⟨s_, 3, none⟩ w9 fun x39_3 =>
      LdI .i64 ⟨s_, 4, none⟩ w9 fun x39_4 =>
      LdI .i64 ⟨s_, 5, none⟩ w9 fun x39_5 =>
      LdL ⟨s_, 6, none⟩ w9 fun x39_6_b x39_6_l x39_6_c =>
      conn_one.Call x39_0 x39_1 x39_2 x39_3 x39_4 x39_5 x39_6_b x39_6_l x39_6_c w9 fun r40_b r40_l r40_c w10 =>
      R r40_b r40_l r40_c (0 : Int) w10))) = kstep Tryz.prog 41 Tryz.f160.results.toList (Tryz.f160.body.getD .skip) (conn_Conn_OpenPassive.RV R) (kvc Tryz.prog 41 Tryz.f160.results.toList (Tryz.f160.body.getD .skip) (conn_Conn_OpenPassive.RV R) [] 2000) [(0, [])] [(0, .pointer c), (1, .int .i64 iss), (2, .agg #[.int .i64 syn_0, .int .i64 syn_1, .int .i64 syn_2, .int .i64 syn_3, .int .i64 syn_4, .int .i64 syn_5, .slice syn_6_b syn_6_l syn_6_c])] w := by kernel_rfl
theorem conn_Conn_OpenPassive.B0_sound {R : Option Addr → Nat → Nat → Int → World → Prop}  (c : Option Addr) (iss syn_0 syn_1 syn_2 syn_3 syn_4 syn_5 : Int) (syn_6_b : Option Addr) (syn_6_l syn_6_c : Nat) (w : World) (h : conn_Conn_OpenPassive.B0 c iss syn_0 syn_1 syn_2 syn_3 syn_4 syn_5 syn_6_b syn_6_l syn_6_c w   R) :
    KW Tryz.prog 160 41 (conn_Conn_OpenPassive.RV R) ([(0, [])].map (toItem (Tryz.f160.body.getD .skip))) [(0, .pointer c), (1, .int .i64 iss), (2, .agg #[.int .i64 syn_0, .int .i64 syn_1, .int .i64 syn_2, .int .i64 syn_3, .int .i64 syn_4, .int .i64 syn_5, .slice syn_6_b syn_6_l syn_6_c])] w := by
  exact block_spec Tryz.func160 Tryz.mixed stops_nil (Eq.mp (conn_Conn_OpenPassive.B0_eq c iss syn_0 syn_1 syn_2 syn_3 syn_4 syn_5 syn_6_b syn_6_l syn_6_c w   R ) h)
theorem conn_Conn_OpenPassive.sound (c : Option Addr) (iss syn_0 syn_1 syn_2 syn_3 syn_4 syn_5 : Int) (syn_6_b : Option Addr) (syn_6_l syn_6_c : Nat) (w : World) (R : Option Addr → Nat → Nat → Int → World → Prop) (h : conn_Conn_OpenPassive.B0 c iss syn_0 syn_1 syn_2 syn_3 syn_4 syn_5 syn_6_b syn_6_l syn_6_c w R) : conn_Conn_OpenPassive.Call c iss syn_0 syn_1 syn_2 syn_3 syn_4 syn_5 syn_6_b syn_6_l syn_6_c w R := by
  have hc := calls_of_block (args := #[.pointer c, .int .i64 iss, .agg #[.int .i64 syn_0, .int .i64 syn_1, .int .i64 syn_2, .int .i64 syn_3, .int .i64 syn_4, .int .i64 syn_5, .slice syn_6_b syn_6_l syn_6_c]]) Tryz.func160 (body := (Tryz.f160.body.getD .skip)) (by kernel_rfl) (by kernel_rfl) (args_slot _) (conn_Conn_OpenPassive.B0_sound c iss syn_0 syn_1 syn_2 syn_3 syn_4 syn_5 syn_6_b syn_6_l syn_6_c w h)
  exact hc.mono fun e w' he => by
    obtain ⟨v, rfl, hv⟩ := he
    exact conn_Conn_OpenPassive.RV_elim hv
def seg_Encode.B5 (raw_b : Option Addr) (raw_l raw_c x : Nat) (w : World)   (R : Option Addr → Nat → Nat → Int → World → Prop) : Prop :=
  LdI .u8 ⟨x, 0, none⟩ w fun x131 =>
  Pn raw_b fun a =>
  (0 ≤ (6 : Int) ∧ (6 : Int) < ((raw_l : Nat) : Int)) ∧
  Sts [.int .u8 x131] (a.add 6) 0 w fun w1 =>
  LdI .u8 ⟨x, 1, none⟩ w1 fun x135 =>
  Pn raw_b fun a_1 =>
  (0 ≤ (7 : Int) ∧ (7 : Int) < ((raw_l : Nat) : Int)) ∧
  Sts [.int .u8 x135] (a_1.add 7) 0 w1 fun w2 =>
  R raw_b raw_l raw_c (0 : Int) w2
theorem seg_Encode.B5_eq (raw_b : Option Addr) (raw_l raw_c x : Nat) (w : World)   (R : Option Addr → Nat → Nat → Int → World → Prop)  :
    (
  LdI .u8 ⟨x, 0, none⟩ w fun x131 =>
  Pn raw_b fun a =>
  (0 ≤ (6 : Int) ∧ (6 : Int) < ((raw_l : Nat) : Int)) ∧
  Sts [.int .u8 x131] (a.add 6) 0 w fun w1 =>
  LdI .u8 ⟨x, 1, none⟩ w1 fun x135 =>
  Pn raw_b fun a_1 =>
  (0 ≤ (7 : Int) ∧ (7 : Int) < ((raw_l : Nat) : Int)) ∧
  Sts [.int .u8 x135] (a_1.add 7) 0 w1 fun w2 =>
  R raw_b raw_l raw_c (0 : Int) w2) = kstep Tryz.prog 138 Tryz.f161.results.toList (Tryz.f161.body.getD .skip) (seg_Encode.RV R) (kvc Tryz.prog 138 Tryz.f161.results.toList (Tryz.f161.body.getD .skip) (seg_Encode.RV R) [] 2000) [(0, [1, 1, 1, 1, 1, 1, 1, 1, 1, 1, 1, 1, 1, 1, 1])] [(8, .slice raw_b raw_l raw_c), (9, .pointer (some ⟨x, 0, none⟩))] w := by kernel_rfl
theorem seg_Encode.B5_sound {R : Option Addr → Nat → Nat → Int → World → Prop}  (raw_b : Option Addr) (raw_l raw_c x : Nat) (w : World) (h : seg_Encode.B5 raw_b raw_l raw_c x w   R) :
    KW Tryz.prog 161 138 (seg_Encode.RV R) ([(0, [1, 1, 1, 1, 1, 1, 1, 1, 1, 1, 1, 1, 1, 1, 1])].map (toItem (Tryz.f161.body.getD .skip))) [(8, .slice raw_b raw_l raw_c), (9, .pointer (some ⟨x, 0, none⟩))] w := by
  exact block_spec Tryz.func161 Tryz.mixed stops_nil (Eq.mp (seg_Encode.B5_eq raw_b raw_l raw_c x w   R ) h)
def seg_Encode.B4 (src dst : Int) (s : Nat) (t77 : Bool) (w : World)   (R : Option Addr → Nat → Nat → Int → World → Prop) : Prop :=
  Bm t77 (
    R none 0 0 (24 : Int) w) (
    LdL ⟨s, 6, none⟩ w fun x79_b x79_l x79_c =>
    Bm (decide (((x79_l : Nat) : Int) > (12 : Int))) (
      R none 0 0 (2 : Int) w) (
      LdL ⟨s, 6, none⟩ w fun x83_b x83_l x83_c =>
      Make 5 (.int .u8 (0 : Int)) 1 1 (IntKind.i64.wrap ((8 : Int) + ((x83_l : Nat) : Int))) (IntKind.i64.wrap ((8 : Int) + ((x83_l : Nat) : Int))) w fun b86 w1 =>
      LdI .i64 ⟨s, 0, none⟩ w1 fun x89 =>
      (0 ≤ (0 : Int) ∧ (0 : Int) < (((IntKind.i64.wrap ((8 : Int) + ((x83_l : Nat) : Int))).toNat : Nat) : Int)) ∧
      Sts [.int .u8 (IntKind.u8.wrap x89)] ⟨b86, 0, none⟩ 0 w1 fun w2 =>
      LdI .i64 ⟨s, 1, none⟩ w2 fun x94 =>
      (0 ≤ (1 : Int) ∧ (1 : Int) < (((IntKind.i64.wrap ((8 : Int) + ((x83_l : Nat) : Int))).toNat : Nat) : Int)) ∧
      Sts [.int .u8 (IntKind.u8.wrap x94)] ⟨b86, 1, none⟩ 0 w2 fun w3 =>
      LdI .i64 ⟨s, 2, none⟩ w3 fun x99 =>
      (0 ≤ (2 : Int) ∧ (2 : Int) < (((IntKind.i64.wrap ((8 : Int) + ((x83_l : Nat) : Int))).toNat : Nat) : Int)) ∧
      Sts [.int .u8 (IntKind.u8.wrap x99)] ⟨b86, 2, none⟩ 0 w3 fun w4 =>
      LdI .i64 ⟨s, 3, none⟩ w4 fun x104 =>
      (0 ≤ (3 : Int) ∧ (3 : Int) < (((IntKind.i64.wrap ((8 : Int) + ((x83_l : Nat) : Int))).toNat : Nat) : Int)) ∧
      Sts [.int .u8 (IntKind.u8.wrap x104)] ⟨b86, 3, none⟩ 0 w4 fun w5 =>
      LdI .i64 ⟨s, 4, none⟩ w5 fun x109 =>
      (0 ≤ (4 : Int) ∧ (4 : Int) < (((IntKind.i64.wrap ((8 : Int) + ((x83_l : Nat) : Int))).toNat : Nat) : Int)) ∧
      Sts [.int .u8 (IntKind.u8.wrap x109)] ⟨b86, 4, none⟩ 0 w5 fun w6 =>
      LdI .i64 ⟨s, 5, none⟩ w6 fun x114 =>
      (0 ≤ (5 : Int) ∧ (5 : Int) < (((IntKind.i64.wrap ((8 : Int) + ((x83_l : Nat) : Int))).toNat : Nat) : Int)) ∧
      Sts [.int .u8 (IntKind.u8.wrap x114)] ⟨b86, 5, none⟩ 0 w6 fun w7 =>
      (0 ≤ (8 : Int) ∧ (8 : Int) ≤ (((IntKind.i64.wrap ((8 : Int) + ((x83_l : Nat) : Int))).toNat : Nat) : Int)) ∧
      LdL ⟨s, 6, none⟩ w7.drew fun x120_b x120_l x120_c =>
      Copy 1 (slBase (some (⟨b86, 0, none⟩ : Addr)) (8 : Int) (((IntKind.i64.wrap ((8 : Int) + ((x83_l : Nat) : Int))).toNat : Nat) : Int) 1) ((((IntKind.i64.wrap ((8 : Int) + ((x83_l : Nat) : Int))).toNat : Nat) : Int).toNat - (8 : Int).toNat) x120_b x120_l w7.drew fun n121 w8 =>
      (0 ≤ (6 : Int) ∧ (6 : Int) ≤ (((IntKind.i64.wrap ((8 : Int) + ((x83_l : Nat) : Int))).toNat : Nat) : Int)) ∧
      LdL ⟨s, 6, none⟩ w8.drew fun x127_b x127_l x127_c =>
      ((
        seg_over.Call src dst (slBase (some (⟨b86, 0, none⟩ : Addr)) ((0 : Nat) : Int) (((IntKind.i64.wrap ((8 : Int) + ((x83_l : Nat) : Int))).toNat : Nat) : Int) 1) ((6 : Int).toNat - ((0 : Nat) : Int).toNat) ((((IntKind.i64.wrap ((8 : Int) + ((x83_l : Nat) : Int))).toNat : Nat) : Int).toNat - ((0 : Nat) : Int).toNat) x127_b x127_l x127_c w8.drew fun r128_0 r128_1 w9 =>
        New (.cells #[.int .u8 (0 : Int), .int .u8 (0 : Int)] 203) w9 fun b w10 =>
        Sts [.int .u8 r128_0, .int .u8 r128_1] ⟨b, 0, none⟩ 0 w10 fun w11 =>
        seg_Encode.B5 (some ⟨b86, 0, none⟩) ((IntKind.i64.wrap ((8 : Int) + ((x83_l : Nat) : Int))).toNat) ((IntKind.i64.wrap ((8 : Int) + ((x83_l : Nat) : Int))).toNat) b w11  R) ∧ (
        New (.cells #[.int .u8 (0 : Int), .int .u8 (0 : Int)] 203) w8.drew fun b_1 w12 =>
        w12.cell? ⟨s, 6, none⟩ = some (.slice x127_b x127_l x127_c) ∧
        seg_over.Call src dst (slBase (some (⟨b86, 0, none⟩ : Addr)) ((0 : Nat) : Int) (((IntKind.i64.wrap ((8 : Int) + ((x83_l : Nat) : Int))).toNat : Nat) : Int) 1) ((6 : Int).toNat - ((0 : Nat) : Int).toNat) ((((IntKind.i64.wrap ((8 : Int) + ((x83_l : Nat) : Int))).toNat : Nat) : Int).toNat - ((0 : Nat) : Int).toNat) x127_b x127_l x127_c w12 fun r128_0_1 r128_1_1 w13 =>
        Sts [.int .u8 r128_0_1, .int .u8 r128_1_1] ⟨b_1, 0, none⟩ 0 w13 fun w14 =>
        seg_Encode.B5 (some ⟨b86, 0, none⟩) ((IntKind.i64.wrap ((8 : Int) + ((x83_l : Nat) : Int))).toNat) ((IntKind.i64.wrap ((8 : Int) + ((x83_l : Nat) : Int))).toNat) b_1 w14  R))))
theorem seg_Encode.B4_eq (src dst : Int) (s : Nat) (t77 : Bool) (w : World)   (R : Option Addr → Nat → Nat → Int → World → Prop) (sB5 : Option Addr → Nat → Nat → Nat → World → Prop) :
    (
  Bm t77 (
    R none 0 0 (24 : Int) w) (
    LdL ⟨s, 6, none⟩ w fun x79_b x79_l x79_c =>
    Bm (decide (((x79_l : Nat) : Int) > (12 : Int))) (
      R none 0 0 (2 : Int) w) (
      LdL ⟨s, 6, none⟩ w fun x83_b x83_l x83_c =>
      Make 5 (.int .u8 (0 : Int)) 1 1 (IntKind.i64.wrap ((8 : Int) + ((x83_l : Nat) : Int))) (IntKind.i64.wrap ((8 : Int) + ((x83_l : Nat) : Int))) w fun b86 w1 =>
      LdI .i64 ⟨s, 0, none⟩ w1 fun x89 =>
      (0 ≤ (0 : Int) ∧ (0 : Int) < (((IntKind.i64.wrap ((8 : Int) + ((x83_l : Nat) : Int))).toNat : Nat) : Int)) ∧
      Sts [.int .u8 (IntKind.u8.wrap x89)] ⟨b86, 0, none⟩ 0 w1 fun w2 =>
      LdI .i64 ⟨s, 1, none⟩ w2 fun x94 =>
      (0 ≤ (1 : Int) ∧ (1 : Int) < (((IntKind.i64.wrap ((8 : Int) + ((x83_l : Nat) : Int))).toNat : Nat) : Int)) ∧
      Sts [.int .u8 (IntKind.u8.wrap x94)] ⟨b86, 1, none⟩ 0 w2 fun w3 =>
      LdI .i64 ⟨s, 2, none⟩ w3 fun x99 =>
      (0 ≤ (2 : Int) ∧ (2 : Int) < (((IntKind.i64.wrap ((8 : Int) + ((x83_l : Nat) : Int))).toNat : Nat) : Int)) ∧
      Sts [.int .u8 (IntKind.u8.wrap x99)] ⟨b86, 2, none⟩ 0 w3 fun w4 =>
      LdI .i64 ⟨s, 3, none⟩ w4 fun x104 =>
      (0 ≤ (3 : Int) ∧ (3 : Int) < (((IntKind.i64.wrap ((8 : Int) + ((x83_l : Nat) : Int))).toNat : Nat) : Int)) ∧
      Sts [.int .u8 (IntKind.u8.wrap x104)] ⟨b86, 3, none⟩ 0 w4 fun w5 =>
      LdI .i64 ⟨s, 4, none⟩ w5 fun x109 =>
      (0 ≤ (4 : Int) ∧ (4 : Int) < (((IntKind.i64.wrap ((8 : Int) + ((x83_l : Nat) : Int))).toNat : Nat) : Int)) ∧
      Sts [.int .u8 (IntKind.u8.wrap x109)] ⟨b86, 4, none⟩ 0 w5 fun w6 =>
      LdI .i64 ⟨s, 5, none⟩ w6 fun x114 =>
      (0 ≤ (5 : Int) ∧ (5 : Int) < (((IntKind.i64.wrap ((8 : Int) + ((x83_l : Nat) : Int))).toNat : Nat) : Int)) ∧
      Sts [.int .u8 (IntKind.u8.wrap x114)] ⟨b86, 5, none⟩ 0 w6 fun w7 =>
      (0 ≤ (8 : Int) ∧ (8 : Int) ≤ (((IntKind.i64.wrap ((8 : Int) + ((x83_l : Nat) : Int))).toNat : Nat) : Int)) ∧
      LdL ⟨s, 6, none⟩ w7.drew fun x120_b x120_l x120_c =>
      Copy 1 (slBase (some (⟨b86, 0, none⟩ : Addr)) (8 : Int) (((IntKind.i64.wrap ((8 : Int) + ((x83_l : Nat) : Int))).toNat : Nat) : Int) 1) ((((IntKind.i64.wrap ((8 : Int) + ((x83_l : Nat) : Int))).toNat : Nat) : Int).toNat - (8 : Int).toNat) x120_b x120_l w7.drew fun n121 w8 =>
      (0 ≤ (6 : Int) ∧ (6 : Int) ≤ (((IntKind.i64.wrap ((8 : Int) + ((x83_l : Nat) : Int))).toNat : Nat) : Int)) ∧
      LdL ⟨s, 6, none⟩ w8.drew fun x127_b x127_l x127_c =>
      ((
        seg_over.Call src dst (slBase (some (⟨b86, 0, none⟩ : Addr)) ((0 : Nat) : Int) (((IntKind.i64.wrap ((8 : Int) + ((x83_l : Nat) : Int))).toNat : Nat) : Int) 1) ((6 : Int).toNat - ((0 : Nat) : Int).toNat) ((((IntKind.i64.wrap ((8 : Int) + ((x83_l : Nat) : Int))).toNat : Nat) : Int).toNat - ((0 : Nat) : Int).toNat) x127_b x127_l x127_c w8.drew fun r128_0 r128_1 w9 =>
        New (.cells #[.int .u8 (0 : Int), .int .u8 (0 : Int)] 203) w9 fun b w10 =>
        Sts [.int .u8 r128_0, .int .u8 r128_1] ⟨b, 0, none⟩ 0 w10 fun w11 =>
        sB5 (some ⟨b86, 0, none⟩) ((IntKind.i64.wrap ((8 : Int) + ((x83_l : Nat) : Int))).toNat) ((IntKind.i64.wrap ((8 : Int) + ((x83_l : Nat) : Int))).toNat) b w11) ∧ (
        New (.cells #[.int .u8 (0 : Int), .int .u8 (0 : Int)] 203) w8.drew fun b_1 w12 =>
        w12.cell? ⟨s, 6, none⟩ = some (.slice x127_b x127_l x127_c) ∧
        seg_over.Call src dst (slBase (some (⟨b86, 0, none⟩ : Addr)) ((0 : Nat) : Int) (((IntKind.i64.wrap ((8 : Int) + ((x83_l : Nat) : Int))).toNat : Nat) : Int) 1) ((6 : Int).toNat - ((0 : Nat) : Int).toNat) ((((IntKind.i64.wrap ((8 : Int) + ((x83_l : Nat) : Int))).toNat : Nat) : Int).toNat - ((0 : Nat) : Int).toNat) x127_b x127_l x127_c w12 fun r128_0_1 r128_1_1 w13 =>
        Sts [.int .u8 r128_0_1, .int .u8 r128_1_1] ⟨b_1, 0, none⟩ 0 w13 fun w14 =>
        sB5 (some ⟨b86, 0, none⟩) ((IntKind.i64.wrap ((8 : Int) + ((x83_l : Nat) : Int))).toNat) ((IntKind.i64.wrap ((8 : Int) + ((x83_l : Nat) : Int))).toNat) b_1 w14))))) = kstep Tryz.prog 138 Tryz.f161.results.toList (Tryz.f161.body.getD .skip) (seg_Encode.RV R) (kvc Tryz.prog 138 Tryz.f161.results.toList (Tryz.f161.body.getD .skip) (seg_Encode.RV R) [([(0, [1, 1, 1, 1, 1, 1, 1, 1, 1, 1, 1, 1, 1, 1, 1])], fun σ w => dL (slotOf σ 8) fun raw_b_ raw_l_ raw_c_ => dK (slotOf σ 9) fun x_ => sB5 raw_b_ raw_l_ raw_c_ x_ w)] 2000) [(0, [1, 1, 1, 1, 0, 1]), (0, [1, 1, 1, 1, 1])] [(0, .int .i64 src), (1, .int .i64 dst), (5, .pointer (some ⟨s, 0, none⟩)), (77, .bool t77)] w := by kernel_rfl
theorem seg_Encode.B4_sound {R : Option Addr → Nat → Nat → Int → World → Prop}  (src dst : Int) (s : Nat) (t77 : Bool) (w : World) (h : seg_Encode.B4 src dst s t77 w   R) :
    KW Tryz.prog 161 138 (seg_Encode.RV R) ([(0, [1, 1, 1, 1, 0, 1]), (0, [1, 1, 1, 1, 1])].map (toItem (Tryz.f161.body.getD .skip))) [(0, .int .i64 src), (1, .int .i64 dst), (5, .pointer (some ⟨s, 0, none⟩)), (77, .bool t77)] w := by
  exact block_spec Tryz.func161 Tryz.mixed (stops_cons (fun σ w h => by
      obtain ⟨raw_b_, raw_l_, raw_c_, e0, h⟩ := dL_elim h
      obtain ⟨x_, e1, h⟩ := dK_elim h
      exact (seg_Encode.B5_sound  raw_b_ raw_l_ raw_c_ x_ w h).weaken (Sub.cons (Sub.cons (Sub.nil _) e1) e0)) stops_nil) (Eq.mp (seg_Encode.B4_eq src dst s t77 w   R (fun raw_b_ raw_l_ raw_c_ x_ w => seg_Encode.B5 raw_b_ raw_l_ raw_c_ x_ w  R)) h)
def seg_Encode.B3 (src dst : Int) (s : Nat) (t59 : Bool) (w : World)   (R : Option Addr → Nat → Nat → Int → World → Prop) : Prop :=
  Bm t59 (
    R none 0 0 (24 : Int) w) (
    LdI .i64 ⟨s, 5, none⟩ w fun x61 =>
    Bm (decide (x61 < (0 : Int))) (
      seg_Encode.B4 src dst s true w  R) (
      LdI .i64 ⟨s, 5, none⟩ w fun x65 =>
      Bm (decide (x65 > (255 : Int))) (
        seg_Encode.B4 src dst s true w  R) (
        LdI .i64 ⟨s, 4, none⟩ w fun x70 =>
        Bm (decide (x70 < (0 : Int))) (
          seg_Encode.B4 src dst s true w  R) (
          LdI .i64 ⟨s, 4, none⟩ w fun x75 =>
          seg_Encode.B4 src dst s (decide (x75 > (15 : Int))) w  R))))
theorem seg_Encode.B3_eq (src dst : Int) (s : Nat) (t59 : Bool) (w : World)   (R : Option Addr → Nat → Nat → Int → World → Prop) (sB4 : Int → Int → Nat → Bool → World → Prop) :
    (
  Bm t59 (
    R none 0 0 (24 : Int) w) (
    LdI .i64 ⟨s, 5, none⟩ w fun x61 =>
    Bm (decide (x61 < (0 : Int))) (
      sB4 src dst s true w) (
      LdI .i64 ⟨s, 5, none⟩ w fun x65 =>
      Bm (decide (x65 > (255 : Int))) (
        sB4 src dst s true w) (
        LdI .i64 ⟨s, 4, none⟩ w fun x70 =>
        Bm (decide (x70 < (0 : Int))) (
          sB4 src dst s true w) (
          LdI .i64 ⟨s, 4, none⟩ w fun x75 =>
          sB4 src dst s (decide (x75 > (15 : Int))) w))))) = kstep Tryz.prog 138 Tryz.f161.results.toList (Tryz.f161.body.getD .skip) (seg_Encode.RV R) (kvc Tryz.prog 138 Tryz.f161.results.toList (Tryz.f161.body.getD .skip) (seg_Encode.RV R) [([(0, [1, 1, 1, 1, 0, 1]), (0, [1, 1, 1, 1, 1])], fun σ w => dI .i64 (slotOf σ 0) fun src_ => dI .i64 (slotOf σ 1) fun dst_ => dK (slotOf σ 5) fun s_ => dB (slotOf σ 77) fun t77_ => sB4 src_ dst_ s_ t77_ w)] 2000) [(0, [1, 1, 1, 0, 1]), (0, [1, 1, 1, 1])] [(0, .int .i64 src), (1, .int .i64 dst), (5, .pointer (some ⟨s, 0, none⟩)), (59, .bool t59)] w := by kernel_rfl
theorem seg_Encode.B3_sound {R : Option Addr → Nat → Nat → Int → World → Prop}  (src dst : Int) (s : Nat) (t59 : Bool) (w : World) (h : seg_Encode.B3 src dst s t59 w   R) :
    KW Tryz.prog 161 138 (seg_Encode.RV R) ([(0, [1, 1, 1, 0, 1]), (0, [1, 1, 1, 1])].map (toItem (Tryz.f161.body.getD .skip))) [(0, .int .i64 src), (1, .int .i64 dst), (5, .pointer (some ⟨s, 0, none⟩)), (59, .bool t59)] w := by
  exact block_spec Tryz.func161 Tryz.mixed (stops_cons (fun σ w h => by
      obtain ⟨src_, e0, h⟩ := dI_elim h
      obtain ⟨dst_, e1, h⟩ := dI_elim h
      obtain ⟨s_, e2, h⟩ := dK_elim h
      obtain ⟨t77_, e3, h⟩ := dB_elim h
      exact (seg_Encode.B4_sound  src_ dst_ s_ t77_ w h).weaken (Sub.cons (Sub.cons (Sub.cons (Sub.cons (Sub.nil _) e3) e2) e1) e0)) stops_nil) (Eq.mp (seg_Encode.B3_eq src dst s t59 w   R (fun src_ dst_ s_ t77_ w => seg_Encode.B4 src_ dst_ s_ t77_ w  R)) h)
def seg_Encode.B2 (src dst : Int) (s : Nat) (t41 : Bool) (w : World)   (R : Option Addr → Nat → Nat → Int → World → Prop) : Prop :=
  Bm t41 (
    R none 0 0 (22 : Int) w) (
    LdI .i64 ⟨s, 2, none⟩ w fun x43 =>
    Bm (decide (x43 < (0 : Int))) (
      seg_Encode.B3 src dst s true w  R) (
      LdI .i64 ⟨s, 2, none⟩ w fun x47 =>
      Bm (decide (x47 > (255 : Int))) (
        seg_Encode.B3 src dst s true w  R) (
        LdI .i64 ⟨s, 3, none⟩ w fun x52 =>
        Bm (decide (x52 < (0 : Int))) (
          seg_Encode.B3 src dst s true w  R) (
          LdI .i64 ⟨s, 3, none⟩ w fun x57 =>
          seg_Encode.B3 src dst s (decide (x57 > (255 : Int))) w  R))))
theorem seg_Encode.B2_eq (src dst : Int) (s : Nat) (t41 : Bool) (w : World)   (R : Option Addr → Nat → Nat → Int → World → Prop) (sB3 : Int → Int → Nat → Bool → World → Prop) :
    (
  Bm t41 (
    R none 0 0 (22 : Int) w) (
    LdI .i64 ⟨s, 2, none⟩ w fun x43 =>
    Bm (decide (x43 < (0 : Int))) (
      sB3 src dst s true w) (
      LdI .i64 ⟨s, 2, none⟩ w fun x47 =>
      Bm (decide (x47 > (255 : Int))) (
        sB3 src dst s true w) (
        LdI .i64 ⟨s, 3, none⟩ w fun x52 =>
        Bm (decide (x52 < (0 : Int))) (
          sB3 src dst s true w) (
          LdI .i64 ⟨s, 3, none⟩ w fun x57 =>
          sB3 src dst s (decide (x57 > (255 : Int))) w))))) = kstep Tryz.prog 138 Tryz.f161.results.toList (Tryz.f161.body.getD .skip) (seg_Encode.RV R) (kvc Tryz.prog 138 Tryz.f161.results.toList (Tryz.f161.body.getD .skip) (seg_Encode.RV R) [([(0, [1, 1, 1, 0, 1]), (0, [1, 1, 1, 1])], fun σ w => dI .i64 (slotOf σ 0) fun src_ => dI .i64 (slotOf σ 1) fun dst_ => dK (slotOf σ 5) fun s_ => dB (slotOf σ 59) fun t59_ => sB3 src_ dst_ s_ t59_ w)] 2000) [(0, [1, 1, 0, 1]), (0, [1, 1, 1])] [(0, .int .i64 src), (1, .int .i64 dst), (5, .pointer (some ⟨s, 0, none⟩)), (41, .bool t41)] w := by kernel_rfl
theorem seg_Encode.B2_sound {R : Option Addr → Nat → Nat → Int → World → Prop}  (src dst : Int) (s : Nat) (t41 : Bool) (w : World) (h : seg_Encode.B2 src dst s t41 w   R) :
    KW Tryz.prog 161 138 (seg_Encode.RV R) ([(0, [1, 1, 0, 1]), (0, [1, 1, 1])].map (toItem (Tryz.f161.body.getD .skip))) [(0, .int .i64 src), (1, .int .i64 dst), (5, .pointer (some ⟨s, 0, none⟩)), (41, .bool t41)] w := by
  exact block_spec Tryz.func161 Tryz.mixed (stops_cons (fun σ w h => by
      obtain ⟨src_, e0, h⟩ := dI_elim h
      obtain ⟨dst_, e1, h⟩ := dI_elim h
      obtain ⟨s_, e2, h⟩ := dK_elim h
      obtain ⟨t59_, e3, h⟩ := dB_elim h
      exact (seg_Encode.B3_sound  src_ dst_ s_ t59_ w h).weaken (Sub.cons (Sub.cons (Sub.cons (Sub.cons (Sub.nil _) e3) e2) e1) e0)) stops_nil) (Eq.mp (seg_Encode.B2_eq src dst s t41 w   R (fun src_ dst_ s_ t59_ w => seg_Encode.B3 src_ dst_ s_ t59_ w  R)) h)
def seg_Encode.B1 (src dst : Int) (s : Nat) (t23 : Bool) (w : World)   (R : Option Addr → Nat → Nat → Int → World → Prop) : Prop :=
  Bm t23 (
    R none 0 0 (5 : Int) w) (
    LdI .i64 ⟨s, 0, none⟩ w fun x25 =>
    Bm (decide (x25 < (0 : Int))) (
      seg_Encode.B2 src dst s true w  R) (
      LdI .i64 ⟨s, 0, none⟩ w fun x29 =>
      Bm (decide (x29 > (255 : Int))) (
        seg_Encode.B2 src dst s true w  R) (
        LdI .i64 ⟨s, 1, none⟩ w fun x34 =>
        Bm (decide (x34 < (0 : Int))) (
          seg_Encode.B2 src dst s true w  R) (
          LdI .i64 ⟨s, 1, none⟩ w fun x39 =>
          seg_Encode.B2 src dst s (decide (x39 > (255 : Int))) w  R))))
theorem seg_Encode.B1_eq (src dst : Int) (s : Nat) (t23 : Bool) (w : World)   (R : Option Addr → Nat → Nat → Int → World → Prop) (sB2 : Int → Int → Nat → Bool → World → Prop) :
    (
  Bm t23 (
    R none 0 0 (5 : Int) w) (
    LdI .i64 ⟨s, 0, none⟩ w fun x25 =>
    Bm (decide (x25 < (0 : Int))) (
      sB2 src dst s true w) (
      LdI .i64 ⟨s, 0, none⟩ w fun x29 =>
      Bm (decide (x29 > (255 : Int))) (
        sB2 src dst s true w) (
        LdI .i64 ⟨s, 1, none⟩ w fun x34 =>
        Bm (decide (x34 < (0 : Int))) (
          sB2 src dst s true w) (
          LdI .i64 ⟨s, 1, none⟩ w fun x39 =>
          sB2 src dst s (decide (x39 > (255 : Int))) w))))) = kstep Tryz.prog 138 Tryz.f161.results.toList (Tryz.f161.body.getD .skip) (seg_Encode.RV R) (kvc Tryz.prog 138 Tryz.f161.results.toList (Tryz.f161.body.getD .skip) (seg_Encode.RV R) [([(0, [1, 1, 0, 1]), (0, [1, 1, 1])], fun σ w => dI .i64 (slotOf σ 0) fun src_ => dI .i64 (slotOf σ 1) fun dst_ => dK (slotOf σ 5) fun s_ => dB (slotOf σ 41) fun t41_ => sB2 src_ dst_ s_ t41_ w)] 2000) [(0, [1, 0, 1]), (0, [1, 1])] [(0, .int .i64 src), (1, .int .i64 dst), (5, .pointer (some ⟨s, 0, none⟩)), (23, .bool t23)] w := by kernel_rfl
theorem seg_Encode.B1_sound {R : Option Addr → Nat → Nat → Int → World → Prop}  (src dst : Int) (s : Nat) (t23 : Bool) (w : World) (h : seg_Encode.B1 src dst s t23 w   R) :
    KW Tryz.prog 161 138 (seg_Encode.RV R) ([(0, [1, 0, 1]), (0, [1, 1])].map (toItem (Tryz.f161.body.getD .skip))) [(0, .int .i64 src), (1, .int .i64 dst), (5, .pointer (some ⟨s, 0, none⟩)), (23, .bool t23)] w := by
  exact block_spec Tryz.func161 Tryz.mixed (stops_cons (fun σ w h => by
      obtain ⟨src_, e0, h⟩ := dI_elim h
      obtain ⟨dst_, e1, h⟩ := dI_elim h
      obtain ⟨s_, e2, h⟩ := dK_elim h
      obtain ⟨t41_, e3, h⟩ := dB_elim h
      exact (seg_Encode.B2_sound  src_ dst_ s_ t41_ w h).weaken (Sub.cons (Sub.cons (Sub.cons (Sub.cons (Sub.nil _) e3) e2) e1) e0)) stops_nil) (Eq.mp (seg_Encode.B1_eq src dst s t23 w   R (fun src_ dst_ s_ t41_ w => seg_Encode.B2 src_ dst_ s_ t41_ w  R)) h)
def seg_Encode.B0 (src dst s_0 s_1 s_2 s_3 s_4 s_5 : Int) (s_6_b : Option Addr) (s_6_l s_6_c : Nat) (w : World)   (R : Option Addr → Nat → Nat → Int → World → Prop) : Prop :=
  New (.cells #[.int .i64 s_0, .int .i64 s_1, .int .i64 s_2, .int .i64 s_3, .int .i64 s_4, .int .i64 s_5, .slice s_6_b s_6_l s_6_c] 177) w fun s_ w1 =>
  Bm (decide (src < (0 : Int))) (
    seg_Encode.B1 src dst s_ true w1  R) (
    Bm (decide (src > (255 : Int))) (
      seg_Encode.B1 src dst s_ true w1  R) (
      Bm (decide (dst < (0 : Int))) (
        seg_Encode.B1 src dst s_ true w1  R) (
        seg_Encode.B1 src dst s_ (decide (dst > (255 : Int))) w1  R)))
theorem seg_Encode.B0_eq (src dst s_0 s_1 s_2 s_3 s_4 s_5 : Int) (s_6_b : Option Addr) (s_6_l s_6_c : Nat) (w : World)   (R : Option Addr → Nat → Nat → Int → World → Prop) (sB1 : Int → Int → Nat → Bool → World → Prop) :
    (
  New (.cells #[.int .i64 s_0, .int .i64 s_1, .int .i64 s_2, .int .i64 s_3, .int .i64 s_4, .int .i64 s_5, .slice s_6_b s_6_l s_6_c] 177) w fun s_ w1 =>
  Bm (decide (src < (0 : Int))) (
    sB1 src dst s_ true w1) (
    Bm (decide (src > (255 : Int))) (
      sB1 src dst s_ true w1) (
      Bm (decide (dst < (0 : Int))) (
        sB1 src dst s_ true w1) (
        sB1 src dst s_ (decide (dst > (255 : Int))) w1)))) = kstep Tryz.prog 138 Tryz.f161.results.toList (Tryz.f161.body.getD .skip) (seg_Encode.RV R) (kvc Tryz.prog 138 Tryz.f161.results.toList (Tryz.f161.body.getD .skip) (seg_Encode.RV R) [([(0, [1, 0, 1]), (0, [1, 1])], fun σ w => dI .i64 (slotOf σ 0) fun src_ => dI .i64 (slotOf σ 1) fun dst_ => dK (slotOf σ 5) fun s_ => dB (slotOf σ 23) fun t23_ => sB1 src_ dst_ s_ t23_ w)] 2000) [(0, [])] [(0, .int .i64 src), (1, .int .i64 dst), (2, .agg #[.int .i64 s_0, .int .i64 s_1, .int .i64 s_2, .int .i64 s_3, .int .i64 s_4, .int .i64 s_5, .slice s_6_b s_6_l s_6_c])] w := by kernel_rfl
theorem seg_Encode.B0_sound {R : Option Addr → Nat → Nat → Int → World → Prop}  (src dst s_0 s_1 s_2 s_3 s_4 s_5 : Int) (s_6_b : Option Addr) (s_6_l s_6_c : Nat) (w : World) (h : seg_Encode.B0 src dst s_0 s_1 s_2 s_3 s_4 s_5 s_6_b s_6_l s_6_c w   R) :
    KW Tryz.prog 161 138 (seg_Encode.RV R) ([(0, [])].map (toItem (Tryz.f161.body.getD .skip))) [(0, .int .i64 src), (1, .int .i64 dst), (2, .agg #[.int .i64 s_0, .int .i64 s_1, .int .i64 s_2, .int .i64 s_3, .int .i64 s_4, .int .i64 s_5, .slice s_6_b s_6_l s_6_c])] w := by
  exact block_spec Tryz.func161 Tryz.mixed (stops_cons (fun σ w h => by
      obtain ⟨src_, e0, h⟩ := dI_elim h
      obtain ⟨dst_, e1, h⟩ := dI_elim h
      obtain ⟨s_, e2, h⟩ := dK_elim h
      obtain ⟨t23_, e3, h⟩ := dB_elim h
      exact (seg_Encode.B1_sound  src_ dst_ s_ t23_ w h).weaken (Sub.cons (Sub.cons (Sub.cons (Sub.cons (Sub.nil _) e3) e2) e1) e0)) stops_nil) (Eq.mp (seg_Encode.B0_eq src dst s_0 s_1 s_2 s_3 s_4 s_5 s_6_b s_6_l s_6_c w   R (fun src_ dst_ s_ t23_ w => seg_Encode.B1 src_ dst_ s_ t23_ w  R)) h)
theorem seg_Encode.sound (src dst s_0 s_1 s_2 s_3 s_4 s_5 : Int) (s_6_b : Option Addr) (s_6_l s_6_c : Nat) (w : World) (R : Option Addr → Nat → Nat → Int → World → Prop) (h : seg_Encode.B0 src dst s_0 s_1 s_2 s_3 s_4 s_5 s_6_b s_6_l s_6_c w R) : seg_Encode.Call src dst s_0 s_1 s_2 s_3 s_4 s_5 s_6_b s_6_l s_6_c w R := by
  have hc := calls_of_block (args := #[.int .i64 src, .int .i64 dst, .agg #[.int .i64 s_0, .int .i64 s_1, .int .i64 s_2, .int .i64 s_3, .int .i64 s_4, .int .i64 s_5, .slice s_6_b s_6_l s_6_c]]) Tryz.func161 (body := (Tryz.f161.body.getD .skip)) (by kernel_rfl) (by kernel_rfl) (args_slot _) (seg_Encode.B0_sound src dst s_0 s_1 s_2 s_3 s_4 s_5 s_6_b s_6_l s_6_c w h)
  exact hc.mono fun e w' he => by
    obtain ⟨v, rfl, hv⟩ := he
    exact seg_Encode.RV_elim hv
def ip_IP_Output.B4 (p out_b : Option Addr) (out_l out_c : Nat) (w : World)   (R : Option Addr → Nat → Nat → Int → World → Prop) : Prop :=
  Pn p fun a =>
  LdI .i64 (a.add 2) w fun x113 =>
  Pn p fun a_1 =>
  Sts [.int .i64 (IntKind.i64.wrap (x113 - (1 : Int)))] (a_1.add 2) 0 w fun w1 =>
  R out_b out_l out_c (0 : Int) w1
theorem ip_IP_Output.B4_eq (p out_b : Option Addr) (out_l out_c : Nat) (w : World)   (R : Option Addr → Nat → Nat → Int → World → Prop)  :
    (
  Pn p fun a =>
  LdI .i64 (a.add 2) w fun x113 =>
  Pn p fun a_1 =>
  Sts [.int .i64 (IntKind.i64.wrap (x113 - (1 : Int)))] (a_1.add 2) 0 w fun w1 =>
  R out_b out_l out_c (0 : Int) w1) = kstep Tryz.prog 118 Tryz.f162.results.toList (Tryz.f162.body.getD .skip) (ip_IP_Output.RV R) (kvc Tryz.prog 118 Tryz.f162.results.toList (Tryz.f162.body.getD .skip) (ip_IP_Output.RV R) [] 2000) [(0, [1, 1, 1, 1, 1, 1, 1, 1, 1, 1, 1, 1, 1])] [(0, .pointer p), (11, .slice out_b out_l out_c)] w := by kernel_rfl
theorem ip_IP_Output.B4_sound {R : Option Addr → Nat → Nat → Int → World → Prop}  (p out_b : Option Addr) (out_l out_c : Nat) (w : World) (h : ip_IP_Output.B4 p out_b out_l out_c w   R) :
    KW Tryz.prog 162 118 (ip_IP_Output.RV R) ([(0, [1, 1, 1, 1, 1, 1, 1, 1, 1, 1, 1, 1, 1])].map (toItem (Tryz.f162.body.getD .skip))) [(0, .pointer p), (11, .slice out_b out_l out_c)] w := by
  exact block_spec Tryz.func162 Tryz.mixed stops_nil (Eq.mp (ip_IP_Output.B4_eq p out_b out_l out_c w   R ) h)
def ip_IP_Output.L1b (p : Option Addr) (dst proto : Int) (data_b : Option Addr) (data_l data_c : Nat) (count : Int) (out_b : Option Addr) (out_l out_c : Nat) (i : Int) (w : World)  (N1 : Option Addr → Int → Int → Option Addr → Nat → Nat → Int → Option Addr → Nat → Nat → Int → World → Prop) (R : Option Addr → Nat → Nat → Int → World → Prop) : Prop :=
  Bm (decide (i < (IntKind.i64.wrap (count - (1 : Int))))) (
    Pn p fun a =>
    LdI .i64 a w.drew fun x58 =>
    Pn p fun a_1 =>
    LdI .i64 (a_1.add 1) w.drew fun x63 =>
    (0 ≤ (IntKind.i64.wrap ((IntKind.i64.wrap (i * (16 : Int))) + (16 : Int))) ∧ (IntKind.i64.wrap ((IntKind.i64.wrap (i * (16 : Int))) + (16 : Int))) ≤ ((data_c : Nat) : Int)) ∧
    (0 ≤ (IntKind.i64.wrap (i * (16 : Int))) ∧ (IntKind.i64.wrap (i * (16 : Int))) ≤ (IntKind.i64.wrap ((IntKind.i64.wrap (i * (16 : Int))) + (16 : Int)))) ∧
    ip_packet.Call proto x58 dst x63 (IntKind.i64.wrap (BitVec.ofInt IntKind.i64.bits (IntKind.i64.wrap (i * (16 : Int))) ||| BitVec.ofInt IntKind.i64.bits (128 : Int)).toNat) (slBase data_b (IntKind.i64.wrap (i * (16 : Int))) ((data_c : Nat) : Int) 1) ((IntKind.i64.wrap ((IntKind.i64.wrap (i * (16 : Int))) + (16 : Int))).toNat - (IntKind.i64.wrap (i * (16 : Int))).toNat) (((data_c : Nat) : Int).toNat - (IntKind.i64.wrap (i * (16 : Int))).toNat) w.drew fun r71_b r71_l r71_c w1 =>
    Pn out_b fun a_2 =>
    (0 ≤ i ∧ i < ((out_l : Nat) : Int)) ∧
    Sts [.slice r71_b r71_l r71_c] (Addr.add a_2 (i.toNat * 1)) 0 w1 fun w2 =>
    N1 p dst proto data_b data_l data_c count out_b out_l out_c (IntKind.i64.wrap (i + (1 : Int))) w2) (
    Pn p fun a_3 =>
    LdI .i64 a_3 w.drew fun x83 =>
    Pn p fun a_4 =>
    LdI .i64 (a_4.add 1) w.drew fun x88 =>
    (0 ≤ (IntKind.i64.wrap ((IntKind.i64.wrap (count - (1 : Int))) * (16 : Int))) ∧ (IntKind.i64.wrap ((IntKind.i64.wrap (count - (1 : Int))) * (16 : Int))) ≤ ((data_l : Nat) : Int)) ∧
    ip_packet.Call proto x83 dst x88 (IntKind.i64.wrap ((IntKind.i64.wrap (count - (1 : Int))) * (16 : Int))) (slBase data_b (IntKind.i64.wrap ((IntKind.i64.wrap (count - (1 : Int))) * (16 : Int))) ((data_c : Nat) : Int) 1) (((data_l : Nat) : Int).toNat - (IntKind.i64.wrap ((IntKind.i64.wrap (count - (1 : Int))) * (16 : Int))).toNat) (((data_c : Nat) : Int).toNat - (IntKind.i64.wrap ((IntKind.i64.wrap (count - (1 : Int))) * (16 : Int))).toNat) w.drew fun r93_b r93_l r93_c w3 =>
    Pn out_b fun a_5 =>
    (0 ≤ (IntKind.i64.wrap (count - (1 : Int))) ∧ (IntKind.i64.wrap (count - (1 : Int))) < ((out_l : Nat) : Int)) ∧
    Sts [.slice r93_b r93_l r93_c] (Addr.add a_5 ((IntKind.i64.wrap (count - (1 : Int))).toNat * 1)) 0 w3 fun w4 =>
    Pn p fun a_6 =>
    LdI .i64 (a_6.add 1) w4 fun x98 =>
    Pn p fun a_7 =>
    Sts [.int .i64 (IntKind.i64.wrap (x98 + (1 : Int)))] (a_7.add 1) 0 w4 fun w5 =>
    Pn p fun a_8 =>
    LdI .i64 (a_8.add 1) w5 fun x105 =>
    Bm (x105 == (256 : Int)) (
      Pn p fun a_9 =>
      Sts [.int .i64 (0 : Int)] (a_9.add 1) 0 w5 fun w6 =>
      ip_IP_Output.B4 p out_b out_l out_c w6  R) (
      ip_IP_Output.B4 p out_b out_l out_c w5  R))
theorem ip_IP_Output.L1b_eq (p : Option Addr) (dst proto : Int) (data_b : Option Addr) (data_l data_c : Nat) (count : Int) (out_b : Option Addr) (out_l out_c : Nat) (i : Int) (w : World)  (N1 : Option Addr → Int → Int → Option Addr → Nat → Nat → Int → Option Addr → Nat → Nat → Int → World → Prop) (R : Option Addr → Nat → Nat → Int → World → Prop) (sB4 : Option Addr → Option Addr → Nat → Nat → World → Prop) :
    (
  Bm (decide (i < (IntKind.i64.wrap (count - (1 : Int))))) (
    Pn p fun a =>
    LdI .i64 a w.drew fun x58 =>
    Pn p fun a_1 =>
    LdI .i64 (a_1.add 1) w.drew fun x63 =>
    (0 ≤ (IntKind.i64.wrap ((IntKind.i64.wrap (i * (16 : Int))) + (16 : Int))) ∧ (IntKind.i64.wrap ((IntKind.i64.wrap (i * (16 : Int))) + (16 : Int))) ≤ ((data_c : Nat) : Int)) ∧
    (0 ≤ (IntKind.i64.wrap (i * (16 : Int))) ∧ (IntKind.i64.wrap (i * (16 : Int))) ≤ (IntKind.i64.wrap ((IntKind.i64.wrap (i * (16 : Int))) + (16 : Int)))) ∧
    ip_packet.Call proto x58 dst x63 (IntKind.i64.wrap (BitVec.ofInt IntKind.i64.bits (IntKind.i64.wrap (i * (16 : Int))) ||| BitVec.ofInt IntKind.i64.bits (128 : Int)).toNat) (slBase data_b (IntKind.i64.wrap (i * (16 : Int))) ((data_c : Nat) : Int) 1) ((IntKind.i64.wrap ((IntKind.i64.wrap (i * (16 : Int))) + (16 : Int))).toNat - (IntKind.i64.wrap (i * (16 : Int))).toNat) (((data_c : Nat) : Int).toNat - (IntKind.i64.wrap (i * (16 : Int))).toNat) w.drew fun r71_b r71_l r71_c w1 =>
    Pn out_b fun a_2 =>
    (0 ≤ i ∧ i < ((out_l : Nat) : Int)) ∧
    Sts [.slice r71_b r71_l r71_c] (Addr.add a_2 (i.toNat * 1)) 0 w1 fun w2 =>
    N1 p dst proto data_b data_l data_c count out_b out_l out_c (IntKind.i64.wrap (i + (1 : Int))) w2) (
    Pn p fun a_3 =>
    LdI .i64 a_3 w.drew fun x83 =>
    Pn p fun a_4 =>
    LdI .i64 (a_4.add 1) w.drew fun x88 =>
    (0 ≤ (IntKind.i64.wrap ((IntKind.i64.wrap (count - (1 : Int))) * (16 : Int))) ∧ (IntKind.i64.wrap ((IntKind.i64.wrap (count - (1 : Int))) * (16 : Int))) ≤ ((data_l : Nat) : Int)) ∧
    ip_packet.Call proto x83 dst x88 (IntKind.i64.wrap ((IntKind.i64.wrap (count - (1 : Int))) * (16 : Int))) (slBase data_b (IntKind.i64.wrap ((IntKind.i64.wrap (count - (1 : Int))) * (16 : Int))) ((data_c : Nat) : Int) 1) (((data_l : Nat) : Int).toNat - (IntKind.i64.wrap ((IntKind.i64.wrap (count - (1 : Int))) * (16 : Int))).toNat) (((data_c : Nat) : Int).toNat - (IntKind.i64.wrap ((IntKind.i64.wrap (count - (1 : Int))) * (16 : Int))).toNat) w.drew fun r93_b r93_l r93_c w3 =>
    Pn out_b fun a_5 =>
    (0 ≤ (IntKind.i64.wrap (count - (1 : Int))) ∧ (IntKind.i64.wrap (count - (1 : Int))) < ((out_l : Nat) : Int)) ∧
    Sts [.slice r93_b r93_l r93_c] (Addr.add a_5 ((IntKind.i64.wrap (count - (1 : Int))).toNat * 1)) 0 w3 fun w4 =>
    Pn p fun a_6 =>
    LdI .i64 (a_6.add 1) w4 fun x98 =>
    Pn p fun a_7 =>
    Sts [.int .i64 (IntKind.i64.wrap (x98 + (1 : Int)))] (a_7.add 1) 0 w4 fun w5 =>
    Pn p fun a_8 =>
    LdI .i64 (a_8.add 1) w5 fun x105 =>
    Bm (x105 == (256 : Int)) (
      Pn p fun a_9 =>
      Sts [.int .i64 (0 : Int)] (a_9.add 1) 0 w5 fun w6 =>
      sB4 p out_b out_l out_c w6) (
      sB4 p out_b out_l out_c w5))) = kstep Tryz.prog 118 Tryz.f162.results.toList (Tryz.f162.body.getD .skip) (ip_IP_Output.RV R) (kvc Tryz.prog 118 Tryz.f162.results.toList (Tryz.f162.body.getD .skip) (ip_IP_Output.RV R) [([(0, [1, 1, 1, 1, 1, 1, 1, 1, 0, 1, 0, 0]), (2, [1, 1, 1, 1, 1, 1, 1, 1, 0, 1, 0, 0]), (1, [0]), (0, [1, 1, 1, 1, 1, 1, 1, 1, 1])], fun σ w => dP (slotOf σ 0) fun p_ => dI .i64 (slotOf σ 1) fun dst_ => dI .i64 (slotOf σ 2) fun proto_ => dL (slotOf σ 3) fun data_b_ data_l_ data_c_ => dI .i64 (slotOf σ 10) fun count_ => dL (slotOf σ 11) fun out_b_ out_l_ out_c_ => dI .i64 (slotOf σ 12) fun i_ => N1 p_ dst_ proto_ data_b_ data_l_ data_c_ count_ out_b_ out_l_ out_c_ i_ w),
    ([(0, [1, 1, 1, 1, 1, 1, 1, 1, 1, 1, 1, 1, 1])], fun σ w => dP (slotOf σ 0) fun p_ => dL (slotOf σ 11) fun out_b_ out_l_ out_c_ => sB4 p_ out_b_ out_l_ out_c_ w)] 2000) [(0, [1, 1, 1, 1, 1, 1, 1, 1, 0, 1, 0, 0]), (2, [1, 1, 1, 1, 1, 1, 1, 1, 0, 1, 0, 0]), (1, [0]), (0, [1, 1, 1, 1, 1, 1, 1, 1, 1])] [(0, .pointer p), (1, .int .i64 dst), (2, .int .i64 proto), (3, .slice data_b data_l data_c), (10, .int .i64 count), (11, .slice out_b out_l out_c), (12, .int .i64 i)] w := by kernel_rfl
theorem ip_IP_Output.L1b_sound {R : Option Addr → Nat → Nat → Int → World → Prop} {N1 : Option Addr → Int → Int → Option Addr → Nat → Nat → Int → Option Addr → Nat → Nat → Int → World → Prop} (hN1 : ∀ p dst proto data_b data_l data_c count out_b out_l out_c i w, N1 p dst proto data_b data_l data_c count out_b out_l out_c i w → KW Tryz.prog 162 118 (ip_IP_Output.RV R) ([(0, [1, 1, 1, 1, 1, 1, 1, 1, 0, 1, 0, 0]), (2, [1, 1, 1, 1, 1, 1, 1, 1, 0, 1, 0, 0]), (1, [0]), (0, [1, 1, 1, 1, 1, 1, 1, 1, 1])].map (toItem (Tryz.f162.body.getD .skip))) [(0, .pointer p), (1, .int .i64 dst), (2, .int .i64 proto), (3, .slice data_b data_l data_c), (10, .int .i64 count), (11, .slice out_b out_l out_c), (12, .int .i64 i)] w) (p : Option Addr) (dst proto : Int) (data_b : Option Addr) (data_l data_c : Nat) (count : Int) (out_b : Option Addr) (out_l out_c : Nat) (i : Int) (w : World) (h : ip_IP_Output.L1b p dst proto data_b data_l data_c count out_b out_l out_c i w  N1 R) :
    KW Tryz.prog 162 118 (ip_IP_Output.RV R) ([(0, [1, 1, 1, 1, 1, 1, 1, 1, 0, 1, 0, 0]), (2, [1, 1, 1, 1, 1, 1, 1, 1, 0, 1, 0, 0]), (1, [0]), (0, [1, 1, 1, 1, 1, 1, 1, 1, 1])].map (toItem (Tryz.f162.body.getD .skip))) [(0, .pointer p), (1, .int .i64 dst), (2, .int .i64 proto), (3, .slice data_b data_l data_c), (10, .int .i64 count), (11, .slice out_b out_l out_c), (12, .int .i64 i)] w := by
  exact block_spec Tryz.func162 Tryz.mixed (stops_cons (fun σ w h => by
      obtain ⟨p_, e0, h⟩ := dP_elim h
      obtain ⟨dst_, e1, h⟩ := dI_elim h
      obtain ⟨proto_, e2, h⟩ := dI_elim h
      obtain ⟨data_b_, data_l_, data_c_, e3, h⟩ := dL_elim h
      obtain ⟨count_, e4, h⟩ := dI_elim h
      obtain ⟨out_b_, out_l_, out_c_, e5, h⟩ := dL_elim h
      obtain ⟨i_, e6, h⟩ := dI_elim h
      exact (hN1 p_ dst_ proto_ data_b_ data_l_ data_c_ count_ out_b_ out_l_ out_c_ i_ w h).weaken (Sub.cons (Sub.cons (Sub.cons (Sub.cons (Sub.cons (Sub.cons (Sub.cons (Sub.nil _) e6) e5) e4) e3) e2) e1) e0)) (stops_cons (fun σ w h => by
      obtain ⟨p_, e0, h⟩ := dP_elim h
      obtain ⟨out_b_, out_l_, out_c_, e1, h⟩ := dL_elim h
      exact (ip_IP_Output.B4_sound  p_ out_b_ out_l_ out_c_ w h).weaken (Sub.cons (Sub.cons (Sub.nil _) e1) e0)) stops_nil)) (Eq.mp (ip_IP_Output.L1b_eq p dst proto data_b data_l data_c count out_b out_l out_c i w  N1 R (fun p_ out_b_ out_l_ out_c_ w => ip_IP_Output.B4 p_ out_b_ out_l_ out_c_ w  R)) h)
def ip_IP_Output.L1 (p : Option Addr) (dst proto : Int) (data_b : Option Addr) (data_l data_c : Nat) (count : Int) (out_b : Option Addr) (out_l out_c : Nat) (i : Int) (w : World)  (R : Option Addr → Nat → Nat → Int → World → Prop) : Prop :=
  ∃ (I : Nat → Option Addr → Int → Int → Option Addr → Nat → Nat → Int → Option Addr → Nat → Nat → Int → World → Prop) (m : Nat), I m p dst proto data_b data_l data_c count out_b out_l out_c i w ∧ ∀ m p dst proto data_b data_l data_c count out_b out_l out_c i w, I m p dst proto data_b data_l data_c count out_b out_l out_c i w → ip_IP_Output.L1b p dst proto data_b data_l data_c count out_b out_l out_c i w  (fun p' dst' proto' data_b' data_l' data_c' count' out_b' out_l' out_c' i' w' => ∃ m', m' < m ∧ I m' p' dst' proto' data_b' data_l' data_c' count' out_b' out_l' out_c' i' w') R
theorem ip_IP_Output.L1_sound {R : Option Addr → Nat → Nat → Int → World → Prop}  (p : Option Addr) (dst proto : Int) (data_b : Option Addr) (data_l data_c : Nat) (count : Int) (out_b : Option Addr) (out_l out_c : Nat) (i : Int) (w : World) (h : ip_IP_Output.L1 p dst proto data_b data_l data_c count out_b out_l out_c i w  R) :
    KW Tryz.prog 162 118 (ip_IP_Output.RV R) ([(0, [1, 1, 1, 1, 1, 1, 1, 1, 0, 1, 0, 0]), (2, [1, 1, 1, 1, 1, 1, 1, 1, 0, 1, 0, 0]), (1, [0]), (0, [1, 1, 1, 1, 1, 1, 1, 1, 1])].map (toItem (Tryz.f162.body.getD .skip))) [(0, .pointer p), (1, .int .i64 dst), (2, .int .i64 proto), (3, .slice data_b data_l data_c), (10, .int .i64 count), (11, .slice out_b out_l out_c), (12, .int .i64 i)] w := by
  obtain ⟨I, m, hBase, hr⟩ := h
  refine KW.loop (fun m σ w => ∃ (p : Option Addr) (dst proto : Int) (data_b : Option Addr) (data_l data_c : Nat) (count : Int) (out_b : Option Addr) (out_l out_c : Nat) (i : Int), σ = [(0, .pointer p), (1, .int .i64 dst), (2, .int .i64 proto), (3, .slice data_b data_l data_c), (10, .int .i64 count), (11, .slice out_b out_l out_c), (12, .int .i64 i)] ∧ I m p dst proto data_b data_l data_c count out_b out_l out_c i w) ?_ m _ w ⟨p, dst, proto, data_b, data_l, data_c, count, out_b, out_l, out_c, i, rfl, hBase⟩
  rintro m ih σ w ⟨p, dst, proto, data_b, data_l, data_c, count, out_b, out_l, out_c, i, rfl, hI⟩
  exact ip_IP_Output.L1b_sound  (N1 := fun p' dst' proto' data_b' data_l' data_c' count' out_b' out_l' out_c' i' w' => ∃ m', m' < m ∧ I m' p' dst' proto' data_b' data_l' data_c' count' out_b' out_l' out_c' i' w') (fun p' dst' proto' data_b' data_l' data_c' count' out_b' out_l' out_c' i' w' hx => by obtain ⟨m', hlt, hI'⟩ := hx; exact ih m' hlt _ w' ⟨p', dst', proto', data_b', data_l', data_c', count', out_b', out_l', out_c', i', rfl, hI'⟩) p dst proto data_b data_l data_c count out_b out_l out_c i w (hr m p dst proto data_b data_l data_c count out_b out_l out_c i w hI)
def ip_IP_Output.B3 (p : Option Addr) (dst proto : Int) (data_b : Option Addr) (data_l data_c : Nat) (count : Int) (w : World)   (R : Option Addr → Nat → Nat → Int → World → Prop) : Prop :=
  Make 81 (.slice none 0 0) 1 24 count count w fun b43 w1 =>
  ip_IP_Output.L1 p dst proto data_b data_l data_c count (some ⟨b43, 0, none⟩) count.toNat count.toNat (0 : Int) w1  R
theorem ip_IP_Output.B3_eq (p : Option Addr) (dst proto : Int) (data_b : Option Addr) (data_l data_c : Nat) (count : Int) (w : World)   (R : Option Addr → Nat → Nat → Int → World → Prop) (sL1 : Option Addr → Int → Int → Option Addr → Nat → Nat → Int → Option Addr → Nat → Nat → Int → World → Prop) :
    (
  Make 81 (.slice none 0 0) 1 24 count count w fun b43 w1 =>
  sL1 p dst proto data_b data_l data_c count (some ⟨b43, 0, none⟩) count.toNat count.toNat (0 : Int) w1) = kstep Tryz.prog 118 Tryz.f162.results.toList (Tryz.f162.body.getD .skip) (ip_IP_Output.RV R) (kvc Tryz.prog 118 Tryz.f162.results.toList (Tryz.f162.body.getD .skip) (ip_IP_Output.RV R) [([(0, [1, 1, 1, 1, 1, 1, 1, 1, 0, 1, 0, 0]), (2, [1, 1, 1, 1, 1, 1, 1, 1, 0, 1, 0, 0]), (1, [0]), (0, [1, 1, 1, 1, 1, 1, 1, 1, 1])], fun σ w => dP (slotOf σ 0) fun p_ => dI .i64 (slotOf σ 1) fun dst_ => dI .i64 (slotOf σ 2) fun proto_ => dL (slotOf σ 3) fun data_b_ data_l_ data_c_ => dI .i64 (slotOf σ 10) fun count_ => dL (slotOf σ 11) fun out_b_ out_l_ out_c_ => dI .i64 (slotOf σ 12) fun i_ => sL1 p_ dst_ proto_ data_b_ data_l_ data_c_ count_ out_b_ out_l_ out_c_ i_ w)] 2000) [(0, [1, 1, 1, 1, 1, 1, 1])] [(0, .pointer p), (1, .int .i64 dst), (2, .int .i64 proto), (3, .slice data_b data_l data_c), (10, .int .i64 count)] w := by kernel_rfl
theorem ip_IP_Output.B3_sound {R : Option Addr → Nat → Nat → Int → World → Prop}  (p : Option Addr) (dst proto : Int) (data_b : Option Addr) (data_l data_c : Nat) (count : Int) (w : World) (h : ip_IP_Output.B3 p dst proto data_b data_l data_c count w   R) :
    KW Tryz.prog 162 118 (ip_IP_Output.RV R) ([(0, [1, 1, 1, 1, 1, 1, 1])].map (toItem (Tryz.f162.body.getD .skip))) [(0, .pointer p), (1, .int .i64 dst), (2, .int .i64 proto), (3, .slice data_b data_l data_c), (10, .int .i64 count)] w := by
  exact block_spec Tryz.func162 Tryz.mixed (stops_cons (fun σ w h => by
      obtain ⟨p_, e0, h⟩ := dP_elim h
      obtain ⟨dst_, e1, h⟩ := dI_elim h
      obtain ⟨proto_, e2, h⟩ := dI_elim h
      obtain ⟨data_b_, data_l_, data_c_, e3, h⟩ := dL_elim h
      obtain ⟨count_, e4, h⟩ := dI_elim h
      obtain ⟨out_b_, out_l_, out_c_, e5, h⟩ := dL_elim h
      obtain ⟨i_, e6, h⟩ := dI_elim h
      exact (ip_IP_Output.L1_sound  p_ dst_ proto_ data_b_ data_l_ data_c_ count_ out_b_ out_l_ out_c_ i_ w h).weaken (Sub.cons (Sub.cons (Sub.cons (Sub.cons (Sub.cons (Sub.cons (Sub.cons (Sub.nil _) e6) e5) e4) e3) e2) e1) e0)) stops_nil) (Eq.mp (ip_IP_Output.B3_eq p dst proto data_b data_l data_c count w   R (fun p_ dst_ proto_ data_b_ data_l_ data_c_ count_ out_b_ out_l_ out_c_ i_ w => ip_IP_Output.L1 p_ dst_ proto_ data_b_ data_l_ data_c_ count_ out_b_ out_l_ out_c_ i_ w  R)) h)
def ip_IP_Output.B2 (p : Option Addr) (dst proto : Int) (data_b : Option Addr) (data_l data_c : Nat) (t26 : Bool) (w : World)   (R : Option Addr → Nat → Nat → Int → World → Prop) : Prop :=
  Bm t26 (
    R none 0 0 (6 : Int) w) (
    Bm (decide (((data_l : Nat) : Int) > (40 : Int))) (
      R none 0 0 (2 : Int) w) (
      Pn p fun a =>
      LdI .i64 (a.add 2) w fun x33 =>
      Bm (decide (x33 ≤ (0 : Int))) (
        R none 0 0 (12 : Int) w) (
        (16 : Int) ≠ 0 ∧
        Bm ((IntKind.i64.wrap ((IntKind.i64.wrap ((IntKind.i64.wrap (((data_l : Nat) : Int) + (16 : Int))) - (1 : Int))).tdiv (16 : Int))) == (0 : Int)) (
          ip_IP_Output.B3 p dst proto data_b data_l data_c (1 : Int) w  R) (
          ip_IP_Output.B3 p dst proto data_b data_l data_c (IntKind.i64.wrap ((IntKind.i64.wrap ((IntKind.i64.wrap (((data_l : Nat) : Int) + (16 : Int))) - (1 : Int))).tdiv (16 : Int))) w  R))))
theorem ip_IP_Output.B2_eq (p : Option Addr) (dst proto : Int) (data_b : Option Addr) (data_l data_c : Nat) (t26 : Bool) (w : World)   (R : Option Addr → Nat → Nat → Int → World → Prop) (sB3 : Option Addr → Int → Int → Option Addr → Nat → Nat → Int → World → Prop) :
    (
  Bm t26 (
    R none 0 0 (6 : Int) w) (
    Bm (decide (((data_l : Nat) : Int) > (40 : Int))) (
      R none 0 0 (2 : Int) w) (
      Pn p fun a =>
      LdI .i64 (a.add 2) w fun x33 =>
      Bm (decide (x33 ≤ (0 : Int))) (
        R none 0 0 (12 : Int) w) (
        (16 : Int) ≠ 0 ∧
        Bm ((IntKind.i64.wrap ((IntKind.i64.wrap ((IntKind.i64.wrap (((data_l : Nat) : Int) + (16 : Int))) - (1 : Int))).tdiv (16 : Int))) == (0 : Int)) (
          sB3 p dst proto data_b data_l data_c (1 : Int) w) (
          sB3 p dst proto data_b data_l data_c (IntKind.i64.wrap ((IntKind.i64.wrap ((IntKind.i64.wrap (((data_l : Nat) : Int) + (16 : Int))) - (1 : Int))).tdiv (16 : Int))) w))))) = kstep Tryz.prog 118 Tryz.f162.results.toList (Tryz.f162.body.getD .skip) (ip_IP_Output.RV R) (kvc Tryz.prog 118 Tryz.f162.results.toList (Tryz.f162.body.getD .skip) (ip_IP_Output.RV R) [([(0, [1, 1, 1, 1, 1, 1, 1])], fun σ w => dP (slotOf σ 0) fun p_ => dI .i64 (slotOf σ 1) fun dst_ => dI .i64 (slotOf σ 2) fun proto_ => dL (slotOf σ 3) fun data_b_ data_l_ data_c_ => dI .i64 (slotOf σ 10) fun count_ => sB3 p_ dst_ proto_ data_b_ data_l_ data_c_ count_ w)] 2000) [(0, [1, 1, 0, 1]), (0, [1, 1, 1])] [(0, .pointer p), (1, .int .i64 dst), (2, .int .i64 proto), (3, .slice data_b data_l data_c), (26, .bool t26)] w := by kernel_rfl
theorem ip_IP_Output.B2_sound {R : Option Addr → Nat → Nat → Int → World → Prop}  (p : Option Addr) (dst proto : Int) (data_b : Option Addr) (data_l data_c : Nat) (t26 : Bool) (w : World) (h : ip_IP_Output.B2 p dst proto data_b data_l data_c t26 w   R) :
    KW Tryz.prog 162 118 (ip_IP_Output.RV R) ([(0, [1, 1, 0, 1]), (0, [1, 1, 1])].map (toItem (Tryz.f162.body.getD .skip))) [(0, .pointer p), (1, .int .i64 dst), (2, .int .i64 proto), (3, .slice data_b data_l data_c), (26, .bool t26)] w := by
  exact block_spec Tryz.func162 Tryz.mixed (stops_cons (fun σ w h => by
      obtain ⟨p_, e0, h⟩ := dP_elim h
      obtain ⟨dst_, e1, h⟩ := dI_elim h
      obtain ⟨proto_, e2, h⟩ := dI_elim h
      obtain ⟨data_b_, data_l_, data_c_, e3, h⟩ := dL_elim h
      obtain ⟨count_, e4, h⟩ := dI_elim h
      exact (ip_IP_Output.B3_sound  p_ dst_ proto_ data_b_ data_l_ data_c_ count_ w h).weaken (Sub.cons (Sub.cons (Sub.cons (Sub.cons (Sub.cons (Sub.nil _) e4) e3) e2) e1) e0)) stops_nil) (Eq.mp (ip_IP_Output.B2_eq p dst proto data_b data_l data_c t26 w   R (fun p_ dst_ proto_ data_b_ data_l_ data_c_ count_ w => ip_IP_Output.B3 p_ dst_ proto_ data_b_ data_l_ data_c_ count_ w  R)) h)
def ip_IP_Output.B1 (p : Option Addr) (dst proto : Int) (data_b : Option Addr) (data_l data_c : Nat) (t20 : Bool) (w : World)   (R : Option Addr → Nat → Nat → Int → World → Prop) : Prop :=
  Bm t20 (
    R none 0 0 (5 : Int) w) (
    Bm (decide (proto < (0 : Int))) (
      ip_IP_Output.B2 p dst proto data_b data_l data_c true w  R) (
      ip_IP_Output.B2 p dst proto data_b data_l data_c (decide (proto > (255 : Int))) w  R))
theorem ip_IP_Output.B1_eq (p : Option Addr) (dst proto : Int) (data_b : Option Addr) (data_l data_c : Nat) (t20 : Bool) (w : World)   (R : Option Addr → Nat → Nat → Int → World → Prop) (sB2 : Option Addr → Int → Int → Option Addr → Nat → Nat → Bool → World → Prop) :
    (
  Bm t20 (
    R none 0 0 (5 : Int) w) (
    Bm (decide (proto < (0 : Int))) (
      sB2 p dst proto data_b data_l data_c true w) (
      sB2 p dst proto data_b data_l data_c (decide (proto > (255 : Int))) w))) = kstep Tryz.prog 118 Tryz.f162.results.toList (Tryz.f162.body.getD .skip) (ip_IP_Output.RV R) (kvc Tryz.prog 118 Tryz.f162.results.toList (Tryz.f162.body.getD .skip) (ip_IP_Output.RV R) [([(0, [1, 1, 0, 1]), (0, [1, 1, 1])], fun σ w => dP (slotOf σ 0) fun p_ => dI .i64 (slotOf σ 1) fun dst_ => dI .i64 (slotOf σ 2) fun proto_ => dL (slotOf σ 3) fun data_b_ data_l_ data_c_ => dB (slotOf σ 26) fun t26_ => sB2 p_ dst_ proto_ data_b_ data_l_ data_c_ t26_ w)] 2000) [(0, [1, 0, 1]), (0, [1, 1])] [(0, .pointer p), (1, .int .i64 dst), (2, .int .i64 proto), (3, .slice data_b data_l data_c), (20, .bool t20)] w := by kernel_rfl
theorem ip_IP_Output.B1_sound {R : Option Addr → Nat → Nat → Int → World → Prop}  (p : Option Addr) (dst proto : Int) (data_b : Option Addr) (data_l data_c : Nat) (t20 : Bool) (w : World) (h : ip_IP_Output.B1 p dst proto data_b data_l data_c t20 w   R) :
    KW Tryz.prog 162 118 (ip_IP_Output.RV R) ([(0, [1, 0, 1]), (0, [1, 1])].map (toItem (Tryz.f162.body.getD .skip))) [(0, .pointer p), (1, .int .i64 dst), (2, .int .i64 proto), (3, .slice data_b data_l data_c), (20, .bool t20)] w := by
  exact block_spec Tryz.func162 Tryz.mixed (stops_cons (fun σ w h => by
      obtain ⟨p_, e0, h⟩ := dP_elim h
      obtain ⟨dst_, e1, h⟩ := dI_elim h
      obtain ⟨proto_, e2, h⟩ := dI_elim h
      obtain ⟨data_b_, data_l_, data_c_, e3, h⟩ := dL_elim h
      obtain ⟨t26_, e4, h⟩ := dB_elim h
      exact (ip_IP_Output.B2_sound  p_ dst_ proto_ data_b_ data_l_ data_c_ t26_ w h).weaken (Sub.cons (Sub.cons (Sub.cons (Sub.cons (Sub.cons (Sub.nil _) e4) e3) e2) e1) e0)) stops_nil) (Eq.mp (ip_IP_Output.B1_eq p dst proto data_b data_l data_c t20 w   R (fun p_ dst_ proto_ data_b_ data_l_ data_c_ t26_ w => ip_IP_Output.B2 p_ dst_ proto_ data_b_ data_l_ data_c_ t26_ w  R)) h)
def ip_IP_Output.B0 (p : Option Addr) (dst proto : Int) (data_b : Option Addr) (data_l data_c : Nat) (w : World)   (R : Option Addr → Nat → Nat → Int → World → Prop) : Prop :=
  Bm (decide (dst < (0 : Int))) (
    ip_IP_Output.B1 p dst proto data_b data_l data_c true w  R) (
    ip_IP_Output.B1 p dst proto data_b data_l data_c (decide (dst > (255 : Int))) w  R)
theorem ip_IP_Output.B0_eq (p : Option Addr) (dst proto : Int) (data_b : Option Addr) (data_l data_c : Nat) (w : World)   (R : Option Addr → Nat → Nat → Int → World → Prop) (sB1 : Option Addr → Int → Int → Option Addr → Nat → Nat → Bool → World → Prop) :
    (
  Bm (decide (dst < (0 : Int))) (
    sB1 p dst proto data_b data_l data_c true w) (
    sB1 p dst proto data_b data_l data_c (decide (dst > (255 : Int))) w)) = kstep Tryz.prog 118 Tryz.f162.results.toList (Tryz.f162.body.getD .skip) (ip_IP_Output.RV R) (kvc Tryz.prog 118 Tryz.f162.results.toList (Tryz.f162.body.getD .skip) (ip_IP_Output.RV R) [([(0, [1, 0, 1]), (0, [1, 1])], fun σ w => dP (slotOf σ 0) fun p_ => dI .i64 (slotOf σ 1) fun dst_ => dI .i64 (slotOf σ 2) fun proto_ => dL (slotOf σ 3) fun data_b_ data_l_ data_c_ => dB (slotOf σ 20) fun t20_ => sB1 p_ dst_ proto_ data_b_ data_l_ data_c_ t20_ w)] 2000) [(0, [])] [(0, .pointer p), (1, .int .i64 dst), (2, .int .i64 proto), (3, .slice data_b data_l data_c)] w := by kernel_rfl
theorem ip_IP_Output.B0_sound {R : Option Addr → Nat → Nat → Int → World → Prop}  (p : Option Addr) (dst proto : Int) (data_b : Option Addr) (data_l data_c : Nat) (w : World) (h : ip_IP_Output.B0 p dst proto data_b data_l data_c w   R) :
    KW Tryz.prog 162 118 (ip_IP_Output.RV R) ([(0, [])].map (toItem (Tryz.f162.body.getD .skip))) [(0, .pointer p), (1, .int .i64 dst), (2, .int .i64 proto), (3, .slice data_b data_l data_c)] w := by
  exact block_spec Tryz.func162 Tryz.mixed (stops_cons (fun σ w h => by
      obtain ⟨p_, e0, h⟩ := dP_elim h
      obtain ⟨dst_, e1, h⟩ := dI_elim h
      obtain ⟨proto_, e2, h⟩ := dI_elim h
      obtain ⟨data_b_, data_l_, data_c_, e3, h⟩ := dL_elim h
      obtain ⟨t20_, e4, h⟩ := dB_elim h
      exact (ip_IP_Output.B1_sound  p_ dst_ proto_ data_b_ data_l_ data_c_ t20_ w h).weaken (Sub.cons (Sub.cons (Sub.cons (Sub.cons (Sub.cons (Sub.nil _) e4) e3) e2) e1) e0)) stops_nil) (Eq.mp (ip_IP_Output.B0_eq p dst proto data_b data_l data_c w   R (fun p_ dst_ proto_ data_b_ data_l_ data_c_ t20_ w => ip_IP_Output.B1 p_ dst_ proto_ data_b_ data_l_ data_c_ t20_ w  R)) h)
theorem ip_IP_Output.sound (p : Option Addr) (dst proto : Int) (data_b : Option Addr) (data_l data_c : Nat) (w : World) (R : Option Addr → Nat → Nat → Int → World → Prop) (h : ip_IP_Output.B0 p dst proto data_b data_l data_c w R) : ip_IP_Output.Call p dst proto data_b data_l data_c w R := by
  have hc := calls_of_block (args := #[.pointer p, .int .i64 dst, .int .i64 proto, .slice data_b data_l data_c]) Tryz.func162 (body := (Tryz.f162.body.getD .skip)) (by kernel_rfl) (by kernel_rfl) (args_slot _) (ip_IP_Output.B0_sound p dst proto data_b data_l data_c w h)
  exact hc.mono fun e w' he => by
    obtain ⟨v, rfl, hv⟩ := he
    exact ip_IP_Output.RV_elim hv
end Go.Proofs.Qxb6500424aGreat
