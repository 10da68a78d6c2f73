import Derived.Test.Qxb6500422aGreatSig
set_option maxRecDepth 100000
set_option linter.unusedVariables false
open Go.Vc
namespace Go.Proofs.Qxb6500422aGreat
def conn_Conn_ended.B0 (c : Option Addr) (w : World)   (R : Int → World → Prop) : Prop :=
  Pn c fun a =>
  LdI .i64 (a.add 3) w fun x6 =>
  Bm (x6 != (0 : Int)) (
    Pn c fun a_1 =>
    LdI .i64 (a_1.add 3) w fun x11 =>
    R x11 w) (
    R (15 : Int) w)
theorem conn_Conn_ended.B0_eq (c : Option Addr) (w : World)   (R : Int → World → Prop)  :
    (
  Pn c fun a =>
  LdI .i64 (a.add 3) w fun x6 =>
  Bm (x6 != (0 : Int)) (
    Pn c fun a_1 =>
    LdI .i64 (a_1.add 3) w fun x11 =>
    R x11 w) (
    R (15 : Int) w)) = kstep Tryz.prog 12 Tryz.f81.results.toList (Tryz.f81.body.getD .skip) (conn_Conn_ended.RV R) (kvc Tryz.prog 12 Tryz.f81.results.toList (Tryz.f81.body.getD .skip) (conn_Conn_ended.RV R) [] 2000) [(0, [])] [(0, .pointer c)] w := by kernel_rfl
theorem conn_Conn_ended.B0_sound {R : Int → World → Prop}  (c : Option Addr) (w : World) (h : conn_Conn_ended.B0 c w   R) :
    KW Tryz.prog 81 12 (conn_Conn_ended.RV R) ([(0, [])].map (toItem (Tryz.f81.body.getD .skip))) [(0, .pointer c)] w := by
  exact block_spec Tryz.func81 Tryz.mixed stops_nil (Eq.mp (conn_Conn_ended.B0_eq c w   R ) h)
theorem conn_Conn_ended.sound (c : Option Addr) (w : World) (R : Int → World → Prop) (h : conn_Conn_ended.B0 c w R) : conn_Conn_ended.Call c w R := by
  have hc := calls_of_block (args := #[.pointer c]) Tryz.func81 (body := (Tryz.f81.body.getD .skip)) (by kernel_rfl) (by kernel_rfl) (args_slot _) (conn_Conn_ended.B0_sound c w h)
  exact hc.mono fun e w' he => by
    obtain ⟨v, rfl, hv⟩ := he
    exact conn_Conn_ended.RV_elim hv
def connm_Conn_ended.B0 (c : Option Addr) (w : World)   (R : Int → World → Prop) : Prop :=
  Pn c fun a =>
  LdI .i64 (a.add 1) w fun x6 =>
  Bm (x6 != (0 : Int)) (
    Pn c fun a_1 =>
    LdI .i64 (a_1.add 1) w fun x11 =>
    R x11 w) (
    R (15 : Int) w)
theorem connm_Conn_ended.B0_eq (c : Option Addr) (w : World)   (R : Int → World → Prop)  :
    (
  Pn c fun a =>
  LdI .i64 (a.add 1) w fun x6 =>
  Bm (x6 != (0 : Int)) (
    Pn c fun a_1 =>
    LdI .i64 (a_1.add 1) w fun x11 =>
    R x11 w) (
    R (15 : Int) w)) = kstep Tryz.prog 12 Tryz.f82.results.toList (Tryz.f82.body.getD .skip) (connm_Conn_ended.RV R) (kvc Tryz.prog 12 Tryz.f82.results.toList (Tryz.f82.body.getD .skip) (connm_Conn_ended.RV R) [] 2000) [(0, [])] [(0, .pointer c)] w := by kernel_rfl
theorem connm_Conn_ended.B0_sound {R : Int → World → Prop}  (c : Option Addr) (w : World) (h : connm_Conn_ended.B0 c w   R) :
    KW Tryz.prog 82 12 (connm_Conn_ended.RV R) ([(0, [])].map (toItem (Tryz.f82.body.getD .skip))) [(0, .pointer c)] w := by
  exact block_spec Tryz.func82 Tryz.mixed stops_nil (Eq.mp (connm_Conn_ended.B0_eq c w   R ) h)
theorem connm_Conn_ended.sound (c : Option Addr) (w : World) (R : Int → World → Prop) (h : connm_Conn_ended.B0 c w R) : connm_Conn_ended.Call c w R := by
  have hc := calls_of_block (args := #[.pointer c]) Tryz.func82 (body := (Tryz.f82.body.getD .skip)) (by kernel_rfl) (by kernel_rfl) (args_slot _) (connm_Conn_ended.B0_sound c w h)
  exact hc.mono fun e w' he => by
    obtain ⟨v, rfl, hv⟩ := he
    exact connm_Conn_ended.RV_elim hv
def seg_SendBuf_Put.B1 (b p_b : Option Addr) (p_l p_c : Nat) (n at0 first : Int) (w : World)   (R : Int → World → Prop) : Prop :=
  Pn b fun a =>
  (0 ≤ (IntKind.i64.wrap (at0 + first)) ∧ (IntKind.i64.wrap (at0 + first)) ≤ ((16 : Nat) : Int)) ∧
  (0 ≤ at0 ∧ at0 ≤ (IntKind.i64.wrap (at0 + first))) ∧
  (0 ≤ first ∧ first ≤ ((p_c : Nat) : Int)) ∧
  Copy 1 (some (slBaseA a at0 ((16 : Nat) : Int) 1)) ((IntKind.i64.wrap (at0 + first)).toNat - at0.toNat) (slBase p_b ((0 : Nat) : Int) ((p_c : Nat) : Int) 1) (first.toNat - ((0 : Nat) : Int).toNat) w.drew fun n43 w1 =>
  Pn b fun a_1 =>
  (0 ≤ (IntKind.i64.wrap (n - first)) ∧ (IntKind.i64.wrap (n - first)) ≤ ((16 : Nat) : Int)) ∧
  (0 ≤ n ∧ n ≤ ((p_c : Nat) : Int)) ∧
  (0 ≤ first ∧ first ≤ n) ∧
  Copy 1 (some (slBaseA a_1 ((0 : Nat) : Int) ((16 : Nat) : Int) 1)) ((IntKind.i64.wrap (n - first)).toNat - ((0 : Nat) : Int).toNat) (slBase p_b first ((p_c : Nat) : Int) 1) (n.toNat - first.toNat) w1.drew fun n55 w2 =>
  Pn b fun a_2 =>
  LdI .i64 (a_2.add 17) w2 fun x59 =>
  Pn b fun a_3 =>
  Sts [.int .i64 (IntKind.i64.wrap (x59 + n))] (a_3.add 17) 0 w2 fun w3 =>
  R n w3
theorem seg_SendBuf_Put.B1_eq (b p_b : Option Addr) (p_l p_c : Nat) (n at0 first : Int) (w : World)   (R : Int → World → Prop)  :
    (
  Pn b fun a =>
  (0 ≤ (IntKind.i64.wrap (at0 + first)) ∧ (IntKind.i64.wrap (at0 + first)) ≤ ((16 : Nat) : Int)) ∧
  (0 ≤ at0 ∧ at0 ≤ (IntKind.i64.wrap (at0 + first))) ∧
  (0 ≤ first ∧ first ≤ ((p_c : Nat) : Int)) ∧
  Copy 1 (some (slBaseA a at0 ((16 : Nat) : Int) 1)) ((IntKind.i64.wrap (at0 + first)).toNat - at0.toNat) (slBase p_b ((0 : Nat) : Int) ((p_c : Nat) : Int) 1) (first.toNat - ((0 : Nat) : Int).toNat) w.drew fun n43 w1 =>
  Pn b fun a_1 =>
  (0 ≤ (IntKind.i64.wrap (n - first)) ∧ (IntKind.i64.wrap (n - first)) ≤ ((16 : Nat) : Int)) ∧
  (0 ≤ n ∧ n ≤ ((p_c : Nat) : Int)) ∧
  (0 ≤ first ∧ first ≤ n) ∧
  Copy 1 (some (slBaseA a_1 ((0 : Nat) : Int) ((16 : Nat) : Int) 1)) ((IntKind.i64.wrap (n - first)).toNat - ((0 : Nat) : Int).toNat) (slBase p_b first ((p_c : Nat) : Int) 1) (n.toNat - first.toNat) w1.drew fun n55 w2 =>
  Pn b fun a_2 =>
  LdI .i64 (a_2.add 17) w2 fun x59 =>
  Pn b fun a_3 =>
  Sts [.int .i64 (IntKind.i64.wrap (x59 + n))] (a_3.add 17) 0 w2 fun w3 =>
  R n w3) = kstep Tryz.prog 65 Tryz.f83.results.toList (Tryz.f83.body.getD .skip) (seg_SendBuf_Put.RV R) (kvc Tryz.prog 65 Tryz.f83.results.toList (Tryz.f83.body.getD .skip) (seg_SendBuf_Put.RV R) [] 2000) [(0, [1, 1, 1, 1, 1])] [(0, .pointer b), (1, .slice p_b p_l p_c), (5, .int .i64 n), (6, .int .i64 at0), (7, .int .i64 first)] w := by kernel_rfl
theorem seg_SendBuf_Put.B1_sound {R : Int → World → Prop}  (b p_b : Option Addr) (p_l p_c : Nat) (n at0 first : Int) (w : World) (h : seg_SendBuf_Put.B1 b p_b p_l p_c n at0 first w   R) :
    KW Tryz.prog 83 65 (seg_SendBuf_Put.RV R) ([(0, [1, 1, 1, 1, 1])].map (toItem (Tryz.f83.body.getD .skip))) [(0, .pointer b), (1, .slice p_b p_l p_c), (5, .int .i64 n), (6, .int .i64 at0), (7, .int .i64 first)] w := by
  exact block_spec Tryz.func83 Tryz.mixed stops_nil (Eq.mp (seg_SendBuf_Put.B1_eq b p_b p_l p_c n at0 first w   R ) h)
def seg_SendBuf_Put.B0 (b p_b : Option Addr) (p_l p_c : Nat) (w : World)   (R : Int → World → Prop) : Prop :=
  Pn b fun a =>
  LdI .i64 (a.add 17) w fun x13 =>
  seg_least.Call ((p_l : Nat) : Int) (IntKind.i64.wrap ((16 : Int) - x13)) w fun r15 w1 =>
  Pn b fun a_1 =>
  LdI .i64 (a_1.add 16) w1.drew fun x19 =>
  Pn b fun a_2 =>
  LdI .i64 (a_2.add 17) w1.drew fun x23 =>
  (16 : Int) ≠ 0 ∧
  Bm (decide ((IntKind.i64.wrap ((16 : Int) - ((IntKind.i64.wrap (x19 + x23)).tmod (16 : Int)))) > r15)) (
    seg_SendBuf_Put.B1 b p_b p_l p_c r15 ((IntKind.i64.wrap (x19 + x23)).tmod (16 : Int)) r15 w1.drew  R) (
    seg_SendBuf_Put.B1 b p_b p_l p_c r15 ((IntKind.i64.wrap (x19 + x23)).tmod (16 : Int)) (IntKind.i64.wrap ((16 : Int) - ((IntKind.i64.wrap (x19 + x23)).tmod (16 : Int)))) w1.drew  R)
theorem seg_SendBuf_Put.B0_eq (b p_b : Option Addr) (p_l p_c : Nat) (w : World)   (R : Int → World → Prop) (sB1 : Option Addr → Option Addr → Nat → Nat → Int → Int → Int → World → Prop) :
    (
  Pn b fun a =>
  LdI .i64 (a.add 17) w fun x13 =>
  seg_least.Call ((p_l : Nat) : Int) (IntKind.i64.wrap ((16 : Int) - x13)) w fun r15 w1 =>
  Pn b fun a_1 =>
  LdI .i64 (a_1.add 16) w1.drew fun x19 =>
  Pn b fun a_2 =>
  LdI .i64 (a_2.add 17) w1.drew fun x23 =>
  (16 : Int) ≠ 0 ∧
  Bm (decide ((IntKind.i64.wrap ((16 : Int) - ((IntKind.i64.wrap (x19 + x23)).tmod (16 : Int)))) > r15)) (
    sB1 b p_b p_l p_c r15 ((IntKind.i64.wrap (x19 + x23)).tmod (16 : Int)) r15 w1.drew) (
    sB1 b p_b p_l p_c r15 ((IntKind.i64.wrap (x19 + x23)).tmod (16 : Int)) (IntKind.i64.wrap ((16 : Int) - ((IntKind.i64.wrap (x19 + x23)).tmod (16 : Int)))) w1.drew)) = kstep Tryz.prog 65 Tryz.f83.results.toList (Tryz.f83.body.getD .skip) (seg_SendBuf_Put.RV R) (kvc Tryz.prog 65 Tryz.f83.results.toList (Tryz.f83.body.getD .skip) (seg_SendBuf_Put.RV R) [([(0, [1, 1, 1, 1, 1])], fun σ w => dP (slotOf σ 0) fun b_ => dL (slotOf σ 1) fun p_b_ p_l_ p_c_ => dI .i64 (slotOf σ 5) fun n_ => dI .i64 (slotOf σ 6) fun at0_ => dI .i64 (slotOf σ 7) fun first_ => sB1 b_ p_b_ p_l_ p_c_ n_ at0_ first_ w)] 2000) [(0, [])] [(0, .pointer b), (1, .slice p_b p_l p_c)] w := by kernel_rfl
theorem seg_SendBuf_Put.B0_sound {R : Int → World → Prop}  (b p_b : Option Addr) (p_l p_c : Nat) (w : World) (h : seg_SendBuf_Put.B0 b p_b p_l p_c w   R) :
    KW Tryz.prog 83 65 (seg_SendBuf_Put.RV R) ([(0, [])].map (toItem (Tryz.f83.body.getD .skip))) [(0, .pointer b), (1, .slice p_b p_l p_c)] w := by
  exact block_spec Tryz.func83 Tryz.mixed (stops_cons (fun σ w h => by
      obtain ⟨b_, e0, h⟩ := dP_elim h
      obtain ⟨p_b_, p_l_, p_c_, e1, h⟩ := dL_elim h
      obtain ⟨n_, e2, h⟩ := dI_elim h
      obtain ⟨at0_, e3, h⟩ := dI_elim h
      obtain ⟨first_, e4, h⟩ := dI_elim h
      exact (seg_SendBuf_Put.B1_sound  b_ p_b_ p_l_ p_c_ n_ at0_ first_ w h).weaken (Sub.cons (Sub.cons (Sub.cons (Sub.cons (Sub.cons (Sub.nil _) e4) e3) e2) e1) e0)) stops_nil) (Eq.mp (seg_SendBuf_Put.B0_eq b p_b p_l p_c w   R (fun b_ p_b_ p_l_ p_c_ n_ at0_ first_ w => seg_SendBuf_Put.B1 b_ p_b_ p_l_ p_c_ n_ at0_ first_ w  R)) h)
theorem seg_SendBuf_Put.sound (b p_b : Option Addr) (p_l p_c : Nat) (w : World) (R : Int → World → Prop) (h : seg_SendBuf_Put.B0 b p_b p_l p_c w R) : seg_SendBuf_Put.Call b p_b p_l p_c w R := by
  have hc := calls_of_block (args := #[.pointer b, .slice p_b p_l p_c]) Tryz.func83 (body := (Tryz.f83.body.getD .skip)) (by kernel_rfl) (by kernel_rfl) (args_slot _) (seg_SendBuf_Put.B0_sound b p_b p_l p_c w h)
  exact hc.mono fun e w' he => by
    obtain ⟨v, rfl, hv⟩ := he
    exact seg_SendBuf_Put.RV_elim hv
def seg_RecvBuf_Read.B0 (b : Option Addr) (max : Int) (w : World)   (R : Option Addr → Nat → Nat → World → Prop) : Prop :=
  Pn b fun a =>
  LdI .i64 (a.add 17) w fun x11 =>
  seg_least.Call max x11 w fun r12 w1 =>
  seg_RecvBuf_first.Call b r12 w1 fun r15_b r15_l r15_c w2 =>
  Pn b fun a_1 =>
  LdI .i64 (a_1.add 17) w2 fun x19 =>
  Pn b fun a_2 =>
  Sts [.int .i64 (IntKind.i64.wrap (x19 - r12))] (a_2.add 17) 0 w2 fun w3 =>
  R r15_b r15_l r15_c w3
theorem seg_RecvBuf_Read.B0_eq (b : Option Addr) (max : Int) (w : World)   (R : Option Addr → Nat → Nat → World → Prop)  :
    (
  Pn b fun a =>
  LdI .i64 (a.add 17) w fun x11 =>
  seg_least.Call max x11 w fun r12 w1 =>
  seg_RecvBuf_first.Call b r12 w1 fun r15_b r15_l r15_c w2 =>
  Pn b fun a_1 =>
  LdI .i64 (a_1.add 17) w2 fun x19 =>
  Pn b fun a_2 =>
  Sts [.int .i64 (IntKind.i64.wrap (x19 - r12))] (a_2.add 17) 0 w2 fun w3 =>
  R r15_b r15_l r15_c w3) = kstep Tryz.prog 25 Tryz.f84.results.toList (Tryz.f84.body.getD .skip) (seg_RecvBuf_Read.RV R) (kvc Tryz.prog 25 Tryz.f84.results.toList (Tryz.f84.body.getD .skip) (seg_RecvBuf_Read.RV R) [] 2000) [(0, [])] [(0, .pointer b), (1, .int .i64 max)] w := by kernel_rfl
theorem seg_RecvBuf_Read.B0_sound {R : Option Addr → Nat → Nat → World → Prop}  (b : Option Addr) (max : Int) (w : World) (h : seg_RecvBuf_Read.B0 b max w   R) :
    KW Tryz.prog 84 25 (seg_RecvBuf_Read.RV R) ([(0, [])].map (toItem (Tryz.f84.body.getD .skip))) [(0, .pointer b), (1, .int .i64 max)] w := by
  exact block_spec Tryz.func84 Tryz.mixed stops_nil (Eq.mp (seg_RecvBuf_Read.B0_eq b max w   R ) h)
theorem seg_RecvBuf_Read.sound (b : Option Addr) (max : Int) (w : World) (R : Option Addr → Nat → Nat → World → Prop) (h : seg_RecvBuf_Read.B0 b max w R) : seg_RecvBuf_Read.Call b max w R := by
  have hc := calls_of_block (args := #[.pointer b, .int .i64 max]) Tryz.func84 (body := (Tryz.f84.body.getD .skip)) (by kernel_rfl) (by kernel_rfl) (args_slot _) (seg_RecvBuf_Read.B0_sound b max w h)
  exact hc.mono fun e w' he => by
    obtain ⟨v, rfl, hv⟩ := he
    exact seg_RecvBuf_Read.RV_elim hv
def conn_Conn_ack.B0 (c : Option Addr) (w : World)   (R : Int → Int → Int → Int → Int → Int → Option Addr → Nat → Nat → World → Prop) : Prop :=
  New (.cells #[.int .i64 (0 : Int), .int .i64 (0 : Int), .int .i64 (0 : Int), .int .i64 (0 : Int), .int .i64 (0 : Int), .int .i64 (0 : Int), .slice none 0 0] 45) w fun b2 w1 =>
  conn_Conn_sndNxt.Call c w1 fun r5 w2 =>
  conn_Conn_mk.Call c (2 : Int) r5 none 0 0 w2 fun r8_0 r8_1 r8_2 r8_3 r8_4 r8_5 r8_6_b r8_6_l r8_6_c w3 =>
  Sts [.int .i64 r8_0, .int .i64 r8_1, .int .i64 r8_2, .int .i64 r8_3, .int .i64 r8_4, .int .i64 r8_5, .slice r8_6_b r8_6_l r8_6_c] ⟨b2, 0, none⟩ 0 w3 fun w4 =>
  LdI .i64 ⟨b2, 0, none⟩ w4 fun r_0 =>
  LdI .i64 ⟨b2, 1, none⟩ w4 fun r_1 =>
  LdI .i64 ⟨b2, 2, none⟩ w4 fun r_2 =>
  LdI .i64 ⟨b2, 3, none⟩ w4 fun r_3 =>
  LdI .i64 ⟨b2, 4, none⟩ w4 fun r_4 =>
  LdI .i64 ⟨b2, 5, none⟩ w4 fun r_5 =>
  LdL ⟨b2, 6, none⟩ w4 fun r_6_b r_6_l r_6_c =>
  R r_0 r_1 r_2 r_3 r_4 r_5 r_6_b r_6_l r_6_c w4
theorem conn_Conn_ack.B0_eq (c : Option Addr) (w : World)   (R : Int → Int → Int → Int → Int → Int → Option Addr → Nat → Nat → World → Prop)  :
    (
  New (.cells #[.int .i64 (0 : Int), .int .i64 (0 : Int), .int .i64 (0 : Int), .int .i64 (0 : Int), .int .i64 (0 : Int), .int .i64 (0 : Int), .slice none 0 0] 45) w fun b2 w1 =>
  conn_Conn_sndNxt.Call c w1 fun r5 w2 =>
  conn_Conn_mk.Call c (2 : Int) r5 none 0 0 w2 fun r8_0 r8_1 r8_2 r8_3 r8_4 r8_5 r8_6_b r8_6_l r8_6_c w3 =>
  Sts [.int .i64 r8_0, .int .i64 r8_1, .int .i64 r8_2, .int .i64 r8_3, .int .i64 r8_4, .int .i64 r8_5, .slice r8_6_b r8_6_l r8_6_c] ⟨b2, 0, none⟩ 0 w3 fun w4 =>
  LdI .i64 ⟨b2, 0, none⟩ w4 fun r_0 =>
  LdI .i64 ⟨b2, 1, none⟩ w4 fun r_1 =>
  LdI .i64 ⟨b2, 2, none⟩ w4 fun r_2 =>
  LdI .i64 ⟨b2, 3, none⟩ w4 fun r_3 =>
  LdI .i64 ⟨b2, 4, none⟩ w4 fun r_4 =>
  LdI .i64 ⟨b2, 5, none⟩ w4 fun r_5 =>
  LdL ⟨b2, 6, none⟩ w4 fun r_6_b r_6_l r_6_c =>
  R r_0 r_1 r_2 r_3 r_4 r_5 r_6_b r_6_l r_6_c w4) = kstep Tryz.prog 9 Tryz.f85.results.toList (Tryz.f85.body.getD .skip) (conn_Conn_ack.RV R) (kvc Tryz.prog 9 Tryz.f85.results.toList (Tryz.f85.body.getD .skip) (conn_Conn_ack.RV R) [] 2000) [(0, [])] [(0, .pointer c)] w := by kernel_rfl
theorem conn_Conn_ack.B0_sound {R : Int → Int → Int → Int → Int → Int → Option Addr → Nat → Nat → World → Prop}  (c : Option Addr) (w : World) (h : conn_Conn_ack.B0 c w   R) :
    KW Tryz.prog 85 9 (conn_Conn_ack.RV R) ([(0, [])].map (toItem (Tryz.f85.body.getD .skip))) [(0, .pointer c)] w := by
  exact block_spec Tryz.func85 Tryz.mixed stops_nil (Eq.mp (conn_Conn_ack.B0_eq c w   R ) h)
theorem conn_Conn_ack.sound (c : Option Addr) (w : World) (R : Int → Int → Int → Int → Int → Int → Option Addr → Nat → Nat → World → Prop) (h : conn_Conn_ack.B0 c w R) : conn_Conn_ack.Call c w R := by
  have hc := calls_of_block (args := #[.pointer c]) Tryz.func85 (body := (Tryz.f85.body.getD .skip)) (by kernel_rfl) (by kernel_rfl) (args_slot _) (conn_Conn_ack.B0_sound c w h)
  exact hc.mono fun e w' he => by
    obtain ⟨v, rfl, hv⟩ := he
    exact conn_Conn_ack.RV_elim hv
def connm_Conn_ack.B0 (c : Option Addr) (w : World)   (R : Int → Int → Int → Int → Int → Int → Option Addr → Nat → Nat → World → Prop) : Prop :=
  New (.cells #[.int .i64 (0 : Int), .int .i64 (0 : Int), .int .i64 (0 : Int), .int .i64 (0 : Int), .int .i64 (0 : Int), .int .i64 (0 : Int), .slice none 0 0] 45) w fun b2 w1 =>
  connm_Conn_out.Call c w1 fun r6 w2 =>
  Pn c fun a =>
  LdI .i64 (a.add 7) w2 fun x10 =>
  api_SeqAdd.Call x10 r6 w2 fun r12 w3 =>
  connm_Conn_mk.Call c (2 : Int) r12 none 0 0 w3 fun r15_0 r15_1 r15_2 r15_3 r15_4 r15_5 r15_6_b r15_6_l r15_6_c w4 =>
  Sts [.int .i64 r15_0, .int .i64 r15_1, .int .i64 r15_2, .int .i64 r15_3, .int .i64 r15_4, .int .i64 r15_5, .slice r15_6_b r15_6_l r15_6_c] ⟨b2, 0, none⟩ 0 w4 fun w5 =>
  LdI .i64 ⟨b2, 0, none⟩ w5 fun r_0 =>
  LdI .i64 ⟨b2, 1, none⟩ w5 fun r_1 =>
  LdI .i64 ⟨b2, 2, none⟩ w5 fun r_2 =>
  LdI .i64 ⟨b2, 3, none⟩ w5 fun r_3 =>
  LdI .i64 ⟨b2, 4, none⟩ w5 fun r_4 =>
  LdI .i64 ⟨b2, 5, none⟩ w5 fun r_5 =>
  LdL ⟨b2, 6, none⟩ w5 fun r_6_b r_6_l r_6_c =>
  R r_0 r_1 r_2 r_3 r_4 r_5 r_6_b r_6_l r_6_c w5
theorem connm_Conn_ack.B0_eq (c : Option Addr) (w : World)   (R : Int → Int → Int → Int → Int → Int → Option Addr → Nat → Nat → World → Prop)  :
    (
  New (.cells #[.int .i64 (0 : Int), .int .i64 (0 : Int), .int .i64 (0 : Int), .int .i64 (0 : Int), .int .i64 (0 : Int), .int .i64 (0 : Int), .slice none 0 0] 45) w fun b2 w1 =>
  connm_Conn_out.Call c w1 fun r6 w2 =>
  Pn c fun a =>
  LdI .i64 (a.add 7) w2 fun x10 =>
  api_SeqAdd.Call x10 r6 w2 fun r12 w3 =>
  connm_Conn_mk.Call c (2 : Int) r12 none 0 0 w3 fun r15_0 r15_1 r15_2 r15_3 r15_4 r15_5 r15_6_b r15_6_l r15_6_c w4 =>
  Sts [.int .i64 r15_0, .int .i64 r15_1, .int .i64 r15_2, .int .i64 r15_3, .int .i64 r15_4, .int .i64 r15_5, .slice r15_6_b r15_6_l r15_6_c] ⟨b2, 0, none⟩ 0 w4 fun w5 =>
  LdI .i64 ⟨b2, 0, none⟩ w5 fun r_0 =>
  LdI .i64 ⟨b2, 1, none⟩ w5 fun r_1 =>
  LdI .i64 ⟨b2, 2, none⟩ w5 fun r_2 =>
  LdI .i64 ⟨b2, 3, none⟩ w5 fun r_3 =>
  LdI .i64 ⟨b2, 4, none⟩ w5 fun r_4 =>
  LdI .i64 ⟨b2, 5, none⟩ w5 fun r_5 =>
  LdL ⟨b2, 6, none⟩ w5 fun r_6_b r_6_l r_6_c =>
  R r_0 r_1 r_2 r_3 r_4 r_5 r_6_b r_6_l r_6_c w5) = kstep Tryz.prog 16 Tryz.f86.results.toList (Tryz.f86.body.getD .skip) (connm_Conn_ack.RV R) (kvc Tryz.prog 16 Tryz.f86.results.toList (Tryz.f86.body.getD .skip) (connm_Conn_ack.RV R) [] 2000) [(0, [])] [(0, .pointer c)] w := by kernel_rfl
theorem connm_Conn_ack.B0_sound {R : Int → Int → Int → Int → Int → Int → Option Addr → Nat → Nat → World → Prop}  (c : Option Addr) (w : World) (h : connm_Conn_ack.B0 c w   R) :
    KW Tryz.prog 86 16 (connm_Conn_ack.RV R) ([(0, [])].map (toItem (Tryz.f86.body.getD .skip))) [(0, .pointer c)] w := by
  exact block_spec Tryz.func86 Tryz.mixed stops_nil (Eq.mp (connm_Conn_ack.B0_eq c w   R ) h)
theorem connm_Conn_ack.sound (c : Option Addr) (w : World) (R : Int → Int → Int → Int → Int → Int → Option Addr → Nat → Nat → World → Prop) (h : connm_Conn_ack.B0 c w R) : connm_Conn_ack.Call c w R := by
  have hc := calls_of_block (args := #[.pointer c]) Tryz.func86 (body := (Tryz.f86.body.getD .skip)) (by kernel_rfl) (by kernel_rfl) (args_slot _) (connm_Conn_ack.B0_sound c w h)
  exact hc.mono fun e w' he => by
    obtain ⟨v, rfl, hv⟩ := he
    exact connm_Conn_ack.RV_elim hv
def conn_rst.B0 (seq : Int) (w : World)   (R : Int → Int → Int → Int → Int → Int → Option Addr → Nat → Nat → World → Prop) : Prop :=
  New (.cells #[.int .i64 (0 : Int), .int .i64 (0 : Int), .int .i64 (0 : Int), .int .i64 (0 : Int), .int .i64 (0 : Int), .int .i64 (0 : Int), .slice none 0 0] 45) w fun b2 w1 =>
  api_SeqAdd.Call seq (0 : Int) w1 fun r5 w2 =>
  New (.cells #[] 5) w2 fun b7 w3 =>
  Sts [.int .i64 (0 : Int), .int .i64 (0 : Int), .int .i64 r5, .int .i64 (0 : Int), .int .i64 (8 : Int), .int .i64 (0 : Int), .slice (some ⟨b7, 0, none⟩) 0 0] ⟨b2, 0, none⟩ 0 w3 fun w4 =>
  LdI .i64 ⟨b2, 0, none⟩ w4 fun r_0 =>
  LdI .i64 ⟨b2, 1, none⟩ w4 fun r_1 =>
  LdI .i64 ⟨b2, 2, none⟩ w4 fun r_2 =>
  LdI .i64 ⟨b2, 3, none⟩ w4 fun r_3 =>
  LdI .i64 ⟨b2, 4, none⟩ w4 fun r_4 =>
  LdI .i64 ⟨b2, 5, none⟩ w4 fun r_5 =>
  LdL ⟨b2, 6, none⟩ w4 fun r_6_b r_6_l r_6_c =>
  R r_0 r_1 r_2 r_3 r_4 r_5 r_6_b r_6_l r_6_c w4
theorem conn_rst.B0_eq (seq : Int) (w : World)   (R : Int → Int → Int → Int → Int → Int → Option Addr → Nat → Nat → World → Prop)  :
    (
  New (.cells #[.int .i64 (0 : Int), .int .i64 (0 : Int), .int .i64 (0 : Int), .int .i64 (0 : Int), .int .i64 (0 : Int), .int .i64 (0 : Int), .slice none 0 0] 45) w fun b2 w1 =>
  api_SeqAdd.Call seq (0 : Int) w1 fun r5 w2 =>
  New (.cells #[] 5) w2 fun b7 w3 =>
  Sts [.int .i64 (0 : Int), .int .i64 (0 : Int), .int .i64 r5, .int .i64 (0 : Int), .int .i64 (8 : Int), .int .i64 (0 : Int), .slice (some ⟨b7, 0, none⟩) 0 0] ⟨b2, 0, none⟩ 0 w3 fun w4 =>
  LdI .i64 ⟨b2, 0, none⟩ w4 fun r_0 =>
  LdI .i64 ⟨b2, 1, none⟩ w4 fun r_1 =>
  LdI .i64 ⟨b2, 2, none⟩ w4 fun r_2 =>
  LdI .i64 ⟨b2, 3, none⟩ w4 fun r_3 =>
  LdI .i64 ⟨b2, 4, none⟩ w4 fun r_4 =>
  LdI .i64 ⟨b2, 5, none⟩ w4 fun r_5 =>
  LdL ⟨b2, 6, none⟩ w4 fun r_6_b r_6_l r_6_c =>
  R r_0 r_1 r_2 r_3 r_4 r_5 r_6_b r_6_l r_6_c w4) = kstep Tryz.prog 9 Tryz.f87.results.toList (Tryz.f87.body.getD .skip) (conn_rst.RV R) (kvc Tryz.prog 9 Tryz.f87.results.toList (Tryz.f87.body.getD .skip) (conn_rst.RV R) [] 2000) [(0, [])] [(0, .int .i64 seq)] w := by kernel_rfl
theorem conn_rst.B0_sound {R : Int → Int → Int → Int → Int → Int → Option Addr → Nat → Nat → World → Prop}  (seq : Int) (w : World) (h : conn_rst.B0 seq w   R) :
    KW Tryz.prog 87 9 (conn_rst.RV R) ([(0, [])].map (toItem (Tryz.f87.body.getD .skip))) [(0, .int .i64 seq)] w := by
  exact block_spec Tryz.func87 Tryz.mixed stops_nil (Eq.mp (conn_rst.B0_eq seq w   R ) h)
theorem conn_rst.sound (seq : Int) (w : World) (R : Int → Int → Int → Int → Int → Int → Option Addr → Nat → Nat → World → Prop) (h : conn_rst.B0 seq w R) : conn_rst.Call seq w R := by
  have hc := calls_of_block (args := #[.int .i64 seq]) Tryz.func87 (body := (Tryz.f87.body.getD .skip)) (by kernel_rfl) (by kernel_rfl) (args_slot _) (conn_rst.B0_sound seq w h)
  exact hc.mono fun e w' he => by
    obtain ⟨v, rfl, hv⟩ := he
    exact conn_rst.RV_elim hv
def connm_rst.B0 (seq : Int) (w : World)   (R : Int → Int → Int → Int → Int → Int → Option Addr → Nat → Nat → World → Prop) : Prop :=
  New (.cells #[.int .i64 (0 : Int), .int .i64 (0 : Int), .int .i64 (0 : Int), .int .i64 (0 : Int), .int .i64 (0 : Int), .int .i64 (0 : Int), .slice none 0 0] 45) w fun b2 w1 =>
  api_SeqAdd.Call seq (0 : Int) w1 fun r4 w2 =>
  New (.cells #[] 5) w2 fun b5 w3 =>
  Sts [.int .i64 (0 : Int), .int .i64 (0 : Int), .int .i64 r4, .int .i64 (0 : Int), .int .i64 (8 : Int), .int .i64 (0 : Int), .slice (some ⟨b5, 0, none⟩) 0 0] ⟨b2, 0, none⟩ 0 w3 fun w4 =>
  LdI .i64 ⟨b2, 0, none⟩ w4 fun r_0 =>
  LdI .i64 ⟨b2, 1, none⟩ w4 fun r_1 =>
  LdI .i64 ⟨b2, 2, none⟩ w4 fun r_2 =>
  LdI .i64 ⟨b2, 3, none⟩ w4 fun r_3 =>
  LdI .i64 ⟨b2, 4, none⟩ w4 fun r_4 =>
  LdI .i64 ⟨b2, 5, none⟩ w4 fun r_5 =>
  LdL ⟨b2, 6, none⟩ w4 fun r_6_b r_6_l r_6_c =>
  R r_0 r_1 r_2 r_3 r_4 r_5 r_6_b r_6_l r_6_c w4
theorem connm_rst.B0_eq (seq : Int) (w : World)   (R : Int → Int → Int → Int → Int → Int → Option Addr → Nat → Nat → World → Prop)  :
    (
  New (.cells #[.int .i64 (0 : Int), .int .i64 (0 : Int), .int .i64 (0 : Int), .int .i64 (0 : Int), .int .i64 (0 : Int), .int .i64 (0 : Int), .slice none 0 0] 45) w fun b2 w1 =>
  api_SeqAdd.Call seq (0 : Int) w1 fun r4 w2 =>
  New (.cells #[] 5) w2 fun b5 w3 =>
  Sts [.int .i64 (0 : Int), .int .i64 (0 : Int), .int .i64 r4, .int .i64 (0 : Int), .int .i64 (8 : Int), .int .i64 (0 : Int), .slice (some ⟨b5, 0, none⟩) 0 0] ⟨b2, 0, none⟩ 0 w3 fun w4 =>
  LdI .i64 ⟨b2, 0, none⟩ w4 fun r_0 =>
  LdI .i64 ⟨b2, 1, none⟩ w4 fun r_1 =>
  LdI .i64 ⟨b2, 2, none⟩ w4 fun r_2 =>
  LdI .i64 ⟨b2, 3, none⟩ w4 fun r_3 =>
  LdI .i64 ⟨b2, 4, none⟩ w4 fun r_4 =>
  LdI .i64 ⟨b2, 5, none⟩ w4 fun r_5 =>
  LdL ⟨b2, 6, none⟩ w4 fun r_6_b r_6_l r_6_c =>
  R r_0 r_1 r_2 r_3 r_4 r_5 r_6_b r_6_l r_6_c w4) = kstep Tryz.prog 7 Tryz.f88.results.toList (Tryz.f88.body.getD .skip) (connm_rst.RV R) (kvc Tryz.prog 7 Tryz.f88.results.toList (Tryz.f88.body.getD .skip) (connm_rst.RV R) [] 2000) [(0, [])] [(0, .int .i64 seq)] w := by kernel_rfl
theorem connm_rst.B0_sound {R : Int → Int → Int → Int → Int → Int → Option Addr → Nat → Nat → World → Prop}  (seq : Int) (w : World) (h : connm_rst.B0 seq w   R) :
    KW Tryz.prog 88 7 (connm_rst.RV R) ([(0, [])].map (toItem (Tryz.f88.body.getD .skip))) [(0, .int .i64 seq)] w := by
  exact block_spec Tryz.func88 Tryz.mixed stops_nil (Eq.mp (connm_rst.B0_eq seq w   R ) h)
theorem connm_rst.sound (seq : Int) (w : World) (R : Int → Int → Int → Int → Int → Int → Option Addr → Nat → Nat → World → Prop) (h : connm_rst.B0 seq w R) : connm_rst.Call seq w R := by
  have hc := calls_of_block (args := #[.int .i64 seq]) Tryz.func88 (body := (Tryz.f88.body.getD .skip)) (by kernel_rfl) (by kernel_rfl) (args_slot _) (connm_rst.B0_sound seq w h)
  exact hc.mono fun e w' he => by
    obtain ⟨v, rfl, hv⟩ := he
    exact connm_rst.RV_elim hv
def seg_SendBuf_span.B1 (b : Option Addr) (n : Int) (out_b : Option Addr) (out_l out_c : Nat) (at0 first : Int) (w : World)   (R : Option Addr → Nat → Nat → World → Prop) : Prop :=
  Pn b fun a =>
  (0 ≤ (IntKind.i64.wrap (at0 + first)) ∧ (IntKind.i64.wrap (at0 + first)) ≤ ((16 : Nat) : Int)) ∧
  (0 ≤ at0 ∧ at0 ≤ (IntKind.i64.wrap (at0 + first))) ∧
  Copy 1 out_b out_l (some (slBaseA a at0 ((16 : Nat) : Int) 1)) ((IntKind.i64.wrap (at0 + first)).toNat - at0.toNat) w fun n34 w1 =>
  (0 ≤ first ∧ first ≤ ((out_l : Nat) : Int)) ∧
  Pn b fun a_1 =>
  (0 ≤ (IntKind.i64.wrap (n - first)) ∧ (IntKind.i64.wrap (n - first)) ≤ ((16 : Nat) : Int)) ∧
  Copy 1 (slBase out_b first ((out_c : Nat) : Int) 1) (((out_l : Nat) : Int).toNat - first.toNat) (some (slBaseA a_1 ((0 : Nat) : Int) ((16 : Nat) : Int) 1)) ((IntKind.i64.wrap (n - first)).toNat - ((0 : Nat) : Int).toNat) w1.drew fun n45 w2 =>
  R out_b out_l out_c w2
theorem seg_SendBuf_span.B1_eq (b : Option Addr) (n : Int) (out_b : Option Addr) (out_l out_c : Nat) (at0 first : Int) (w : World)   (R : Option Addr → Nat → Nat → World → Prop)  :
    (
  Pn b fun a =>
  (0 ≤ (IntKind.i64.wrap (at0 + first)) ∧ (IntKind.i64.wrap (at0 + first)) ≤ ((16 : Nat) : Int)) ∧
  (0 ≤ at0 ∧ at0 ≤ (IntKind.i64.wrap (at0 + first))) ∧
  Copy 1 out_b out_l (some (slBaseA a at0 ((16 : Nat) : Int) 1)) ((IntKind.i64.wrap (at0 + first)).toNat - at0.toNat) w fun n34 w1 =>
  (0 ≤ first ∧ first ≤ ((out_l : Nat) : Int)) ∧
  Pn b fun a_1 =>
  (0 ≤ (IntKind.i64.wrap (n - first)) ∧ (IntKind.i64.wrap (n - first)) ≤ ((16 : Nat) : Int)) ∧
  Copy 1 (slBase out_b first ((out_c : Nat) : Int) 1) (((out_l : Nat) : Int).toNat - first.toNat) (some (slBaseA a_1 ((0 : Nat) : Int) ((16 : Nat) : Int) 1)) ((IntKind.i64.wrap (n - first)).toNat - ((0 : Nat) : Int).toNat) w1.drew fun n45 w2 =>
  R out_b out_l out_c w2) = kstep Tryz.prog 47 Tryz.f89.results.toList (Tryz.f89.body.getD .skip) (seg_SendBuf_span.RV R) (kvc Tryz.prog 47 Tryz.f89.results.toList (Tryz.f89.body.getD .skip) (seg_SendBuf_span.RV R) [] 2000) [(0, [1, 1, 1, 1, 1])] [(0, .pointer b), (2, .int .i64 n), (7, .slice out_b out_l out_c), (8, .int .i64 at0), (9, .int .i64 first)] w := by kernel_rfl
theorem seg_SendBuf_span.B1_sound {R : Option Addr → Nat → Nat → World → Prop}  (b : Option Addr) (n : Int) (out_b : Option Addr) (out_l out_c : Nat) (at0 first : Int) (w : World) (h : seg_SendBuf_span.B1 b n out_b out_l out_c at0 first w   R) :
    KW Tryz.prog 89 47 (seg_SendBuf_span.RV R) ([(0, [1, 1, 1, 1, 1])].map (toItem (Tryz.f89.body.getD .skip))) [(0, .pointer b), (2, .int .i64 n), (7, .slice out_b out_l out_c), (8, .int .i64 at0), (9, .int .i64 first)] w := by
  exact block_spec Tryz.func89 Tryz.mixed stops_nil (Eq.mp (seg_SendBuf_span.B1_eq b n out_b out_l out_c at0 first w   R ) h)
def seg_SendBuf_span.B0 (b : Option Addr) (off n : Int) (w : World)   (R : Option Addr → Nat → Nat → World → Prop) : Prop :=
  Make 5 (.int .u8 (0 : Int)) 1 1 n n w fun b11 w1 =>
  Pn b fun a =>
  LdI .i64 (a.add 16) w1 fun x15 =>
  (16 : Int) ≠ 0 ∧
  Bm (decide ((IntKind.i64.wrap ((16 : Int) - ((IntKind.i64.wrap (x15 + off)).tmod (16 : Int)))) > n)) (
    seg_SendBuf_span.B1 b n (some ⟨b11, 0, none⟩) n.toNat n.toNat ((IntKind.i64.wrap (x15 + off)).tmod (16 : Int)) n w1  R) (
    seg_SendBuf_span.B1 b n (some ⟨b11, 0, none⟩) n.toNat n.toNat ((IntKind.i64.wrap (x15 + off)).tmod (16 : Int)) (IntKind.i64.wrap ((16 : Int) - ((IntKind.i64.wrap (x15 + off)).tmod (16 : Int)))) w1  R)
theorem seg_SendBuf_span.B0_eq (b : Option Addr) (off n : Int) (w : World)   (R : Option Addr → Nat → Nat → World → Prop) (sB1 : Option Addr → Int → Option Addr → Nat → Nat → Int → Int → World → Prop) :
    (
  Make 5 (.int .u8 (0 : Int)) 1 1 n n w fun b11 w1 =>
  Pn b fun a =>
  LdI .i64 (a.add 16) w1 fun x15 =>
  (16 : Int) ≠ 0 ∧
  Bm (decide ((IntKind.i64.wrap ((16 : Int) - ((IntKind.i64.wrap (x15 + off)).tmod (16 : Int)))) > n)) (
    sB1 b n (some ⟨b11, 0, none⟩) n.toNat n.toNat ((IntKind.i64.wrap (x15 + off)).tmod (16 : Int)) n w1) (
    sB1 b n (some ⟨b11, 0, none⟩) n.toNat n.toNat ((IntKind.i64.wrap (x15 + off)).tmod (16 : Int)) (IntKind.i64.wrap ((16 : Int) - ((IntKind.i64.wrap (x15 + off)).tmod (16 : Int)))) w1)) = kstep Tryz.prog 47 Tryz.f89.results.toList (Tryz.f89.body.getD .skip) (seg_SendBuf_span.RV R) (kvc Tryz.prog 47 Tryz.f89.results.toList (Tryz.f89.body.getD .skip) (seg_SendBuf_span.RV R) [([(0, [1, 1, 1, 1, 1])], fun σ w => dP (slotOf σ 0) fun b_ => dI .i64 (slotOf σ 2) fun n_ => dL (slotOf σ 7) fun out_b_ out_l_ out_c_ => dI .i64 (slotOf σ 8) fun at0_ => dI .i64 (slotOf σ 9) fun first_ => sB1 b_ n_ out_b_ out_l_ out_c_ at0_ first_ w)] 2000) [(0, [])] [(0, .pointer b), (1, .int .i64 off), (2, .int .i64 n)] w := by kernel_rfl
theorem seg_SendBuf_span.B0_sound {R : Option Addr → Nat → Nat → World → Prop}  (b : Option Addr) (off n : Int) (w : World) (h : seg_SendBuf_span.B0 b off n w   R) :
    KW Tryz.prog 89 47 (seg_SendBuf_span.RV R) ([(0, [])].map (toItem (Tryz.f89.body.getD .skip))) [(0, .pointer b), (1, .int .i64 off), (2, .int .i64 n)] w := by
  exact block_spec Tryz.func89 Tryz.mixed (stops_cons (fun σ w h => by
      obtain ⟨b_, e0, h⟩ := dP_elim h
      obtain ⟨n_, e1, h⟩ := dI_elim h
      obtain ⟨out_b_, out_l_, out_c_, e2, h⟩ := dL_elim h
      obtain ⟨at0_, e3, h⟩ := dI_elim h
      obtain ⟨first_, e4, h⟩ := dI_elim h
      exact (seg_SendBuf_span.B1_sound  b_ n_ out_b_ out_l_ out_c_ at0_ first_ w h).weaken (Sub.cons (Sub.cons (Sub.cons (Sub.cons (Sub.cons (Sub.nil _) e4) e3) e2) e1) e0)) stops_nil) (Eq.mp (seg_SendBuf_span.B0_eq b off n w   R (fun b_ n_ out_b_ out_l_ out_c_ at0_ first_ w => seg_SendBuf_span.B1 b_ n_ out_b_ out_l_ out_c_ at0_ first_ w  R)) h)
theorem seg_SendBuf_span.sound (b : Option Addr) (off n : Int) (w : World) (R : Option Addr → Nat → Nat → World → Prop) (h : seg_SendBuf_span.B0 b off n w R) : seg_SendBuf_span.Call b off n w R := by
  have hc := calls_of_block (args := #[.pointer b, .int .i64 off, .int .i64 n]) Tryz.func89 (body := (Tryz.f89.body.getD .skip)) (by kernel_rfl) (by kernel_rfl) (args_slot _) (seg_SendBuf_span.B0_sound b off n w h)
  exact hc.mono fun e w' he => by
    obtain ⟨v, rfl, hv⟩ := he
    exact seg_SendBuf_span.RV_elim hv
def seg_RecvBuf_first.B1 (b : Option Addr) (n : Int) (out_b : Option Addr) (out_l out_c : Nat) (at0 run : Int) (w : World)   (R : Option Addr → Nat → Nat → World → Prop) : Prop :=
  Pn b fun a =>
  (0 ≤ (IntKind.i64.wrap (at0 + run)) ∧ (IntKind.i64.wrap (at0 + run)) ≤ ((16 : Nat) : Int)) ∧
  (0 ≤ at0 ∧ at0 ≤ (IntKind.i64.wrap (at0 + run))) ∧
  Copy 1 out_b out_l (some (slBaseA a at0 ((16 : Nat) : Int) 1)) ((IntKind.i64.wrap (at0 + run)).toNat - at0.toNat) w fun n37 w1 =>
  (0 ≤ run ∧ run ≤ ((out_l : Nat) : Int)) ∧
  Pn b fun a_1 =>
  (0 ≤ (IntKind.i64.wrap (n - run)) ∧ (IntKind.i64.wrap (n - run)) ≤ ((16 : Nat) : Int)) ∧
  Copy 1 (slBase out_b run ((out_c : Nat) : Int) 1) (((out_l : Nat) : Int).toNat - run.toNat) (some (slBaseA a_1 ((0 : Nat) : Int) ((16 : Nat) : Int) 1)) ((IntKind.i64.wrap (n - run)).toNat - ((0 : Nat) : Int).toNat) w1.drew fun n48 w2 =>
  R out_b out_l out_c w2
theorem seg_RecvBuf_first.B1_eq (b : Option Addr) (n : Int) (out_b : Option Addr) (out_l out_c : Nat) (at0 run : Int) (w : World)   (R : Option Addr → Nat → Nat → World → Prop)  :
    (
  Pn b fun a =>
  (0 ≤ (IntKind.i64.wrap (at0 + run)) ∧ (IntKind.i64.wrap (at0 + run)) ≤ ((16 : Nat) : Int)) ∧
  (0 ≤ at0 ∧ at0 ≤ (IntKind.i64.wrap (at0 + run))) ∧
  Copy 1 out_b out_l (some (slBaseA a at0 ((16 : Nat) : Int) 1)) ((IntKind.i64.wrap (at0 + run)).toNat - at0.toNat) w fun n37 w1 =>
  (0 ≤ run ∧ run ≤ ((out_l : Nat) : Int)) ∧
  Pn b fun a_1 =>
  (0 ≤ (IntKind.i64.wrap (n - run)) ∧ (IntKind.i64.wrap (n - run)) ≤ ((16 : Nat) : Int)) ∧
  Copy 1 (slBase out_b run ((out_c : Nat) : Int) 1) (((out_l : Nat) : Int).toNat - run.toNat) (some (slBaseA a_1 ((0 : Nat) : Int) ((16 : Nat) : Int) 1)) ((IntKind.i64.wrap (n - run)).toNat - ((0 : Nat) : Int).toNat) w1.drew fun n48 w2 =>
  R out_b out_l out_c w2) = kstep Tryz.prog 50 Tryz.f90.results.toList (Tryz.f90.body.getD .skip) (seg_RecvBuf_first.RV R) (kvc Tryz.prog 50 Tryz.f90.results.toList (Tryz.f90.body.getD .skip) (seg_RecvBuf_first.RV R) [] 2000) [(0, [1, 1, 1, 1, 1])] [(0, .pointer b), (1, .int .i64 n), (5, .slice out_b out_l out_c), (6, .int .i64 at0), (7, .int .i64 run)] w := by kernel_rfl
theorem seg_RecvBuf_first.B1_sound {R : Option Addr → Nat → Nat → World → Prop}  (b : Option Addr) (n : Int) (out_b : Option Addr) (out_l out_c : Nat) (at0 run : Int) (w : World) (h : seg_RecvBuf_first.B1 b n out_b out_l out_c at0 run w   R) :
    KW Tryz.prog 90 50 (seg_RecvBuf_first.RV R) ([(0, [1, 1, 1, 1, 1])].map (toItem (Tryz.f90.body.getD .skip))) [(0, .pointer b), (1, .int .i64 n), (5, .slice out_b out_l out_c), (6, .int .i64 at0), (7, .int .i64 run)] w := by
  exact block_spec Tryz.func90 Tryz.mixed stops_nil (Eq.mp (seg_RecvBuf_first.B1_eq b n out_b out_l out_c at0 run w   R ) h)
def seg_RecvBuf_first.B0 (b : Option Addr) (n : Int) (w : World)   (R : Option Addr → Nat → Nat → World → Prop) : Prop :=
  Make 5 (.int .u8 (0 : Int)) 1 1 n n w fun b9 w1 =>
  Pn b fun a =>
  LdI .u8 (a.add 16) w1.drew fun x13 =>
  Pn b fun a_1 =>
  LdI .i64 (a_1.add 17) w1.drew fun x19 =>
  (16 : Int) ≠ 0 ∧
  Bm (decide ((IntKind.i64.wrap ((16 : Int) - ((IntKind.i64.wrap ((IntKind.i64.wrap ((IntKind.i64.wrap x13) + (256 : Int))) - x19)).tmod (16 : Int)))) > n)) (
    seg_RecvBuf_first.B1 b n (some ⟨b9, 0, none⟩) n.toNat n.toNat ((IntKind.i64.wrap ((IntKind.i64.wrap ((IntKind.i64.wrap x13) + (256 : Int))) - x19)).tmod (16 : Int)) n w1.drew  R) (
    seg_RecvBuf_first.B1 b n (some ⟨b9, 0, none⟩) n.toNat n.toNat ((IntKind.i64.wrap ((IntKind.i64.wrap ((IntKind.i64.wrap x13) + (256 : Int))) - x19)).tmod (16 : Int)) (IntKind.i64.wrap ((16 : Int) - ((IntKind.i64.wrap ((IntKind.i64.wrap ((IntKind.i64.wrap x13) + (256 : Int))) - x19)).tmod (16 : Int)))) w1.drew  R)
theorem seg_RecvBuf_first.B0_eq (b : Option Addr) (n : Int) (w : World)   (R : Option Addr → Nat → Nat → World → Prop) (sB1 : Option Addr → Int → Option Addr → Nat → Nat → Int → Int → World → Prop) :
    (
  Make 5 (.int .u8 (0 : Int)) 1 1 n n w fun b9 w1 =>
  Pn b fun a =>
  LdI .u8 (a.add 16) w1.drew fun x13 =>
  Pn b fun a_1 =>
  LdI .i64 (a_1.add 17) w1.drew fun x19 =>
  (16 : Int) ≠ 0 ∧
  Bm (decide ((IntKind.i64.wrap ((16 : Int) - ((IntKind.i64.wrap ((IntKind.i64.wrap ((IntKind.i64.wrap x13) + (256 : Int))) - x19)).tmod (16 : Int)))) > n)) (
    sB1 b n (some ⟨b9, 0, none⟩) n.toNat n.toNat ((IntKind.i64.wrap ((IntKind.i64.wrap ((IntKind.i64.wrap x13) + (256 : Int))) - x19)).tmod (16 : Int)) n w1.drew) (
    sB1 b n (some ⟨b9, 0, none⟩) n.toNat n.toNat ((IntKind.i64.wrap ((IntKind.i64.wrap ((IntKind.i64.wrap x13) + (256 : Int))) - x19)).tmod (16 : Int)) (IntKind.i64.wrap ((16 : Int) - ((IntKind.i64.wrap ((IntKind.i64.wrap ((IntKind.i64.wrap x13) + (256 : Int))) - x19)).tmod (16 : Int)))) w1.drew)) = kstep Tryz.prog 50 Tryz.f90.results.toList (Tryz.f90.body.getD .skip) (seg_RecvBuf_first.RV R) (kvc Tryz.prog 50 Tryz.f90.results.toList (Tryz.f90.body.getD .skip) (seg_RecvBuf_first.RV R) [([(0, [1, 1, 1, 1, 1])], fun σ w => dP (slotOf σ 0) fun b_ => dI .i64 (slotOf σ 1) fun n_ => dL (slotOf σ 5) fun out_b_ out_l_ out_c_ => dI .i64 (slotOf σ 6) fun at0_ => dI .i64 (slotOf σ 7) fun run_ => sB1 b_ n_ out_b_ out_l_ out_c_ at0_ run_ w)] 2000) [(0, [])] [(0, .pointer b), (1, .int .i64 n)] w := by kernel_rfl
theorem seg_RecvBuf_first.B0_sound {R : Option Addr → Nat → Nat → World → Prop}  (b : Option Addr) (n : Int) (w : World) (h : seg_RecvBuf_first.B0 b n w   R) :
    KW Tryz.prog 90 50 (seg_RecvBuf_first.RV R) ([(0, [])].map (toItem (Tryz.f90.body.getD .skip))) [(0, .pointer b), (1, .int .i64 n)] w := by
  exact block_spec Tryz.func90 Tryz.mixed (stops_cons (fun σ w h => by
      obtain ⟨b_, e0, h⟩ := dP_elim h
      obtain ⟨n_, e1, h⟩ := dI_elim h
      obtain ⟨out_b_, out_l_, out_c_, e2, h⟩ := dL_elim h
      obtain ⟨at0_, e3, h⟩ := dI_elim h
      obtain ⟨run_, e4, h⟩ := dI_elim h
      exact (seg_RecvBuf_first.B1_sound  b_ n_ out_b_ out_l_ out_c_ at0_ run_ w h).weaken (Sub.cons (Sub.cons (Sub.cons (Sub.cons (Sub.cons (Sub.nil _) e4) e3) e2) e1) e0)) stops_nil) (Eq.mp (seg_RecvBuf_first.B0_eq b n w   R (fun b_ n_ out_b_ out_l_ out_c_ at0_ run_ w => seg_RecvBuf_first.B1 b_ n_ out_b_ out_l_ out_c_ at0_ run_ w  R)) h)
theorem seg_RecvBuf_first.sound (b : Option Addr) (n : Int) (w : World) (R : Option Addr → Nat → Nat → World → Prop) (h : seg_RecvBuf_first.B0 b n w R) : seg_RecvBuf_first.Call b n w R := by
  have hc := calls_of_block (args := #[.pointer b, .int .i64 n]) Tryz.func90 (body := (Tryz.f90.body.getD .skip)) (by kernel_rfl) (by kernel_rfl) (args_slot _) (seg_RecvBuf_first.B0_sound b n w h)
  exact hc.mono fun e w' he => by
    obtain ⟨v, rfl, hv⟩ := he
    exact seg_RecvBuf_first.RV_elim hv
def seg_RecvBuf_bit.B0 (b : Option Addr) (d : Int) (w : World)   (R : Int → World → Prop) : Prop :=
  Pn b fun a =>
  LdI .u8 (a.add 16) w fun x8 =>
  (16 : Int) ≠ 0 ∧
  0 ≤ (IntKind.u64.wrap ((IntKind.i64.wrap ((IntKind.i64.wrap x8) + d)).tmod (16 : Int))) ∧
  R (IntKind.u16.wrap ((1 : Int) * 2 ^ (min (IntKind.u64.wrap ((IntKind.i64.wrap ((IntKind.i64.wrap x8) + d)).tmod (16 : Int))).toNat IntKind.u16.bits))) w
theorem seg_RecvBuf_bit.B0_eq (b : Option Addr) (d : Int) (w : World)   (R : Int → World → Prop)  :
    (
  Pn b fun a =>
  LdI .u8 (a.add 16) w fun x8 =>
  (16 : Int) ≠ 0 ∧
  0 ≤ (IntKind.u64.wrap ((IntKind.i64.wrap ((IntKind.i64.wrap x8) + d)).tmod (16 : Int))) ∧
  R (IntKind.u16.wrap ((1 : Int) * 2 ^ (min (IntKind.u64.wrap ((IntKind.i64.wrap ((IntKind.i64.wrap x8) + d)).tmod (16 : Int))).toNat IntKind.u16.bits))) w) = kstep Tryz.prog 15 Tryz.f91.results.toList (Tryz.f91.body.getD .skip) (seg_RecvBuf_bit.RV R) (kvc Tryz.prog 15 Tryz.f91.results.toList (Tryz.f91.body.getD .skip) (seg_RecvBuf_bit.RV R) [] 2000) [(0, [])] [(0, .pointer b), (1, .int .i64 d)] w := by kernel_rfl
theorem seg_RecvBuf_bit.B0_sound {R : Int → World → Prop}  (b : Option Addr) (d : Int) (w : World) (h : seg_RecvBuf_bit.B0 b d w   R) :
    KW Tryz.prog 91 15 (seg_RecvBuf_bit.RV R) ([(0, [])].map (toItem (Tryz.f91.body.getD .skip))) [(0, .pointer b), (1, .int .i64 d)] w := by
  exact block_spec Tryz.func91 Tryz.mixed stops_nil (Eq.mp (seg_RecvBuf_bit.B0_eq b d w   R ) h)
theorem seg_RecvBuf_bit.sound (b : Option Addr) (d : Int) (w : World) (R : Int → World → Prop) (h : seg_RecvBuf_bit.B0 b d w R) : seg_RecvBuf_bit.Call b d w R := by
  have hc := calls_of_block (args := #[.pointer b, .int .i64 d]) Tryz.func91 (body := (Tryz.f91.body.getD .skip)) (by kernel_rfl) (by kernel_rfl) (args_slot _) (seg_RecvBuf_bit.B0_sound b d w h)
  exact hc.mono fun e w' he => by
    obtain ⟨v, rfl, hv⟩ := he
    exact seg_RecvBuf_bit.RV_elim hv
def seg_SendBuf_Una.B0 (b : Option Addr) (w : World)   (R : Int → World → Prop) : Prop :=
  Pn b fun a =>
  LdI .u8 (a.add 19) w fun x6 =>
  R (IntKind.i64.wrap x6) w
theorem seg_SendBuf_Una.B0_eq (b : Option Addr) (w : World)   (R : Int → World → Prop)  :
    (
  Pn b fun a =>
  LdI .u8 (a.add 19) w fun x6 =>
  R (IntKind.i64.wrap x6) w) = kstep Tryz.prog 8 Tryz.f92.results.toList (Tryz.f92.body.getD .skip) (seg_SendBuf_Una.RV R) (kvc Tryz.prog 8 Tryz.f92.results.toList (Tryz.f92.body.getD .skip) (seg_SendBuf_Una.RV R) [] 2000) [(0, [])] [(0, .pointer b)] w := by kernel_rfl
theorem seg_SendBuf_Una.B0_sound {R : Int → World → Prop}  (b : Option Addr) (w : World) (h : seg_SendBuf_Una.B0 b w   R) :
    KW Tryz.prog 92 8 (seg_SendBuf_Una.RV R) ([(0, [])].map (toItem (Tryz.f92.body.getD .skip))) [(0, .pointer b)] w := by
  exact block_spec Tryz.func92 Tryz.mixed stops_nil (Eq.mp (seg_SendBuf_Una.B0_eq b w   R ) h)
theorem seg_SendBuf_Una.sound (b : Option Addr) (w : World) (R : Int → World → Prop) (h : seg_SendBuf_Una.B0 b w R) : seg_SendBuf_Una.Call b w R := by
  have hc := calls_of_block (args := #[.pointer b]) Tryz.func92 (body := (Tryz.f92.body.getD .skip)) (by kernel_rfl) (by kernel_rfl) (args_slot _) (seg_SendBuf_Una.B0_sound b w h)
  exact hc.mono fun e w' he => by
    obtain ⟨v, rfl, hv⟩ := he
    exact seg_SendBuf_Una.RV_elim hv
def seg_RecvBuf_Nxt.B0 (b : Option Addr) (w : World)   (R : Int → World → Prop) : Prop :=
  Pn b fun a =>
  LdI .u8 (a.add 16) w fun x6 =>
  R (IntKind.i64.wrap x6) w
theorem seg_RecvBuf_Nxt.B0_eq (b : Option Addr) (w : World)   (R : Int → World → Prop)  :
    (
  Pn b fun a =>
  LdI .u8 (a.add 16) w fun x6 =>
  R (IntKind.i64.wrap x6) w) = kstep Tryz.prog 8 Tryz.f93.results.toList (Tryz.f93.body.getD .skip) (seg_RecvBuf_Nxt.RV R) (kvc Tryz.prog 8 Tryz.f93.results.toList (Tryz.f93.body.getD .skip) (seg_RecvBuf_Nxt.RV R) [] 2000) [(0, [])] [(0, .pointer b)] w := by kernel_rfl
theorem seg_RecvBuf_Nxt.B0_sound {R : Int → World → Prop}  (b : Option Addr) (w : World) (h : seg_RecvBuf_Nxt.B0 b w   R) :
    KW Tryz.prog 93 8 (seg_RecvBuf_Nxt.RV R) ([(0, [])].map (toItem (Tryz.f93.body.getD .skip))) [(0, .pointer b)] w := by
  exact block_spec Tryz.func93 Tryz.mixed stops_nil (Eq.mp (seg_RecvBuf_Nxt.B0_eq b w   R ) h)
theorem seg_RecvBuf_Nxt.sound (b : Option Addr) (w : World) (R : Int → World → Prop) (h : seg_RecvBuf_Nxt.B0 b w R) : seg_RecvBuf_Nxt.Call b w R := by
  have hc := calls_of_block (args := #[.pointer b]) Tryz.func93 (body := (Tryz.f93.body.getD .skip)) (by kernel_rfl) (by kernel_rfl) (args_slot _) (seg_RecvBuf_Nxt.B0_sound b w h)
  exact hc.mono fun e w' he => by
    obtain ⟨v, rfl, hv⟩ := he
    exact seg_RecvBuf_Nxt.RV_elim hv
def conn_Conn_inQuiet.B1 (c : Option Addr) (t28 : Bool) (w : World)   (R : Option Addr → Nat → Nat → World → Prop) : Prop :=
  Bm t28 (
    conn_Conn_ack.Call c w fun r30_0 r30_1 r30_2 r30_3 r30_4 r30_5 r30_6_b r30_6_l r30_6_c w1 =>
    New (.cells #[.int .i64 (0 : Int), .int .i64 (0 : Int), .int .i64 (0 : Int), .int .i64 (0 : Int), .int .i64 (0 : Int), .int .i64 (0 : Int), .slice none 0 0] 45) w1 fun a_ w2 =>
    Sts [.int .i64 r30_0, .int .i64 r30_1, .int .i64 r30_2, .int .i64 r30_3, .int .i64 r30_4, .int .i64 r30_5, .slice r30_6_b r30_6_l r30_6_c] ⟨a_, 0, none⟩ 0 w2 fun w3 =>
    LdI .i64 ⟨a_, 0, none⟩ w3 fun x31_0 =>
    LdI .i64 ⟨a_, 1, none⟩ w3 fun x31_1 =>
    LdI .i64 ⟨a_, 2, none⟩ w3 fun x31_2 =>
    LdI .i64 ⟨a_, 3, none⟩ w3 fun x31_3 =>
    LdI .i64 ⟨a_, 4, none⟩ w3 fun x31_4 =>
    LdI .i64 ⟨a_, 5, none⟩ w3 fun x31_5 =>
    LdL ⟨a_, 6, none⟩ w3 fun x31_6_b x31_6_l x31_6_c =>
    conn_one.Call x31_0 x31_1 x31_2 x31_3 x31_4 x31_5 x31_6_b x31_6_l x31_6_c w3 fun r32_b r32_l r32_c w4 =>
    R r32_b r32_l r32_c w4) (
    New (.cells #[] 45) w fun b33 w5 =>
    R (some ⟨b33, 0, none⟩) 0 0 w5)
theorem conn_Conn_inQuiet.B1_eq (c : Option Addr) (t28 : Bool) (w : World)   (R : Option Addr → Nat → Nat → World → Prop)  :
    (
  Bm t28 (
    conn_Conn_ack.Call c w fun r30_0 r30_1 r30_2 r30_3 r30_4 r30_5 r30_6_b r30_6_l r30_6_c w1 =>
    New (.cells #[.int .i64 (0 : Int), .int .i64 (0 : Int), .int .i64 (0 : Int), .int .i64 (0 : Int), .int .i64 (0 : Int), .int .i64 (0 : Int), .slice none 0 0] 45) w1 fun a_ w2 =>
    Sts [.int .i64 r30_0, .int .i64 r30_1, .int .i64 r30_2, .int .i64 r30_3, .int .i64 r30_4, .int .i64 r30_5, .slice r30_6_b r30_6_l r30_6_c] ⟨a_, 0, none⟩ 0 w2 fun w3 =>
    LdI .i64 ⟨a_, 0, none⟩ w3 fun x31_0 =>
    LdI .i64 ⟨a_, 1, none⟩ w3 fun x31_1 =>
    LdI .i64 ⟨a_, 2, none⟩ w3 fun x31_2 =>
    LdI .i64 ⟨a_, 3, none⟩ w3 fun x31_3 =>
    LdI .i64 ⟨a_, 4, none⟩ w3 fun x31_4 =>
    LdI .i64 ⟨a_, 5, none⟩ w3 fun x31_5 =>
    LdL ⟨a_, 6, none⟩ w3 fun x31_6_b x31_6_l x31_6_c =>
    conn_one.Call x31_0 x31_1 x31_2 x31_3 x31_4 x31_5 x31_6_b x31_6_l x31_6_c w3 fun r32_b r32_l r32_c w4 =>
    R r32_b r32_l r32_c w4) (
    New (.cells #[] 45) w fun b33 w5 =>
    R (some ⟨b33, 0, none⟩) 0 0 w5)) = kstep Tryz.prog 34 Tryz.f94.results.toList (Tryz.f94.body.getD .skip) (conn_Conn_inQuiet.RV R) (kvc Tryz.prog 34 Tryz.f94.results.toList (Tryz.f94.body.getD .skip) (conn_Conn_inQuiet.RV R) [] 2000) [(0, [1, 0, 1]), (0, [1, 1])] [(0, .pointer c), (28, .bool t28)] w := by kernel_rfl
theorem conn_Conn_inQuiet.B1_sound {R : Option Addr → Nat → Nat → World → Prop}  (c : Option Addr) (t28 : Bool) (w : World) (h : conn_Conn_inQuiet.B1 c t28 w   R) :
    KW Tryz.prog 94 34 (conn_Conn_inQuiet.RV R) ([(0, [1, 0, 1]), (0, [1, 1])].map (toItem (Tryz.f94.body.getD .skip))) [(0, .pointer c), (28, .bool t28)] w := by
  exact block_spec Tryz.func94 Tryz.mixed stops_nil (Eq.mp (conn_Conn_inQuiet.B1_eq c t28 w   R ) h)
def conn_Conn_inQuiet.B0 (c : Option Addr) (s_0 s_1 s_2 s_3 s_4 s_5 : Int) (s_6_b : Option Addr) (s_6_l s_6_c : Nat) (w : World)   (R : Option Addr → Nat → Nat → World → Prop) : Prop :=
  New (.cells #[.int .i64 s_0, .int .i64 s_1, .int .i64 s_2, .int .i64 s_3, .int .i64 s_4, .int .i64 s_5, .slice s_6_b s_6_l s_6_c] 45) w fun s_ w1 =>
  Pn c fun a =>
  LdI .i64 (a.add 3) w1 fun x9 =>
  Bm (x9 == (0 : Int)) (
    LdI .i64 ⟨s_, 4, none⟩ w1 fun x13 =>
    Bm ((IntKind.i64.wrap (BitVec.ofInt IntKind.i64.bits x13 &&& BitVec.ofInt IntKind.i64.bits (8 : Int)).toNat) == (0 : Int)) (
      LdI .i64 ⟨s_, 4, none⟩ w1 fun x19 =>
      Bm ((IntKind.i64.wrap (BitVec.ofInt IntKind.i64.bits x19 &&& BitVec.ofInt IntKind.i64.bits (4 : Int)).toNat) != (0 : Int)) (
        conn_Conn_inQuiet.B1 c true w1  R) (
        LdL ⟨s_, 6, none⟩ w1 fun x24_b x24_l x24_c =>
        conn_Conn_inQuiet.B1 c (decide (((x24_l : Nat) : Int) > (0 : Int))) w1  R)) (
      conn_Conn_inQuiet.B1 c false w1  R)) (
    conn_Conn_inQuiet.B1 c false w1  R)
theorem conn_Conn_inQuiet.B0_eq (c : Option Addr) (s_0 s_1 s_2 s_3 s_4 s_5 : Int) (s_6_b : Option Addr) (s_6_l s_6_c : Nat) (w : World)   (R : Option Addr → Nat → Nat → World → Prop) (sB1 : Option Addr → Bool → World → Prop) :
    (
  New (.cells #[.int .i64 s_0, .int .i64 s_1, .int .i64 s_2, .int .i64 s_3, .int .i64 s_4, .int .i64 s_5, .slice s_6_b s_6_l s_6_c] 45) w fun s_ w1 =>
  Pn c fun a =>
  LdI .i64 (a.add 3) w1 fun x9 =>
  Bm (x9 == (0 : Int)) (
    LdI .i64 ⟨s_, 4, none⟩ w1 fun x13 =>
    Bm ((IntKind.i64.wrap (BitVec.ofInt IntKind.i64.bits x13 &&& BitVec.ofInt IntKind.i64.bits (8 : Int)).toNat) == (0 : Int)) (
      LdI .i64 ⟨s_, 4, none⟩ w1 fun x19 =>
      Bm ((IntKind.i64.wrap (BitVec.ofInt IntKind.i64.bits x19 &&& BitVec.ofInt IntKind.i64.bits (4 : Int)).toNat) != (0 : Int)) (
        sB1 c true w1) (
        LdL ⟨s_, 6, none⟩ w1 fun x24_b x24_l x24_c =>
        sB1 c (decide (((x24_l : Nat) : Int) > (0 : Int))) w1)) (
      sB1 c false w1)) (
    sB1 c false w1)) = kstep Tryz.prog 34 Tryz.f94.results.toList (Tryz.f94.body.getD .skip) (conn_Conn_inQuiet.RV R) (kvc Tryz.prog 34 Tryz.f94.results.toList (Tryz.f94.body.getD .skip) (conn_Conn_inQuiet.RV R) [([(0, [1, 0, 1]), (0, [1, 1])], fun σ w => dP (slotOf σ 0) fun c_ => dB (slotOf σ 28) fun t28_ => sB1 c_ t28_ w)] 2000) [(0, [])] [(0, .pointer c), (1, .agg #[.int .i64 s_0, .int .i64 s_1, .int .i64 s_2, .int .i64 s_3, .int .i64 s_4, .int .i64 s_5, .slice s_6_b s_6_l s_6_c])] w := by kernel_rfl
theorem conn_Conn_inQuiet.B0_sound {R : Option Addr → Nat → Nat → World → Prop}  (c : Option Addr) (s_0 s_1 s_2 s_3 s_4 s_5 : Int) (s_6_b : Option Addr) (s_6_l s_6_c : Nat) (w : World) (h : conn_Conn_inQuiet.B0 c s_0 s_1 s_2 s_3 s_4 s_5 s_6_b s_6_l s_6_c w   R) :
    KW Tryz.prog 94 34 (conn_Conn_inQuiet.RV R) ([(0, [])].map (toItem (Tryz.f94.body.getD .skip))) [(0, .pointer c), (1, .agg #[.int .i64 s_0, .int .i64 s_1, .int .i64 s_2, .int .i64 s_3, .int .i64 s_4, .int .i64 s_5, .slice s_6_b s_6_l s_6_c])] w := by
  exact block_spec Tryz.func94 Tryz.mixed (stops_cons (fun σ w h => by
      obtain ⟨c_, e0, h⟩ := dP_elim h
      obtain ⟨t28_, e1, h⟩ := dB_elim h
      exact (conn_Conn_inQuiet.B1_sound  c_ t28_ w h).weaken (Sub.cons (Sub.cons (Sub.nil _) e1) e0)) stops_nil) (Eq.mp (conn_Conn_inQuiet.B0_eq c s_0 s_1 s_2 s_3 s_4 s_5 s_6_b s_6_l s_6_c w   R (fun c_ t28_ w => conn_Conn_inQuiet.B1 c_ t28_ w  R)) h)
theorem conn_Conn_inQuiet.sound (c : Option Addr) (s_0 s_1 s_2 s_3 s_4 s_5 : Int) (s_6_b : Option Addr) (s_6_l s_6_c : Nat) (w : World) (R : Option Addr → Nat → Nat → World → Prop) (h : conn_Conn_inQuiet.B0 c s_0 s_1 s_2 s_3 s_4 s_5 s_6_b s_6_l s_6_c w R) : conn_Conn_inQuiet.Call c s_0 s_1 s_2 s_3 s_4 s_5 s_6_b s_6_l s_6_c w R := by
  have hc := calls_of_block (args := #[.pointer c, .agg #[.int .i64 s_0, .int .i64 s_1, .int .i64 s_2, .int .i64 s_3, .int .i64 s_4, .int .i64 s_5, .slice s_6_b s_6_l s_6_c]]) Tryz.func94 (body := (Tryz.f94.body.getD .skip)) (by kernel_rfl) (by kernel_rfl) (args_slot _) (conn_Conn_inQuiet.B0_sound c s_0 s_1 s_2 s_3 s_4 s_5 s_6_b s_6_l s_6_c w h)
  exact hc.mono fun e w' he => by
    obtain ⟨v, rfl, hv⟩ := he
    exact conn_Conn_inQuiet.RV_elim hv
def conn_Conn_inSynSent.B2 (c : Option Addr) (s : Nat) (none0_b : Option Addr) (none0_l none0_c : Nat) (t53 : Bool) (w : World)   (R : Option Addr → Nat → Nat → World → Prop) : Prop :=
  Bm t53 (
    R none0_b none0_l none0_c w) (
    conn_Conn_opened.Call c w fun w1 =>
    LdI .i64 ⟨s, 2, none⟩ w1 fun x58 =>
    api_SeqAdd.Call x58 (1 : Int) w1 fun r59 w2 =>
    Pn c fun a =>
    LdP (a.add 1) w2 fun x63 =>
    seg_RecvBuf_Reset.Call x63 r59 w2 fun w3 =>
    LdI .i64 ⟨s, 5, none⟩ w3 fun x68 =>
    conn_window.Call x68 w3 fun r69 w4 =>
    Pn c fun a_1 =>
    Sts [.int .i64 r69] (a_1.add 9) 0 w4 fun w5 =>
    conn_Conn_ack.Call c w5 fun r73_0 r73_1 r73_2 r73_3 r73_4 r73_5 r73_6_b r73_6_l r73_6_c w6 =>
    New (.cells #[.int .i64 (0 : Int), .int .i64 (0 : Int), .int .i64 (0 : Int), .int .i64 (0 : Int), .int .i64 (0 : Int), .int .i64 (0 : Int), .slice none 0 0] 45) w6 fun a_ w7 =>
    Sts [.int .i64 r73_0, .int .i64 r73_1, .int .i64 r73_2, .int .i64 r73_3, .int .i64 r73_4, .int .i64 r73_5, .slice r73_6_b r73_6_l r73_6_c] ⟨a_, 0, none⟩ 0 w7 fun w8 =>
    LdI .i64 ⟨a_, 0, none⟩ w8 fun x74_0 =>
    LdI .i64 ⟨a_, 1, none⟩ w8 fun x74_1 =>
    LdI .i64 ⟨a_, 2, none⟩ w8 fun x74_2 =>
    LdI .i64 ⟨a_, 3, none⟩ w8 fun x74_3 =>
    LdI .i64 ⟨a_, 4, none⟩ w8 fun x74_4 =>
    LdI .i64 ⟨a_, 5, none⟩ w8 fun x74_5 =>
    LdL ⟨a_, 6, none⟩ w8 fun x74_6_b x74_6_l x74_6_c =>
    conn_one.Call x74_0 x74_1 x74_2 x74_3 x74_4 x74_5 x74_6_b x74_6_l x74_6_c w8 fun r75_b r75_l r75_c w9 =>
    R r75_b r75_l r75_c w9)
theorem conn_Conn_inSynSent.B2_eq (c : Option Addr) (s : Nat) (none0_b : Option Addr) (none0_l none0_c : Nat) (t53 : Bool) (w : World)   (R : Option Addr → Nat → Nat → World → Prop)  :
    (
  Bm t53 (
    R none0_b none0_l none0_c w) (
    conn_Conn_opened.Call c w fun w1 =>
    LdI .i64 ⟨s, 2, none⟩ w1 fun x58 =>
    api_SeqAdd.Call x58 (1 : Int) w1 fun r59 w2 =>
    Pn c fun a =>
    LdP (a.add 1) w2 fun x63 =>
    seg_RecvBuf_Reset.Call x63 r59 w2 fun w3 =>
    LdI .i64 ⟨s, 5, none⟩ w3 fun x68 =>
    conn_window.Call x68 w3 fun r69 w4 =>
    Pn c fun a_1 =>
    Sts [.int .i64 r69] (a_1.add 9) 0 w4 fun w5 =>
    conn_Conn_ack.Call c w5 fun r73_0 r73_1 r73_2 r73_3 r73_4 r73_5 r73_6_b r73_6_l r73_6_c w6 =>
    New (.cells #[.int .i64 (0 : Int), .int .i64 (0 : Int), .int .i64 (0 : Int), .int .i64 (0 : Int), .int .i64 (0 : Int), .int .i64 (0 : Int), .slice none 0 0] 45) w6 fun a_ w7 =>
    Sts [.int .i64 r73_0, .int .i64 r73_1, .int .i64 r73_2, .int .i64 r73_3, .int .i64 r73_4, .int .i64 r73_5, .slice r73_6_b r73_6_l r73_6_c] ⟨a_, 0, none⟩ 0 w7 fun w8 =>
    LdI .i64 ⟨a_, 0, none⟩ w8 fun x74_0 =>
    LdI .i64 ⟨a_, 1, none⟩ w8 fun x74_1 =>
    LdI .i64 ⟨a_, 2, none⟩ w8 fun x74_2 =>
    LdI .i64 ⟨a_, 3, none⟩ w8 fun x74_3 =>
    LdI .i64 ⟨a_, 4, none⟩ w8 fun x74_4 =>
    LdI .i64 ⟨a_, 5, none⟩ w8 fun x74_5 =>
    LdL ⟨a_, 6, none⟩ w8 fun x74_6_b x74_6_l x74_6_c =>
    conn_one.Call x74_0 x74_1 x74_2 x74_3 x74_4 x74_5 x74_6_b x74_6_l x74_6_c w8 fun r75_b r75_l r75_c w9 =>
    R r75_b r75_l r75_c w9)) = kstep Tryz.prog 76 Tryz.f95.results.toList (Tryz.f95.body.getD .skip) (conn_Conn_inSynSent.RV R) (kvc Tryz.prog 76 Tryz.f95.results.toList (Tryz.f95.body.getD .skip) (conn_Conn_inSynSent.RV R) [] 2000) [(0, [1, 1, 1, 1, 1, 1, 0, 1]), (0, [1, 1, 1, 1, 1, 1, 1])] [(0, .pointer c), (3, .pointer (some ⟨s, 0, none⟩)), (5, .slice none0_b none0_l none0_c), (53, .bool t53)] w := by kernel_rfl
theorem conn_Conn_inSynSent.B2_sound {R : Option Addr → Nat → Nat → World → Prop}  (c : Option Addr) (s : Nat) (none0_b : Option Addr) (none0_l none0_c : Nat) (t53 : Bool) (w : World) (h : conn_Conn_inSynSent.B2 c s none0_b none0_l none0_c t53 w   R) :
    KW Tryz.prog 95 76 (conn_Conn_inSynSent.RV R) ([(0, [1, 1, 1, 1, 1, 1, 0, 1]), (0, [1, 1, 1, 1, 1, 1, 1])].map (toItem (Tryz.f95.body.getD .skip))) [(0, .pointer c), (3, .pointer (some ⟨s, 0, none⟩)), (5, .slice none0_b none0_l none0_c), (53, .bool t53)] w := by
  exact block_spec Tryz.func95 Tryz.mixed stops_nil (Eq.mp (conn_Conn_inSynSent.B2_eq c s none0_b none0_l none0_c t53 w   R ) h)
def conn_Conn_inSynSent.B1 (c : Option Addr) (s : Nat) (none0_b : Option Addr) (none0_l none0_c : Nat) (acks t27 : Bool) (w : World)   (R : Option Addr → Nat → Nat → World → Prop) : Prop :=
  Bm t27 (
    LdI .i64 ⟨s, 4, none⟩ w fun x29 =>
    Bm ((IntKind.i64.wrap (BitVec.ofInt IntKind.i64.bits x29 &&& BitVec.ofInt IntKind.i64.bits (8 : Int)).toNat) != (0 : Int)) (
      R none0_b none0_l none0_c w) (
      LdI .i64 ⟨s, 3, none⟩ w fun x34 =>
      conn_rst.Call x34 w fun r35_0 r35_1 r35_2 r35_3 r35_4 r35_5 r35_6_b r35_6_l r35_6_c w1 =>
      New (.cells #[.int .i64 (0 : Int), .int .i64 (0 : Int), .int .i64 (0 : Int), .int .i64 (0 : Int), .int .i64 (0 : Int), .int .i64 (0 : Int), .slice none 0 0] 45) w1 fun r_ w2 =>
      Sts [.int .i64 r35_0, .int .i64 r35_1, .int .i64 r35_2, .int .i64 r35_3, .int .i64 r35_4, .int .i64 r35_5, .slice r35_6_b r35_6_l r35_6_c] ⟨r_, 0, none⟩ 0 w2 fun w3 =>
      LdI .i64 ⟨r_, 0, none⟩ w3 fun x36_0 =>
      LdI .i64 ⟨r_, 1, none⟩ w3 fun x36_1 =>
      LdI .i64 ⟨r_, 2, none⟩ w3 fun x36_2 =>
      LdI .i64 ⟨r_, 3, none⟩ w3 fun x36_3 =>
      LdI .i64 ⟨r_, 4, none⟩ w3 fun x36_4 =>
      LdI .i64 ⟨r_, 5, none⟩ w3 fun x36_5 =>
      LdL ⟨r_, 6, none⟩ w3 fun x36_6_b x36_6_l x36_6_c =>
      conn_one.Call x36_0 x36_1 x36_2 x36_3 x36_4 x36_5 x36_6_b x36_6_l x36_6_c w3 fun r37_b r37_l r37_c w4 =>
      R r37_b r37_l r37_c w4)) (
    LdI .i64 ⟨s, 4, none⟩ w fun x39 =>
    Bm ((IntKind.i64.wrap (BitVec.ofInt IntKind.i64.bits x39 &&& BitVec.ofInt IntKind.i64.bits (8 : Int)).toNat) != (0 : Int)) (
      Bm acks (
        conn_Conn_fail.Call c (18 : Int) w fun w5 =>
        R none0_b none0_l none0_c w5) (
        R none0_b none0_l none0_c w)) (
      LdI .i64 ⟨s, 4, none⟩ w fun x47 =>
      Bm ((IntKind.i64.wrap (BitVec.ofInt IntKind.i64.bits x47 &&& BitVec.ofInt IntKind.i64.bits (1 : Int)).toNat) == (0 : Int)) (
        conn_Conn_inSynSent.B2 c s none0_b none0_l none0_c true w  R) (
        conn_Conn_inSynSent.B2 c s none0_b none0_l none0_c (!acks) w  R)))
theorem conn_Conn_inSynSent.B1_eq (c : Option Addr) (s : Nat) (none0_b : Option Addr) (none0_l none0_c : Nat) (acks t27 : Bool) (w : World)   (R : Option Addr → Nat → Nat → World → Prop) (sB2 : Option Addr → Nat → Option Addr → Nat → Nat → Bool → World → Prop) :
    (
  Bm t27 (
    LdI .i64 ⟨s, 4, none⟩ w fun x29 =>
    Bm ((IntKind.i64.wrap (BitVec.ofInt IntKind.i64.bits x29 &&& BitVec.ofInt IntKind.i64.bits (8 : Int)).toNat) != (0 : Int)) (
      R none0_b none0_l none0_c w) (
      LdI .i64 ⟨s, 3, none⟩ w fun x34 =>
      conn_rst.Call x34 w fun r35_0 r35_1 r35_2 r35_3 r35_4 r35_5 r35_6_b r35_6_l r35_6_c w1 =>
      New (.cells #[.int .i64 (0 : Int), .int .i64 (0 : Int), .int .i64 (0 : Int), .int .i64 (0 : Int), .int .i64 (0 : Int), .int .i64 (0 : Int), .slice none 0 0] 45) w1 fun r_ w2 =>
      Sts [.int .i64 r35_0, .int .i64 r35_1, .int .i64 r35_2, .int .i64 r35_3, .int .i64 r35_4, .int .i64 r35_5, .slice r35_6_b r35_6_l r35_6_c] ⟨r_, 0, none⟩ 0 w2 fun w3 =>
      LdI .i64 ⟨r_, 0, none⟩ w3 fun x36_0 =>
      LdI .i64 ⟨r_, 1, none⟩ w3 fun x36_1 =>
      LdI .i64 ⟨r_, 2, none⟩ w3 fun x36_2 =>
      LdI .i64 ⟨r_, 3, none⟩ w3 fun x36_3 =>
      LdI .i64 ⟨r_, 4, none⟩ w3 fun x36_4 =>
      LdI .i64 ⟨r_, 5, none⟩ w3 fun x36_5 =>
      LdL ⟨r_, 6, none⟩ w3 fun x36_6_b x36_6_l x36_6_c =>
      conn_one.Call x36_0 x36_1 x36_2 x36_3 x36_4 x36_5 x36_6_b x36_6_l x36_6_c w3 fun r37_b r37_l r37_c w4 =>
      R r37_b r37_l r37_c w4)) (
    LdI .i64 ⟨s, 4, none⟩ w fun x39 =>
    Bm ((IntKind.i64.wrap (BitVec.ofInt IntKind.i64.bits x39 &&& BitVec.ofInt IntKind.i64.bits (8 : Int)).toNat) != (0 : Int)) (
      Bm acks (
        conn_Conn_fail.Call c (18 : Int) w fun w5 =>
        R none0_b none0_l none0_c w5) (
        R none0_b none0_l none0_c w)) (
      LdI .i64 ⟨s, 4, none⟩ w fun x47 =>
      Bm ((IntKind.i64.wrap (BitVec.ofInt IntKind.i64.bits x47 &&& BitVec.ofInt IntKind.i64.bits (1 : Int)).toNat) == (0 : Int)) (
        sB2 c s none0_b none0_l none0_c true w) (
        sB2 c s none0_b none0_l none0_c (!acks) w)))) = kstep Tryz.prog 76 Tryz.f95.results.toList (Tryz.f95.body.getD .skip) (conn_Conn_inSynSent.RV R) (kvc Tryz.prog 76 Tryz.f95.results.toList (Tryz.f95.body.getD .skip) (conn_Conn_inSynSent.RV R) [([(0, [1, 1, 1, 1, 1, 1, 0, 1]), (0, [1, 1, 1, 1, 1, 1, 1])], fun σ w => dP (slotOf σ 0) fun c_ => dK (slotOf σ 3) fun s_ => dL (slotOf σ 5) fun none0_b_ none0_l_ none0_c_ => dB (slotOf σ 53) fun t53_ => sB2 c_ s_ none0_b_ none0_l_ none0_c_ t53_ w)] 2000) [(0, [1, 1, 1, 1, 0, 1]), (0, [1, 1, 1, 1, 1])] [(0, .pointer c), (3, .pointer (some ⟨s, 0, none⟩)), (5, .slice none0_b none0_l none0_c), (7, .bool acks), (27, .bool t27)] w := by kernel_rfl
theorem conn_Conn_inSynSent.B1_sound {R : Option Addr → Nat → Nat → World → Prop}  (c : Option Addr) (s : Nat) (none0_b : Option Addr) (none0_l none0_c : Nat) (acks t27 : Bool) (w : World) (h : conn_Conn_inSynSent.B1 c s none0_b none0_l none0_c acks t27 w   R) :
    KW Tryz.prog 95 76 (conn_Conn_inSynSent.RV R) ([(0, [1, 1, 1, 1, 0, 1]), (0, [1, 1, 1, 1, 1])].map (toItem (Tryz.f95.body.getD .skip))) [(0, .pointer c), (3, .pointer (some ⟨s, 0, none⟩)), (5, .slice none0_b none0_l none0_c), (7, .bool acks), (27, .bool t27)] w := by
  exact block_spec Tryz.func95 Tryz.mixed (stops_cons (fun σ w h => by
      obtain ⟨c_, e0, h⟩ := dP_elim h
      obtain ⟨s_, e1, h⟩ := dK_elim h
      obtain ⟨none0_b_, none0_l_, none0_c_, e2, h⟩ := dL_elim h
      obtain ⟨t53_, e3, h⟩ := dB_elim h
      exact (conn_Conn_inSynSent.B2_sound  c_ s_ none0_b_ none0_l_ none0_c_ t53_ w h).weaken (Sub.cons (Sub.cons (Sub.cons (Sub.cons (Sub.nil _) e3) e2) e1) e0)) stops_nil) (Eq.mp (conn_Conn_inSynSent.B1_eq c s none0_b none0_l none0_c acks t27 w   R (fun c_ s_ none0_b_ none0_l_ none0_c_ t53_ w => conn_Conn_inSynSent.B2 c_ s_ none0_b_ none0_l_ none0_c_ t53_ w  R)) h)
def conn_Conn_inSynSent.B0 (c : Option Addr) (s_0 s_1 s_2 s_3 s_4 s_5 : Int) (s_6_b : Option Addr) (s_6_l s_6_c : Nat) (w : World)   (R : Option Addr → Nat → Nat → World → Prop) : Prop :=
  New (.cells #[.int .i64 s_0, .int .i64 s_1, .int .i64 s_2, .int .i64 s_3, .int .i64 s_4, .int .i64 s_5, .slice s_6_b s_6_l s_6_c] 45) w fun s_ w1 =>
  New (.cells #[] 45) w1 fun b11 w2 =>
  Pn c fun a =>
  LdI .i64 (a.add 8) w2 fun x15 =>
  api_SeqAdd.Call x15 (1 : Int) w2 fun r16 w3 =>
  LdI .i64 ⟨s_, 4, none⟩ w3 fun x18 =>
  Bm ((IntKind.i64.wrap (BitVec.ofInt IntKind.i64.bits x18 &&& BitVec.ofInt IntKind.i64.bits (2 : Int)).toNat) != (0 : Int)) (
    LdI .i64 ⟨s_, 3, none⟩ w3 fun x24 =>
    conn_Conn_inSynSent.B1 c s_ (some ⟨b11, 0, none⟩) 0 0 ((IntKind.i64.wrap (BitVec.ofInt IntKind.i64.bits x18 &&& BitVec.ofInt IntKind.i64.bits (2 : Int)).toNat) != (0 : Int)) (x24 != r16) w3  R) (
    conn_Conn_inSynSent.B1 c s_ (some ⟨b11, 0, none⟩) 0 0 ((IntKind.i64.wrap (BitVec.ofInt IntKind.i64.bits x18 &&& BitVec.ofInt IntKind.i64.bits (2 : Int)).toNat) != (0 : Int)) false w3  R)
theorem conn_Conn_inSynSent.B0_eq (c : Option Addr) (s_0 s_1 s_2 s_3 s_4 s_5 : Int) (s_6_b : Option Addr) (s_6_l s_6_c : Nat) (w : World)   (R : Option Addr → Nat → Nat → World → Prop) (sB1 : Option Addr → Nat → Option Addr → Nat → Nat → Bool → Bool → World → Prop) :
    (
  New (.cells #[.int .i64 s_0, .int .i64 s_1, .int .i64 s_2, .int .i64 s_3, .int .i64 s_4, .int .i64 s_5, .slice s_6_b s_6_l s_6_c] 45) w fun s_ w1 =>
  New (.cells #[] 45) w1 fun b11 w2 =>
  Pn c fun a =>
  LdI .i64 (a.add 8) w2 fun x15 =>
  api_SeqAdd.Call x15 (1 : Int) w2 fun r16 w3 =>
  LdI .i64 ⟨s_, 4, none⟩ w3 fun x18 =>
  Bm ((IntKind.i64.wrap (BitVec.ofInt IntKind.i64.bits x18 &&& BitVec.ofInt IntKind.i64.bits (2 : Int)).toNat) != (0 : Int)) (
    LdI .i64 ⟨s_, 3, none⟩ w3 fun x24 =>
    sB1 c s_ (some ⟨b11, 0, none⟩) 0 0 ((IntKind.i64.wrap (BitVec.ofInt IntKind.i64.bits x18 &&& BitVec.ofInt IntKind.i64.bits (2 : Int)).toNat) != (0 : Int)) (x24 != r16) w3) (
    sB1 c s_ (some ⟨b11, 0, none⟩) 0 0 ((IntKind.i64.wrap (BitVec.ofInt IntKind.i64.bits x18 &&& BitVec.ofInt IntKind.i64.bits (2 : Int)).toNat) != (0 : Int)) false w3)) = kstep Tryz.prog 76 Tryz.f95.results.toList (Tryz.f95.body.getD .skip) (conn_Conn_inSynSent.RV R) (kvc Tryz.prog 76 Tryz.f95.results.toList (Tryz.f95.body.getD .skip) (conn_Conn_inSynSent.RV R) [([(0, [1, 1, 1, 1, 0, 1]), (0, [1, 1, 1, 1, 1])], fun σ w => dP (slotOf σ 0) fun c_ => dK (slotOf σ 3) fun s_ => dL (slotOf σ 5) fun none0_b_ none0_l_ none0_c_ => dB (slotOf σ 7) fun acks_ => dB (slotOf σ 27) fun t27_ => sB1 c_ s_ none0_b_ none0_l_ none0_c_ acks_ t27_ w)] 2000) [(0, [])] [(0, .pointer c), (1, .agg #[.int .i64 s_0, .int .i64 s_1, .int .i64 s_2, .int .i64 s_3, .int .i64 s_4, .int .i64 s_5, .slice s_6_b s_6_l s_6_c])] w := by kernel_rfl
theorem conn_Conn_inSynSent.B0_sound {R : Option Addr → Nat → Nat → World → Prop}  (c : Option Addr) (s_0 s_1 s_2 s_3 s_4 s_5 : Int) (s_6_b : Option Addr) (s_6_l s_6_c : Nat) (w : World) (h : conn_Conn_inSynSent.B0 c s_0 s_1 s_2 s_3 s_4 s_5 s_6_b s_6_l s_6_c w   R) :
    KW Tryz.prog 95 76 (conn_Conn_inSynSent.RV R) ([(0, [])].map (toItem (Tryz.f95.body.getD .skip))) [(0, .pointer c), (1, .agg #[.int .i64 s_0, .int .i64 s_1, .int .i64 s_2, .int .i64 s_3, .int .i64 s_4, .int .i64 s_5, .slice s_6_b s_6_l s_6_c])] w := by
  exact block_spec Tryz.func95 Tryz.mixed (stops_cons (fun σ w h => by
      obtain ⟨c_, e0, h⟩ := dP_elim h
      obtain ⟨s_, e1, h⟩ := dK_elim h
      obtain ⟨none0_b_, none0_l_, none0_c_, e2, h⟩ := dL_elim h
      obtain ⟨acks_, e3, h⟩ := dB_elim h
      obtain ⟨t27_, e4, h⟩ := dB_elim h
      exact (conn_Conn_inSynSent.B1_sound  c_ s_ none0_b_ none0_l_ none0_c_ acks_ t27_ w h).weaken (Sub.cons (Sub.cons (Sub.cons (Sub.cons (Sub.cons (Sub.nil _) e4) e3) e2) e1) e0)) stops_nil) (Eq.mp (conn_Conn_inSynSent.B0_eq c s_0 s_1 s_2 s_3 s_4 s_5 s_6_b s_6_l s_6_c w   R (fun c_ s_ none0_b_ none0_l_ none0_c_ acks_ t27_ w => conn_Conn_inSynSent.B1 c_ s_ none0_b_ none0_l_ none0_c_ acks_ t27_ w  R)) h)
theorem conn_Conn_inSynSent.sound (c : Option Addr) (s_0 s_1 s_2 s_3 s_4 s_5 : Int) (s_6_b : Option Addr) (s_6_l s_6_c : Nat) (w : World) (R : Option Addr → Nat → Nat → World → Prop) (h : conn_Conn_inSynSent.B0 c s_0 s_1 s_2 s_3 s_4 s_5 s_6_b s_6_l s_6_c w R) : conn_Conn_inSynSent.Call c s_0 s_1 s_2 s_3 s_4 s_5 s_6_b s_6_l s_6_c w R := by
  have hc := calls_of_block (args := #[.pointer c, .agg #[.int .i64 s_0, .int .i64 s_1, .int .i64 s_2, .int .i64 s_3, .int .i64 s_4, .int .i64 s_5, .slice s_6_b s_6_l s_6_c]]) Tryz.func95 (body := (Tryz.f95.body.getD .skip)) (by kernel_rfl) (by kernel_rfl) (args_slot _) (conn_Conn_inSynSent.B0_sound c s_0 s_1 s_2 s_3 s_4 s_5 s_6_b s_6_l s_6_c w h)
  exact hc.mono fun e w' he => by
    obtain ⟨v, rfl, hv⟩ := he
    exact conn_Conn_inSynSent.RV_elim hv
end Go.Proofs.Qxb6500422aGreat
