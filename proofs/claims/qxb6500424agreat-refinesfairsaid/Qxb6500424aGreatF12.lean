import Derived.Test.Qxb6500424aGreatSig
set_option maxRecDepth 100000
set_option linter.unusedVariables false
open Go.Vc
namespace Go.Proofs.Qxb6500424aGreat
def hostm_Net_has.B0 (n : Option Addr) (i : Int) (w : World)   (R : Bool → World → Prop) : Prop :=
  Bm (decide (i ≥ (0 : Int))) (
    Pn n fun a =>
    LdL a w fun x12_b x12_l x12_c =>
    R (decide (i < ((x12_l : Nat) : Int))) w) (
    R false w)
theorem hostm_Net_has.B0_eq (n : Option Addr) (i : Int) (w : World)   (R : Bool → World → Prop)  :
    (
  Bm (decide (i ≥ (0 : Int))) (
    Pn n fun a =>
    LdL a w fun x12_b x12_l x12_c =>
    R (decide (i < ((x12_l : Nat) : Int))) w) (
    R false w)) = kstep Tryz.prog 16 Tryz.f75.results.toList (Tryz.f75.body.getD .skip) (hostm_Net_has.RV R) (kvc Tryz.prog 16 Tryz.f75.results.toList (Tryz.f75.body.getD .skip) (hostm_Net_has.RV R) [] 2000) [(0, [])] [(0, .pointer n), (1, .int .i64 i)] w := by kernel_rfl
theorem hostm_Net_has.B0_sound {R : Bool → World → Prop}  (n : Option Addr) (i : Int) (w : World) (h : hostm_Net_has.B0 n i w   R) :
    KW Tryz.prog 75 16 (hostm_Net_has.RV R) ([(0, [])].map (toItem (Tryz.f75.body.getD .skip))) [(0, .pointer n), (1, .int .i64 i)] w := by
  exact block_spec Tryz.func75 Tryz.mixed stops_nil (Eq.mp (hostm_Net_has.B0_eq n i w   R ) h)
theorem hostm_Net_has.sound (n : Option Addr) (i : Int) (w : World) (R : Bool → World → Prop) (h : hostm_Net_has.B0 n i w R) : hostm_Net_has.Call n i w R := by
  have hc := calls_of_block (args := #[.pointer n, .int .i64 i]) Tryz.func75 (body := (Tryz.f75.body.getD .skip)) (by kernel_rfl) (by kernel_rfl) (args_slot _) (hostm_Net_has.B0_sound n i w h)
  exact hc.mono fun e w' he => by
    obtain ⟨v, rfl, hv⟩ := he
    exact hostm_Net_has.RV_elim hv
def wirem_Wire_Take.B1 (w0 : Option Addr) (i : Int) (t17 : Bool) (w : World)   (R : Option Addr → Nat → Nat → Bool → World → Prop) : Prop :=
  Bm t17 (
    R none 0 0 false w) (
    Pn w0 fun a =>
    LdL a w fun x21_b x21_l x21_c =>
    Pn x21_b fun a_1 =>
    (0 ≤ i ∧ i < ((x21_l : Nat) : Int)) ∧
    LdL (Addr.add a_1 (i.toNat * 3)) w fun x24_0_b x24_0_l x24_0_c =>
    LdI .i64 ((Addr.add a_1 (i.toNat * 3)).add 1) w fun x24_1 =>
    LdB ((Addr.add a_1 (i.toNat * 3)).add 2) w fun x24_2 =>
    New (.cells #[.slice none 0 0, .int .i64 (0 : Int), .bool false] 129) w fun b w1 =>
    Sts [.slice x24_0_b x24_0_l x24_0_c, .int .i64 x24_1, .bool x24_2] ⟨b, 0, none⟩ 0 w1 fun w2 =>
    wirem_Wire_remove.Call w0 i w2 fun w3 =>
    LdI .i64 ⟨b, 1, none⟩ w3 fun x29 =>
    Bm (decide (x29 > (4 : Int))) (
      R none 0 0 false w3) (
      LdL ⟨b, 0, none⟩ w3 fun x32_b x32_l x32_c =>
      R x32_b x32_l x32_c true w3))
theorem wirem_Wire_Take.B1_eq (w0 : Option Addr) (i : Int) (t17 : Bool) (w : World)   (R : Option Addr → Nat → Nat → Bool → World → Prop)  :
    (
  Bm t17 (
    R none 0 0 false w) (
    Pn w0 fun a =>
    LdL a w fun x21_b x21_l x21_c =>
    Pn x21_b fun a_1 =>
    (0 ≤ i ∧ i < ((x21_l : Nat) : Int)) ∧
    LdL (Addr.add a_1 (i.toNat * 3)) w fun x24_0_b x24_0_l x24_0_c =>
    LdI .i64 ((Addr.add a_1 (i.toNat * 3)).add 1) w fun x24_1 =>
    LdB ((Addr.add a_1 (i.toNat * 3)).add 2) w fun x24_2 =>
    New (.cells #[.slice none 0 0, .int .i64 (0 : Int), .bool false] 129) w fun b w1 =>
    Sts [.slice x24_0_b x24_0_l x24_0_c, .int .i64 x24_1, .bool x24_2] ⟨b, 0, none⟩ 0 w1 fun w2 =>
    wirem_Wire_remove.Call w0 i w2 fun w3 =>
    LdI .i64 ⟨b, 1, none⟩ w3 fun x29 =>
    Bm (decide (x29 > (4 : Int))) (
      R none 0 0 false w3) (
      LdL ⟨b, 0, none⟩ w3 fun x32_b x32_l x32_c =>
      R x32_b x32_l x32_c true w3))) = kstep Tryz.prog 33 Tryz.f76.results.toList (Tryz.f76.body.getD .skip) (wirem_Wire_Take.RV R) (kvc Tryz.prog 33 Tryz.f76.results.toList (Tryz.f76.body.getD .skip) (wirem_Wire_Take.RV R) [] 2000) [(0, [1, 0, 1]), (0, [1, 1])] [(0, .pointer w0), (1, .int .i64 i), (17, .bool t17)] w := by kernel_rfl
theorem wirem_Wire_Take.B1_sound {R : Option Addr → Nat → Nat → Bool → World → Prop}  (w0 : Option Addr) (i : Int) (t17 : Bool) (w : World) (h : wirem_Wire_Take.B1 w0 i t17 w   R) :
    KW Tryz.prog 76 33 (wirem_Wire_Take.RV R) ([(0, [1, 0, 1]), (0, [1, 1])].map (toItem (Tryz.f76.body.getD .skip))) [(0, .pointer w0), (1, .int .i64 i), (17, .bool t17)] w := by
  exact block_spec Tryz.func76 Tryz.mixed stops_nil (Eq.mp (wirem_Wire_Take.B1_eq w0 i t17 w   R ) h)
def wirem_Wire_Take.B0 (w0 : Option Addr) (i : Int) (w : World)   (R : Option Addr → Nat → Nat → Bool → World → Prop) : Prop :=
  Bm (decide (i < (0 : Int))) (
    wirem_Wire_Take.B1 w0 i true w  R) (
    Pn w0 fun a =>
    LdL a w fun x14_b x14_l x14_c =>
    wirem_Wire_Take.B1 w0 i (decide (i ≥ ((x14_l : Nat) : Int))) w  R)
theorem wirem_Wire_Take.B0_eq (w0 : Option Addr) (i : Int) (w : World)   (R : Option Addr → Nat → Nat → Bool → World → Prop) (sB1 : Option Addr → Int → Bool → World → Prop) :
    (
  Bm (decide (i < (0 : Int))) (
    sB1 w0 i true w) (
    Pn w0 fun a =>
    LdL a w fun x14_b x14_l x14_c =>
    sB1 w0 i (decide (i ≥ ((x14_l : Nat) : Int))) w)) = kstep Tryz.prog 33 Tryz.f76.results.toList (Tryz.f76.body.getD .skip) (wirem_Wire_Take.RV R) (kvc Tryz.prog 33 Tryz.f76.results.toList (Tryz.f76.body.getD .skip) (wirem_Wire_Take.RV R) [([(0, [1, 0, 1]), (0, [1, 1])], fun σ w => dP (slotOf σ 0) fun w0_ => dI .i64 (slotOf σ 1) fun i_ => dB (slotOf σ 17) fun t17_ => sB1 w0_ i_ t17_ w)] 2000) [(0, [])] [(0, .pointer w0), (1, .int .i64 i)] w := by kernel_rfl
theorem wirem_Wire_Take.B0_sound {R : Option Addr → Nat → Nat → Bool → World → Prop}  (w0 : Option Addr) (i : Int) (w : World) (h : wirem_Wire_Take.B0 w0 i w   R) :
    KW Tryz.prog 76 33 (wirem_Wire_Take.RV R) ([(0, [])].map (toItem (Tryz.f76.body.getD .skip))) [(0, .pointer w0), (1, .int .i64 i)] w := by
  exact block_spec Tryz.func76 Tryz.mixed (stops_cons (fun σ w h => by
      obtain ⟨w0_, e0, h⟩ := dP_elim h
      obtain ⟨i_, e1, h⟩ := dI_elim h
      obtain ⟨t17_, e2, h⟩ := dB_elim h
      exact (wirem_Wire_Take.B1_sound  w0_ i_ t17_ w h).weaken (Sub.cons (Sub.cons (Sub.cons (Sub.nil _) e2) e1) e0)) stops_nil) (Eq.mp (wirem_Wire_Take.B0_eq w0 i w   R (fun w0_ i_ t17_ w => wirem_Wire_Take.B1 w0_ i_ t17_ w  R)) h)
theorem wirem_Wire_Take.sound (w0 : Option Addr) (i : Int) (w : World) (R : Option Addr → Nat → Nat → Bool → World → Prop) (h : wirem_Wire_Take.B0 w0 i w R) : wirem_Wire_Take.Call w0 i w R := by
  have hc := calls_of_block (args := #[.pointer w0, .int .i64 i]) Tryz.func76 (body := (Tryz.f76.body.getD .skip)) (by kernel_rfl) (by kernel_rfl) (args_slot _) (wirem_Wire_Take.B0_sound w0 i w h)
  exact hc.mono fun e w' he => by
    obtain ⟨v, rfl, hv⟩ := he
    exact wirem_Wire_Take.RV_elim hv
def api_CopyBytes.B0 (b_b : Option Addr) (b_l b_c : Nat) (w : World)   (R : Option Addr → Nat → Nat → World → Prop) : Prop :=
  Make 5 (.int .u8 (0 : Int)) 1 1 ((b_l : Nat) : Int) ((b_l : Nat) : Int) w fun b6 w1 =>
  Copy 1 (some ⟨b6, 0, none⟩) (((b_l : Nat) : Int).toNat) b_b b_l w1 fun n9 w2 =>
  R (some ⟨b6, 0, none⟩) (((b_l : Nat) : Int).toNat) (((b_l : Nat) : Int).toNat) w2
theorem api_CopyBytes.B0_eq (b_b : Option Addr) (b_l b_c : Nat) (w : World)   (R : Option Addr → Nat → Nat → World → Prop)  :
    (
  Make 5 (.int .u8 (0 : Int)) 1 1 ((b_l : Nat) : Int) ((b_l : Nat) : Int) w fun b6 w1 =>
  Copy 1 (some ⟨b6, 0, none⟩) (((b_l : Nat) : Int).toNat) b_b b_l w1 fun n9 w2 =>
  R (some ⟨b6, 0, none⟩) (((b_l : Nat) : Int).toNat) (((b_l : Nat) : Int).toNat) w2) = kstep Tryz.prog 11 Tryz.f77.results.toList (Tryz.f77.body.getD .skip) (api_CopyBytes.RV R) (kvc Tryz.prog 11 Tryz.f77.results.toList (Tryz.f77.body.getD .skip) (api_CopyBytes.RV R) [] 2000) [(0, [])] [(0, .slice b_b b_l b_c)] w := by kernel_rfl
theorem api_CopyBytes.B0_sound {R : Option Addr → Nat → Nat → World → Prop}  (b_b : Option Addr) (b_l b_c : Nat) (w : World) (h : api_CopyBytes.B0 b_b b_l b_c w   R) :
    KW Tryz.prog 77 11 (api_CopyBytes.RV R) ([(0, [])].map (toItem (Tryz.f77.body.getD .skip))) [(0, .slice b_b b_l b_c)] w := by
  exact block_spec Tryz.func77 Tryz.mixed stops_nil (Eq.mp (api_CopyBytes.B0_eq b_b b_l b_c w   R ) h)
theorem api_CopyBytes.sound (b_b : Option Addr) (b_l b_c : Nat) (w : World) (R : Option Addr → Nat → Nat → World → Prop) (h : api_CopyBytes.B0 b_b b_l b_c w R) : api_CopyBytes.Call b_b b_l b_c w R := by
  have hc := calls_of_block (args := #[.slice b_b b_l b_c]) Tryz.func77 (body := (Tryz.f77.body.getD .skip)) (by kernel_rfl) (by kernel_rfl) (args_slot _) (api_CopyBytes.B0_sound b_b b_l b_c w h)
  exact hc.mono fun e w' he => by
    obtain ⟨v, rfl, hv⟩ := he
    exact api_CopyBytes.RV_elim hv
def host_Host_Input.B2 (h0 out_b : Option Addr) (out_l out_c d s : Nat) (w : World)   (R : Option Addr → Nat → Nat → World → Prop) : Prop :=
  LdI .i64 ⟨s, 4, none⟩ w fun x140 =>
  Bm ((IntKind.i64.wrap (BitVec.ofInt IntKind.i64.bits x140 &&& BitVec.ofInt IntKind.i64.bits (8 : Int)).toNat) != (0 : Int)) (
    Pn h0 fun a =>
    (0 ≤ (6 : Int) ∧ (6 : Int) < ((8 : Nat) : Int)) ∧
    LdI .i64 ((a.add 3).add 6) w.drew fun x147 =>
    Pn h0 fun a_1 =>
    (0 ≤ (6 : Int) ∧ (6 : Int) < ((8 : Nat) : Int)) ∧
    Sts [.int .i64 (IntKind.i64.wrap (x147 + (1 : Int)))] ((a_1.add 3).add 6) 0 w.drew fun w1 =>
    R out_b out_l out_c w1) (
    Pn h0 fun a_2 =>
    (0 ≤ (7 : Int) ∧ (7 : Int) < ((8 : Nat) : Int)) ∧
    LdI .i64 ((a_2.add 3).add 7) w.drew fun x157 =>
    Pn h0 fun a_3 =>
    (0 ≤ (7 : Int) ∧ (7 : Int) < ((8 : Nat) : Int)) ∧
    Sts [.int .i64 (IntKind.i64.wrap (x157 + (1 : Int)))] ((a_3.add 3).add 7) 0 w.drew fun w2 =>
    LdI .i64 ⟨s, 0, none⟩ w2 fun x162_0 =>
    LdI .i64 ⟨s, 1, none⟩ w2 fun x162_1 =>
    LdI .i64 ⟨s, 2, none⟩ w2 fun x162_2 =>
    LdI .i64 ⟨s, 3, none⟩ w2 fun x162_3 =>
    LdI .i64 ⟨s, 4, none⟩ w2 fun x162_4 =>
    LdI .i64 ⟨s, 5, none⟩ w2 fun x162_5 =>
    LdL ⟨s, 6, none⟩ w2 fun x162_6_b x162_6_l x162_6_c =>
    host_nobody.Call x162_0 x162_1 x162_2 x162_3 x162_4 x162_5 x162_6_b x162_6_l x162_6_c w2 fun r163_0 r163_1 r163_2 r163_3 r163_4 r163_5 r163_6_b r163_6_l r163_6_c w3 =>
    New (.cells #[.int .i64 (0 : Int), .int .i64 (0 : Int), .int .i64 (0 : Int), .int .i64 (0 : Int), .int .i64 (0 : Int), .int .i64 (0 : Int), .slice none 0 0] 177) w3 fun r_ w4 =>
    Sts [.int .i64 r163_0, .int .i64 r163_1, .int .i64 r163_2, .int .i64 r163_3, .int .i64 r163_4, .int .i64 r163_5, .slice r163_6_b r163_6_l r163_6_c] ⟨r_, 0, none⟩ 0 w4 fun w5 =>
    LdI .i64 ⟨d, 0, none⟩ w5 fun x167 =>
    LdI .i64 ⟨r_, 0, none⟩ w5 fun x168_0 =>
    LdI .i64 ⟨r_, 1, none⟩ w5 fun x168_1 =>
    LdI .i64 ⟨r_, 2, none⟩ w5 fun x168_2 =>
    LdI .i64 ⟨r_, 3, none⟩ w5 fun x168_3 =>
    LdI .i64 ⟨r_, 4, none⟩ w5 fun x168_4 =>
    LdI .i64 ⟨r_, 5, none⟩ w5 fun x168_5 =>
    LdL ⟨r_, 6, none⟩ w5 fun x168_6_b x168_6_l x168_6_c =>
    host_Host_send.Call h0 out_b out_l out_c x167 x168_0 x168_1 x168_2 x168_3 x168_4 x168_5 x168_6_b x168_6_l x168_6_c w5 fun r169_b r169_l r169_c w6 =>
    R r169_b r169_l r169_c w6)
theorem host_Host_Input.B2_eq (h0 out_b : Option Addr) (out_l out_c d s : Nat) (w : World)   (R : Option Addr → Nat → Nat → World → Prop)  :
    (
  LdI .i64 ⟨s, 4, none⟩ w fun x140 =>
  Bm ((IntKind.i64.wrap (BitVec.ofInt IntKind.i64.bits x140 &&& BitVec.ofInt IntKind.i64.bits (8 : Int)).toNat) != (0 : Int)) (
    Pn h0 fun a =>
    (0 ≤ (6 : Int) ∧ (6 : Int) < ((8 : Nat) : Int)) ∧
    LdI .i64 ((a.add 3).add 6) w.drew fun x147 =>
    Pn h0 fun a_1 =>
    (0 ≤ (6 : Int) ∧ (6 : Int) < ((8 : Nat) : Int)) ∧
    Sts [.int .i64 (IntKind.i64.wrap (x147 + (1 : Int)))] ((a_1.add 3).add 6) 0 w.drew fun w1 =>
    R out_b out_l out_c w1) (
    Pn h0 fun a_2 =>
    (0 ≤ (7 : Int) ∧ (7 : Int) < ((8 : Nat) : Int)) ∧
    LdI .i64 ((a_2.add 3).add 7) w.drew fun x157 =>
    Pn h0 fun a_3 =>
    (0 ≤ (7 : Int) ∧ (7 : Int) < ((8 : Nat) : Int)) ∧
    Sts [.int .i64 (IntKind.i64.wrap (x157 + (1 : Int)))] ((a_3.add 3).add 7) 0 w.drew fun w2 =>
    LdI .i64 ⟨s, 0, none⟩ w2 fun x162_0 =>
    LdI .i64 ⟨s, 1, none⟩ w2 fun x162_1 =>
    LdI .i64 ⟨s, 2, none⟩ w2 fun x162_2 =>
    LdI .i64 ⟨s, 3, none⟩ w2 fun x162_3 =>
    LdI .i64 ⟨s, 4, none⟩ w2 fun x162_4 =>
    LdI .i64 ⟨s, 5, none⟩ w2 fun x162_5 =>
    LdL ⟨s, 6, none⟩ w2 fun x162_6_b x162_6_l x162_6_c =>
    host_nobody.Call x162_0 x162_1 x162_2 x162_3 x162_4 x162_5 x162_6_b x162_6_l x162_6_c w2 fun r163_0 r163_1 r163_2 r163_3 r163_4 r163_5 r163_6_b r163_6_l r163_6_c w3 =>
    New (.cells #[.int .i64 (0 : Int), .int .i64 (0 : Int), .int .i64 (0 : Int), .int .i64 (0 : Int), .int .i64 (0 : Int), .int .i64 (0 : Int), .slice none 0 0] 177) w3 fun r_ w4 =>
    Sts [.int .i64 r163_0, .int .i64 r163_1, .int .i64 r163_2, .int .i64 r163_3, .int .i64 r163_4, .int .i64 r163_5, .slice r163_6_b r163_6_l r163_6_c] ⟨r_, 0, none⟩ 0 w4 fun w5 =>
    LdI .i64 ⟨d, 0, none⟩ w5 fun x167 =>
    LdI .i64 ⟨r_, 0, none⟩ w5 fun x168_0 =>
    LdI .i64 ⟨r_, 1, none⟩ w5 fun x168_1 =>
    LdI .i64 ⟨r_, 2, none⟩ w5 fun x168_2 =>
    LdI .i64 ⟨r_, 3, none⟩ w5 fun x168_3 =>
    LdI .i64 ⟨r_, 4, none⟩ w5 fun x168_4 =>
    LdI .i64 ⟨r_, 5, none⟩ w5 fun x168_5 =>
    LdL ⟨r_, 6, none⟩ w5 fun x168_6_b x168_6_l x168_6_c =>
    host_Host_send.Call h0 out_b out_l out_c x167 x168_0 x168_1 x168_2 x168_3 x168_4 x168_5 x168_6_b x168_6_l x168_6_c w5 fun r169_b r169_l r169_c w6 =>
    R r169_b r169_l r169_c w6)) = kstep Tryz.prog 170 Tryz.f78.results.toList (Tryz.f78.body.getD .skip) (host_Host_Input.RV R) (kvc Tryz.prog 170 Tryz.f78.results.toList (Tryz.f78.body.getD .skip) (host_Host_Input.RV R) [] 2000) [(0, [1, 1, 1, 1, 1, 1, 1, 1, 1, 1, 1, 1, 1])] [(0, .pointer h0), (5, .slice out_b out_l out_c), (8, .pointer (some ⟨d, 0, none⟩)), (9, .pointer (some ⟨s, 0, none⟩))] w := by kernel_rfl
theorem host_Host_Input.B2_sound {R : Option Addr → Nat → Nat → World → Prop}  (h0 out_b : Option Addr) (out_l out_c d s : Nat) (w : World) (h : host_Host_Input.B2 h0 out_b out_l out_c d s w   R) :
    KW Tryz.prog 78 170 (host_Host_Input.RV R) ([(0, [1, 1, 1, 1, 1, 1, 1, 1, 1, 1, 1, 1, 1])].map (toItem (Tryz.f78.body.getD .skip))) [(0, .pointer h0), (5, .slice out_b out_l out_c), (8, .pointer (some ⟨d, 0, none⟩)), (9, .pointer (some ⟨s, 0, none⟩))] w := by
  exact block_spec Tryz.func78 Tryz.mixed stops_nil (Eq.mp (host_Host_Input.B2_eq h0 out_b out_l out_c d s w   R ) h)
def host_Host_Input.B1 (h0 out_b : Option Addr) (out_l out_c : Nat) (e : Int) (d : Nat) (w : World)   (R : Option Addr → Nat → Nat → World → Prop) : Prop :=
  Bm (e != (0 : Int)) (
    Pn h0 fun a =>
    (0 ≤ (2 : Int) ∧ (2 : Int) < ((8 : Nat) : Int)) ∧
    LdI .i64 ((a.add 3).add 2) w.drew fun x63 =>
    Pn h0 fun a_1 =>
    (0 ≤ (2 : Int) ∧ (2 : Int) < ((8 : Nat) : Int)) ∧
    Sts [.int .i64 (IntKind.i64.wrap (x63 + (1 : Int)))] ((a_1.add 3).add 2) 0 w.drew fun w1 =>
    R out_b out_l out_c w1) (
    LdI .i64 ⟨d, 2, none⟩ w fun x70 =>
    Bm (x70 != (6 : Int)) (
      Pn h0 fun a_2 =>
      (0 ≤ (3 : Int) ∧ (3 : Int) < ((8 : Nat) : Int)) ∧
      LdI .i64 ((a_2.add 3).add 3) w.drew fun x76 =>
      Pn h0 fun a_3 =>
      (0 ≤ (3 : Int) ∧ (3 : Int) < ((8 : Nat) : Int)) ∧
      Sts [.int .i64 (IntKind.i64.wrap (x76 + (1 : Int)))] ((a_3.add 3).add 3) 0 w.drew fun w2 =>
      R out_b out_l out_c w2) (
      LdI .i64 ⟨d, 0, none⟩ w fun x84 =>
      LdI .i64 ⟨d, 1, none⟩ w fun x86 =>
      LdL ⟨d, 3, none⟩ w fun x88_b x88_l x88_c =>
      seg_Decode.Call x84 x86 x88_b x88_l x88_c w fun r89_0_0 r89_0_1 r89_0_2 r89_0_3 r89_0_4 r89_0_5 r89_0_6_b r89_0_6_l r89_0_6_c r89_1 w3 =>
      New (.cells #[.int .i64 (0 : Int), .int .i64 (0 : Int), .int .i64 (0 : Int), .int .i64 (0 : Int), .int .i64 (0 : Int), .int .i64 (0 : Int), .slice none 0 0] 177) w3 fun s_ w4 =>
      Sts [.int .i64 r89_0_0, .int .i64 r89_0_1, .int .i64 r89_0_2, .int .i64 r89_0_3, .int .i64 r89_0_4, .int .i64 r89_0_5, .slice r89_0_6_b r89_0_6_l r89_0_6_c] ⟨s_, 0, none⟩ 0 w4 fun w5 =>
      Bm (r89_1 != (0 : Int)) (
        Pn h0 fun a_4 =>
        (0 ≤ (4 : Int) ∧ (4 : Int) < ((8 : Nat) : Int)) ∧
        LdI .i64 ((a_4.add 3).add 4) w5.drew fun x98 =>
        Pn h0 fun a_5 =>
        (0 ≤ (4 : Int) ∧ (4 : Int) < ((8 : Nat) : Int)) ∧
        Sts [.int .i64 (IntKind.i64.wrap (x98 + (1 : Int)))] ((a_5.add 3).add 4) 0 w5.drew fun w6 =>
        R out_b out_l out_c w6) (
        Pn h0 fun a_6 =>
        LdP (a_6.add 17) w5.drew fun x107 =>
        LdI .i64 ⟨s_, 1, none⟩ w5.drew fun x109 =>
        LdI .i64 ⟨d, 0, none⟩ w5.drew fun x111 =>
        LdI .i64 ⟨s_, 0, none⟩ w5.drew fun x113 =>
        sock_Table_Lookup.Call x107 x109 x111 x113 w5.drew fun r114 w7 =>
        Bm (r114 != (0 : Int)) (
          LdI .i64 ⟨s_, 0, none⟩ w7 fun x120_0 =>
          LdI .i64 ⟨s_, 1, none⟩ w7 fun x120_1 =>
          LdI .i64 ⟨s_, 2, none⟩ w7 fun x120_2 =>
          LdI .i64 ⟨s_, 3, none⟩ w7 fun x120_3 =>
          LdI .i64 ⟨s_, 4, none⟩ w7 fun x120_4 =>
          LdI .i64 ⟨s_, 5, none⟩ w7 fun x120_5 =>
          LdL ⟨s_, 6, none⟩ w7 fun x120_6_b x120_6_l x120_6_c =>
          host_Host_toRow.Call h0 out_b out_l out_c r114 x120_0 x120_1 x120_2 x120_3 x120_4 x120_5 x120_6_b x120_6_l x120_6_c w7 fun r121_b r121_l r121_c w8 =>
          R r121_b r121_l r121_c w8) (
          LdI .i64 ⟨s_, 4, none⟩ w7 fun x123 =>
          Bm (x123 == (1 : Int)) (
            Pn h0 fun a_7 =>
            LdP (a_7.add 17) w7.drew fun x128 =>
            LdI .i64 ⟨s_, 1, none⟩ w7.drew fun x130 =>
            sock_Table_Listener.Call x128 x130 w7.drew fun r131 w9 =>
            Bm (r131 != (0 : Int)) (
              LdI .i64 ⟨d, 0, none⟩ w9 fun x136 =>
              LdI .i64 ⟨s_, 0, none⟩ w9 fun x137_0 =>
              LdI .i64 ⟨s_, 1, none⟩ w9 fun x137_1 =>
              LdI .i64 ⟨s_, 2, none⟩ w9 fun x137_2 =>
              LdI .i64 ⟨s_, 3, none⟩ w9 fun x137_3 =>
              LdI .i64 ⟨s_, 4, none⟩ w9 fun x137_4 =>
              LdI .i64 ⟨s_, 5, none⟩ w9 fun x137_5 =>
              LdL ⟨s_, 6, none⟩ w9 fun x137_6_b x137_6_l x137_6_c =>
              host_Host_toListener.Call h0 out_b out_l out_c x136 x137_0 x137_1 x137_2 x137_3 x137_4 x137_5 x137_6_b x137_6_l x137_6_c w9 fun r138_b r138_l r138_c w10 =>
              R r138_b r138_l r138_c w10) (
              host_Host_Input.B2 h0 out_b out_l out_c d s_ w9  R)) (
            host_Host_Input.B2 h0 out_b out_l out_c d s_ w7  R)))))
theorem host_Host_Input.B1_eq (h0 out_b : Option Addr) (out_l out_c : Nat) (e : Int) (d : Nat) (w : World)   (R : Option Addr → Nat → Nat → World → Prop) (sB2 : Option Addr → Option Addr → Nat → Nat → Nat → Nat → World → Prop) :
    (
  Bm (e != (0 : Int)) (
    Pn h0 fun a =>
    (0 ≤ (2 : Int) ∧ (2 : Int) < ((8 : Nat) : Int)) ∧
    LdI .i64 ((a.add 3).add 2) w.drew fun x63 =>
    Pn h0 fun a_1 =>
    (0 ≤ (2 : Int) ∧ (2 : Int) < ((8 : Nat) : Int)) ∧
    Sts [.int .i64 (IntKind.i64.wrap (x63 + (1 : Int)))] ((a_1.add 3).add 2) 0 w.drew fun w1 =>
    R out_b out_l out_c w1) (
    LdI .i64 ⟨d, 2, none⟩ w fun x70 =>
    Bm (x70 != (6 : Int)) (
      Pn h0 fun a_2 =>
      (0 ≤ (3 : Int) ∧ (3 : Int) < ((8 : Nat) : Int)) ∧
      LdI .i64 ((a_2.add 3).add 3) w.drew fun x76 =>
      Pn h0 fun a_3 =>
      (0 ≤ (3 : Int) ∧ (3 : Int) < ((8 : Nat) : Int)) ∧
      Sts [.int .i64 (IntKind.i64.wrap (x76 + (1 : Int)))] ((a_3.add 3).add 3) 0 w.drew fun w2 =>
      R out_b out_l out_c w2) (
      LdI .i64 ⟨d, 0, none⟩ w fun x84 =>
      LdI .i64 ⟨d, 1, none⟩ w fun x86 =>
      LdL ⟨d, 3, none⟩ w fun x88_b x88_l x88_c =>
      seg_Decode.Call x84 x86 x88_b x88_l x88_c w fun r89_0_0 r89_0_1 r89_0_2 r89_0_3 r89_0_4 r89_0_5 r89_0_6_b r89_0_6_l r89_0_6_c r89_1 w3 =>
      New (.cells #[.int .i64 (0 : Int), .int .i64 (0 : Int), .int .i64 (0 : Int), .int .i64 (0 : Int), .int .i64 (0 : Int), .int .i64 (0 : Int), .slice none 0 0] 177) w3 fun s_ w4 =>
      Sts [.int .i64 r89_0_0, .int .i64 r89_0_1, .int .i64 r89_0_2, .int .i64 r89_0_3, .int .i64 r89_0_4, .int .i64 r89_0_5, .slice r89_0_6_b r89_0_6_l r89_0_6_c] ⟨s_, 0, none⟩ 0 w4 fun w5 =>
      Bm (r89_1 != (0 : Int)) (
        Pn h0 fun a_4 =>
        (0 ≤ (4 : Int) ∧ (4 : Int) < ((8 : Nat) : Int)) ∧
        LdI .i64 ((a_4.add 3).add 4) w5.drew fun x98 =>
        Pn h0 fun a_5 =>
        (0 ≤ (4 : Int) ∧ (4 : Int) < ((8 : Nat) : Int)) ∧
        Sts [.int .i64 (IntKind.i64.wrap (x98 + (1 : Int)))] ((a_5.add 3).add 4) 0 w5.drew fun w6 =>
        R out_b out_l out_c w6) (
        Pn h0 fun a_6 =>
        LdP (a_6.add 17) w5.drew fun x107 =>
        LdI .i64 ⟨s_, 1, none⟩ w5.drew fun x109 =>
        LdI .i64 ⟨d, 0, none⟩ w5.drew fun x111 =>
        LdI .i64 ⟨s_, 0, none⟩ w5.drew fun x113 =>
        sock_Table_Lookup.Call x107 x109 x111 x113 w5.drew fun r114 w7 =>
        Bm (r114 != (0 : Int)) (
          LdI .i64 ⟨s_, 0, none⟩ w7 fun x120_0 =>
          LdI .i64 ⟨s_, 1, none⟩ w7 fun x120_1 =>
          LdI .i64 ⟨s_, 2, none⟩ w7 fun x120_2 =>
          LdI .i64 ⟨s_, 3, none⟩ w7 fun x120_3 =>
          LdI .i64 ⟨s_, 4, none⟩ w7 fun x120_4 =>
          LdI .i64 ⟨s_, 5, none⟩ w7 fun x120_5 =>
          LdL ⟨s_, 6, none⟩ w7 fun x120_6_b x120_6_l x120_6_c =>
          host_Host_toRow.Call h0 out_b out_l out_c r114 x120_0 x120_1 x120_2 x120_3 x120_4 x120_5 x120_6_b x120_6_l x120_6_c w7 fun r121_b r121_l r121_c w8 =>
          R r121_b r121_l r121_c w8) (
          LdI .i64 ⟨s_, 4, none⟩ w7 fun x123 =>
          Bm (x123 == (1 : Int)) (
            Pn h0 fun a_7 =>
            LdP (a_7.add 17) w7.drew fun x128 =>
            LdI .i64 ⟨s_, 1, none⟩ w7.drew fun x130 =>
            sock_Table_Listener.Call x128 x130 w7.drew fun r131 w9 =>
            Bm (r131 != (0 : Int)) (
              LdI .i64 ⟨d, 0, none⟩ w9 fun x136 =>
              LdI .i64 ⟨s_, 0, none⟩ w9 fun x137_0 =>
              LdI .i64 ⟨s_, 1, none⟩ w9 fun x137_1 =>
              LdI .i64 ⟨s_, 2, none⟩ w9 fun x137_2 =>
              LdI .i64 ⟨s_, 3, none⟩ w9 fun x137_3 =>
              LdI .i64 ⟨s_, 4, none⟩ w9 fun x137_4 =>
              LdI .i64 ⟨s_, 5, none⟩ w9 fun x137_5 =>
              LdL ⟨s_, 6, none⟩ w9 fun x137_6_b x137_6_l x137_6_c =>
              host_Host_toListener.Call h0 out_b out_l out_c x136 x137_0 x137_1 x137_2 x137_3 x137_4 x137_5 x137_6_b x137_6_l x137_6_c w9 fun r138_b r138_l r138_c w10 =>
              R r138_b r138_l r138_c w10) (
              sB2 h0 out_b out_l out_c d s_ w9)) (
            sB2 h0 out_b out_l out_c d s_ w7)))))) = kstep Tryz.prog 170 Tryz.f78.results.toList (Tryz.f78.body.getD .skip) (host_Host_Input.RV R) (kvc Tryz.prog 170 Tryz.f78.results.toList (Tryz.f78.body.getD .skip) (host_Host_Input.RV R) [([(0, [1, 1, 1, 1, 1, 1, 1, 1, 1, 1, 1, 1, 1])], fun σ w => dP (slotOf σ 0) fun h0_ => dL (slotOf σ 5) fun out_b_ out_l_ out_c_ => dK (slotOf σ 8) fun d_ => dK (slotOf σ 9) fun s_ => sB2 h0_ out_b_ out_l_ out_c_ d_ s_ w)] 2000) [(0, [1, 1, 1, 1, 1, 1])] [(0, .pointer h0), (5, .slice out_b out_l out_c), (7, .int .i64 e), (8, .pointer (some ⟨d, 0, none⟩))] w := by kernel_rfl
theorem host_Host_Input.B1_sound {R : Option Addr → Nat → Nat → World → Prop}  (h0 out_b : Option Addr) (out_l out_c : Nat) (e : Int) (d : Nat) (w : World) (h : host_Host_Input.B1 h0 out_b out_l out_c e d w   R) :
    KW Tryz.prog 78 170 (host_Host_Input.RV R) ([(0, [1, 1, 1, 1, 1, 1])].map (toItem (Tryz.f78.body.getD .skip))) [(0, .pointer h0), (5, .slice out_b out_l out_c), (7, .int .i64 e), (8, .pointer (some ⟨d, 0, none⟩))] w := by
  exact block_spec Tryz.func78 Tryz.mixed (stops_cons (fun σ w h => by
      obtain ⟨h0_, e0, h⟩ := dP_elim h
      obtain ⟨out_b_, out_l_, out_c_, e1, h⟩ := dL_elim h
      obtain ⟨d_, e2, h⟩ := dK_elim h
      obtain ⟨s_, e3, h⟩ := dK_elim h
      exact (host_Host_Input.B2_sound  h0_ out_b_ out_l_ out_c_ d_ s_ w h).weaken (Sub.cons (Sub.cons (Sub.cons (Sub.cons (Sub.nil _) e3) e2) e1) e0)) stops_nil) (Eq.mp (host_Host_Input.B1_eq h0 out_b out_l out_c e d w   R (fun h0_ out_b_ out_l_ out_c_ d_ s_ w => host_Host_Input.B2 h0_ out_b_ out_l_ out_c_ d_ s_ w  R)) h)
def host_Host_Input.B0 (h0 raw_b : Option Addr) (raw_l raw_c : Nat) (w : World)   (R : Option Addr → Nat → Nat → World → Prop) : Prop :=
  New (.cells #[] 81) w fun b12 w1 =>
  Pn h0 fun a =>
  LdP (a.add 11) w1 fun x17 =>
  frame_Link_Decode.Call x17 raw_b raw_l raw_c w1 fun r19_0_0 r19_0_1 r19_0_2 r19_0_3_b r19_0_3_l r19_0_3_c r19_1 w2 =>
  New (.cells #[.int .i64 (0 : Int), .int .i64 (0 : Int), .int .i64 (0 : Int), .slice none 0 0] 169) w2 fun f_ w3 =>
  Sts [.int .i64 r19_0_0, .int .i64 r19_0_1, .int .i64 r19_0_2, .slice r19_0_3_b r19_0_3_l r19_0_3_c] ⟨f_, 0, none⟩ 0 w3 fun w4 =>
  Bm (r19_1 != (0 : Int)) (
    Pn h0 fun a_1 =>
    (0 ≤ (0 : Int) ∧ (0 : Int) < ((8 : Nat) : Int)) ∧
    LdI .i64 (a_1.add 3) w4.drew fun x28 =>
    Pn h0 fun a_2 =>
    (0 ≤ (0 : Int) ∧ (0 : Int) < ((8 : Nat) : Int)) ∧
    Sts [.int .i64 (IntKind.i64.wrap (x28 + (1 : Int)))] (a_2.add 3) 0 w4.drew fun w5 =>
    R (some ⟨b12, 0, none⟩) 0 0 w5) (
    LdI .i64 ⟨f_, 2, none⟩ w4 fun x35 =>
    Bm (x35 != (1 : Int)) (
      Pn h0 fun a_3 =>
      (0 ≤ (1 : Int) ∧ (1 : Int) < ((8 : Nat) : Int)) ∧
      LdI .i64 ((a_3.add 3).add 1) w4.drew fun x41 =>
      Pn h0 fun a_4 =>
      (0 ≤ (1 : Int) ∧ (1 : Int) < ((8 : Nat) : Int)) ∧
      Sts [.int .i64 (IntKind.i64.wrap (x41 + (1 : Int)))] ((a_4.add 3).add 1) 0 w4.drew fun w6 =>
      R (some ⟨b12, 0, none⟩) 0 0 w6) (
      Pn h0 fun a_5 =>
      LdP (a_5.add 12) w4.drew fun x51 =>
      LdL ⟨f_, 3, none⟩ w4.drew fun x53_b x53_l x53_c =>
      ((
        ip_IP_Input.Call x51 x53_b x53_l x53_c w4.drew fun r54_0_0 r54_0_1 r54_0_2 r54_0_3_b r54_0_3_l r54_0_3_c r54_1 w7 =>
        New (.cells #[.int .i64 (0 : Int), .int .i64 (0 : Int), .int .i64 (0 : Int), .slice none 0 0] 173) w7 fun d_ w8 =>
        Sts [.int .i64 r54_0_0, .int .i64 r54_0_1, .int .i64 r54_0_2, .slice r54_0_3_b r54_0_3_l r54_0_3_c] ⟨d_, 0, none⟩ 0 w8 fun w9 =>
        host_Host_Input.B1 h0 (some ⟨b12, 0, none⟩) 0 0 r54_1 d_ w9  R) ∧ (
        New (.cells #[.int .i64 (0 : Int), .int .i64 (0 : Int), .int .i64 (0 : Int), .slice none 0 0] 173) w4.drew fun d__1 w10 =>
        w10.cell? ⟨f_, 3, none⟩ = some (.slice x53_b x53_l x53_c) ∧
        w10.cell? (a_5.add 12) = some (.pointer x51) ∧
        ip_IP_Input.Call x51 x53_b x53_l x53_c w10 fun r54_0_0_1 r54_0_1_1 r54_0_2_1 r54_0_3_b_1 r54_0_3_l_1 r54_0_3_c_1 r54_1_1 w11 =>
        Sts [.int .i64 r54_0_0_1, .int .i64 r54_0_1_1, .int .i64 r54_0_2_1, .slice r54_0_3_b_1 r54_0_3_l_1 r54_0_3_c_1] ⟨d__1, 0, none⟩ 0 w11 fun w12 =>
        host_Host_Input.B1 h0 (some ⟨b12, 0, none⟩) 0 0 r54_1_1 d__1 w12  R))))
theorem host_Host_Input.B0_eq (h0 raw_b : Option Addr) (raw_l raw_c : Nat) (w : World)   (R : Option Addr → Nat → Nat → World → Prop) (sB1 : Option Addr → Option Addr → Nat → Nat → Int → Nat → World → Prop) :
    (
  New (.cells #[] 81) w fun b12 w1 =>
  Pn h0 fun a =>
  LdP (a.add 11) w1 fun x17 =>
  frame_Link_Decode.Call x17 raw_b raw_l raw_c w1 fun r19_0_0 r19_0_1 r19_0_2 r19_0_3_b r19_0_3_l r19_0_3_c r19_1 w2 =>
  New (.cells #[.int .i64 (0 : Int), .int .i64 (0 : Int), .int .i64 (0 : Int), .slice none 0 0] 169) w2 fun f_ w3 =>
  Sts [.int .i64 r19_0_0, .int .i64 r19_0_1, .int .i64 r19_0_2, .slice r19_0_3_b r19_0_3_l r19_0_3_c] ⟨f_, 0, none⟩ 0 w3 fun w4 =>
  Bm (r19_1 != (0 : Int)) (
    Pn h0 fun a_1 =>
    (0 ≤ (0 : Int) ∧ (0 : Int) < ((8 : Nat) : Int)) ∧
    LdI .i64 (a_1.add 3) w4.drew fun x28 =>
    Pn h0 fun a_2 =>
    (0 ≤ (0 : Int) ∧ (0 : Int) < ((8 : Nat) : Int)) ∧
    Sts [.int .i64 (IntKind.i64.wrap (x28 + (1 : Int)))] (a_2.add 3) 0 w4.drew fun w5 =>
    R (some ⟨b12, 0, none⟩) 0 0 w5) (
    LdI .i64 ⟨f_, 2, none⟩ w4 fun x35 =>
    Bm (x35 != (1 : Int)) (
      Pn h0 fun a_3 =>
      (0 ≤ (1 : Int) ∧ (1 : Int) < ((8 : Nat) : Int)) ∧
      LdI .i64 ((a_3.add 3).add 1) w4.drew fun x41 =>
      Pn h0 fun a_4 =>
      (0 ≤ (1 : Int) ∧ (1 : Int) < ((8 : Nat) : Int)) ∧
      Sts [.int .i64 (IntKind.i64.wrap (x41 + (1 : Int)))] ((a_4.add 3).add 1) 0 w4.drew fun w6 =>
      R (some ⟨b12, 0, none⟩) 0 0 w6) (
      Pn h0 fun a_5 =>
      LdP (a_5.add 12) w4.drew fun x51 =>
      LdL ⟨f_, 3, none⟩ w4.drew fun x53_b x53_l x53_c =>
      ((
        ip_IP_Input.Call x51 x53_b x53_l x53_c w4.drew fun r54_0_0 r54_0_1 r54_0_2 r54_0_3_b r54_0_3_l r54_0_3_c r54_1 w7 =>
        New (.cells #[.int .i64 (0 : Int), .int .i64 (0 : Int), .int .i64 (0 : Int), .slice none 0 0] 173) w7 fun d_ w8 =>
        Sts [.int .i64 r54_0_0, .int .i64 r54_0_1, .int .i64 r54_0_2, .slice r54_0_3_b r54_0_3_l r54_0_3_c] ⟨d_, 0, none⟩ 0 w8 fun w9 =>
        sB1 h0 (some ⟨b12, 0, none⟩) 0 0 r54_1 d_ w9) ∧ (
        New (.cells #[.int .i64 (0 : Int), .int .i64 (0 : Int), .int .i64 (0 : Int), .slice none 0 0] 173) w4.drew fun d__1 w10 =>
        w10.cell? ⟨f_, 3, none⟩ = some (.slice x53_b x53_l x53_c) ∧
        w10.cell? (a_5.add 12) = some (.pointer x51) ∧
        ip_IP_Input.Call x51 x53_b x53_l x53_c w10 fun r54_0_0_1 r54_0_1_1 r54_0_2_1 r54_0_3_b_1 r54_0_3_l_1 r54_0_3_c_1 r54_1_1 w11 =>
        Sts [.int .i64 r54_0_0_1, .int .i64 r54_0_1_1, .int .i64 r54_0_2_1, .slice r54_0_3_b_1 r54_0_3_l_1 r54_0_3_c_1] ⟨d__1, 0, none⟩ 0 w11 fun w12 =>
        sB1 h0 (some ⟨b12, 0, none⟩) 0 0 r54_1_1 d__1 w12))))) = kstep Tryz.prog 170 Tryz.f78.results.toList (Tryz.f78.body.getD .skip) (host_Host_Input.RV R) (kvc Tryz.prog 170 Tryz.f78.results.toList (Tryz.f78.body.getD .skip) (host_Host_Input.RV R) [([(0, [1, 1, 1, 1, 1, 1])], fun σ w => dP (slotOf σ 0) fun h0_ => dL (slotOf σ 5) fun out_b_ out_l_ out_c_ => dI .i64 (slotOf σ 7) fun e_ => dK (slotOf σ 8) fun d_ => sB1 h0_ out_b_ out_l_ out_c_ e_ d_ w)] 2000) [(0, [])] [(0, .pointer h0), (1, .slice raw_b raw_l raw_c)] w := by kernel_rfl
theorem host_Host_Input.B0_sound {R : Option Addr → Nat → Nat → World → Prop}  (h0 raw_b : Option Addr) (raw_l raw_c : Nat) (w : World) (h : host_Host_Input.B0 h0 raw_b raw_l raw_c w   R) :
    KW Tryz.prog 78 170 (host_Host_Input.RV R) ([(0, [])].map (toItem (Tryz.f78.body.getD .skip))) [(0, .pointer h0), (1, .slice raw_b raw_l raw_c)] w := by
  exact block_spec Tryz.func78 Tryz.mixed (stops_cons (fun σ w h => by
      obtain ⟨h0_, e0, h⟩ := dP_elim h
      obtain ⟨out_b_, out_l_, out_c_, e1, h⟩ := dL_elim h
      obtain ⟨e_, e2, h⟩ := dI_elim h
      obtain ⟨d_, e3, h⟩ := dK_elim h
      exact (host_Host_Input.B1_sound  h0_ out_b_ out_l_ out_c_ e_ d_ w h).weaken (Sub.cons (Sub.cons (Sub.cons (Sub.cons (Sub.nil _) e3) e2) e1) e0)) stops_nil) (Eq.mp (host_Host_Input.B0_eq h0 raw_b raw_l raw_c w   R (fun h0_ out_b_ out_l_ out_c_ e_ d_ w => host_Host_Input.B1 h0_ out_b_ out_l_ out_c_ e_ d_ w  R)) h)
theorem host_Host_Input.sound (h0 raw_b : Option Addr) (raw_l raw_c : Nat) (w : World) (R : Option Addr → Nat → Nat → World → Prop) (h : host_Host_Input.B0 h0 raw_b raw_l raw_c w R) : host_Host_Input.Call h0 raw_b raw_l raw_c w R := by
  have hc := calls_of_block (args := #[.pointer h0, .slice raw_b raw_l raw_c]) Tryz.func78 (body := (Tryz.f78.body.getD .skip)) (by kernel_rfl) (by kernel_rfl) (args_slot _) (host_Host_Input.B0_sound h0 raw_b raw_l raw_c w h)
  exact hc.mono fun e w' he => by
    obtain ⟨v, rfl, hv⟩ := he
    exact host_Host_Input.RV_elim hv
def hostlaw_Scribble.L1b (b_b : Option Addr) (b_l b_c : Nat) (i : Int) (w : World)  (N1 : Option Addr → Nat → Nat → Int → World → Prop) (R : World → Prop) : Prop :=
  Bm (decide (i < ((b_l : Nat) : Int))) (
    Pn b_b fun a =>
    (0 ≤ i ∧ i < ((b_l : Nat) : Int)) ∧
    LdI .u8 (Addr.add a (i.toNat * 1)) w fun x12 =>
    Pn b_b fun a_1 =>
    (0 ≤ i ∧ i < ((b_l : Nat) : Int)) ∧
    Sts [.int .u8 (IntKind.u8.wrap (BitVec.ofInt IntKind.u8.bits x12 ^^^ BitVec.ofInt IntKind.u8.bits (255 : Int)).toNat)] (Addr.add a_1 (i.toNat * 1)) 0 w fun w1 =>
    N1 b_b b_l b_c (IntKind.i64.wrap (i + (1 : Int))) w1) (
    R  w)
theorem hostlaw_Scribble.L1b_eq (b_b : Option Addr) (b_l b_c : Nat) (i : Int) (w : World)  (N1 : Option Addr → Nat → Nat → Int → World → Prop) (R : World → Prop)  :
    (
  Bm (decide (i < ((b_l : Nat) : Int))) (
    Pn b_b fun a =>
    (0 ≤ i ∧ i < ((b_l : Nat) : Int)) ∧
    LdI .u8 (Addr.add a (i.toNat * 1)) w fun x12 =>
    Pn b_b fun a_1 =>
    (0 ≤ i ∧ i < ((b_l : Nat) : Int)) ∧
    Sts [.int .u8 (IntKind.u8.wrap (BitVec.ofInt IntKind.u8.bits x12 ^^^ BitVec.ofInt IntKind.u8.bits (255 : Int)).toNat)] (Addr.add a_1 (i.toNat * 1)) 0 w fun w1 =>
    N1 b_b b_l b_c (IntKind.i64.wrap (i + (1 : Int))) w1) (
    R  w)) = kstep Tryz.prog 15 Tryz.f79.results.toList (Tryz.f79.body.getD .skip) (hostlaw_Scribble.RV R) (kvc Tryz.prog 15 Tryz.f79.results.toList (Tryz.f79.body.getD .skip) (hostlaw_Scribble.RV R) [([(0, [1, 0, 0]), (2, [1, 0, 0]), (1, [0])], fun σ w => dL (slotOf σ 0) fun b_b_ b_l_ b_c_ => dI .i64 (slotOf σ 2) fun i_ => N1 b_b_ b_l_ b_c_ i_ w)] 2000) [(0, [1, 0, 0]), (2, [1, 0, 0]), (1, [0])] [(0, .slice b_b b_l b_c), (2, .int .i64 i)] w := by kernel_rfl
theorem hostlaw_Scribble.L1b_sound {R : World → Prop} {N1 : Option Addr → Nat → Nat → Int → World → Prop} (hN1 : ∀ b_b b_l b_c i w, N1 b_b b_l b_c i w → KW Tryz.prog 79 15 (hostlaw_Scribble.RV R) ([(0, [1, 0, 0]), (2, [1, 0, 0]), (1, [0])].map (toItem (Tryz.f79.body.getD .skip))) [(0, .slice b_b b_l b_c), (2, .int .i64 i)] w) (b_b : Option Addr) (b_l b_c : Nat) (i : Int) (w : World) (h : hostlaw_Scribble.L1b b_b b_l b_c i w  N1 R) :
    KW Tryz.prog 79 15 (hostlaw_Scribble.RV R) ([(0, [1, 0, 0]), (2, [1, 0, 0]), (1, [0])].map (toItem (Tryz.f79.body.getD .skip))) [(0, .slice b_b b_l b_c), (2, .int .i64 i)] w := by
  exact block_spec Tryz.func79 Tryz.mixed (stops_cons (fun σ w h => by
      obtain ⟨b_b_, b_l_, b_c_, e0, h⟩ := dL_elim h
      obtain ⟨i_, e1, h⟩ := dI_elim h
      exact (hN1 b_b_ b_l_ b_c_ i_ w h).weaken (Sub.cons (Sub.cons (Sub.nil _) e1) e0)) stops_nil) (Eq.mp (hostlaw_Scribble.L1b_eq b_b b_l b_c i w  N1 R ) h)
def hostlaw_Scribble.L1 (b_b : Option Addr) (b_l b_c : Nat) (i : Int) (w : World)  (R : World → Prop) : Prop :=
  ∃ (I : Nat → Option Addr → Nat → Nat → Int → World → Prop) (m : Nat), I m b_b b_l b_c i w ∧ ∀ m b_b b_l b_c i w, I m b_b b_l b_c i w → hostlaw_Scribble.L1b b_b b_l b_c i w  (fun b_b' b_l' b_c' i' w' => ∃ m', m' < m ∧ I m' b_b' b_l' b_c' i' w') R
theorem hostlaw_Scribble.L1_sound {R : World → Prop}  (b_b : Option Addr) (b_l b_c : Nat) (i : Int) (w : World) (h : hostlaw_Scribble.L1 b_b b_l b_c i w  R) :
    KW Tryz.prog 79 15 (hostlaw_Scribble.RV R) ([(0, [1, 0, 0]), (2, [1, 0, 0]), (1, [0])].map (toItem (Tryz.f79.body.getD .skip))) [(0, .slice b_b b_l b_c), (2, .int .i64 i)] w := by
  obtain ⟨I, m, hBase, hr⟩ := h
  refine KW.loop (fun m σ w => ∃ (b_b : Option Addr) (b_l b_c : Nat) (i : Int), σ = [(0, .slice b_b b_l b_c), (2, .int .i64 i)] ∧ I m b_b b_l b_c i w) ?_ m _ w ⟨b_b, b_l, b_c, i, rfl, hBase⟩
  rintro m ih σ w ⟨b_b, b_l, b_c, i, rfl, hI⟩
  exact hostlaw_Scribble.L1b_sound  (N1 := fun b_b' b_l' b_c' i' w' => ∃ m', m' < m ∧ I m' b_b' b_l' b_c' i' w') (fun b_b' b_l' b_c' i' w' hx => by obtain ⟨m', hlt, hI'⟩ := hx; exact ih m' hlt _ w' ⟨b_b', b_l', b_c', i', rfl, hI'⟩) b_b b_l b_c i w (hr m b_b b_l b_c i w hI)
def hostlaw_Scribble.B0 (b_b : Option Addr) (b_l b_c : Nat) (w : World)   (R : World → Prop) : Prop :=
  hostlaw_Scribble.L1 b_b b_l b_c (0 : Int) w  R
theorem hostlaw_Scribble.B0_eq (b_b : Option Addr) (b_l b_c : Nat) (w : World)   (R : World → Prop) (sL1 : Option Addr → Nat → Nat → Int → World → Prop) :
    (
  sL1 b_b b_l b_c (0 : Int) w) = kstep Tryz.prog 15 Tryz.f79.results.toList (Tryz.f79.body.getD .skip) (hostlaw_Scribble.RV R) (kvc Tryz.prog 15 Tryz.f79.results.toList (Tryz.f79.body.getD .skip) (hostlaw_Scribble.RV R) [([(0, [1, 0, 0]), (2, [1, 0, 0]), (1, [0])], fun σ w => dL (slotOf σ 0) fun b_b_ b_l_ b_c_ => dI .i64 (slotOf σ 2) fun i_ => sL1 b_b_ b_l_ b_c_ i_ w)] 2000) [(0, [])] [(0, .slice b_b b_l b_c)] w := by kernel_rfl
theorem hostlaw_Scribble.B0_sound {R : World → Prop}  (b_b : Option Addr) (b_l b_c : Nat) (w : World) (h : hostlaw_Scribble.B0 b_b b_l b_c w   R) :
    KW Tryz.prog 79 15 (hostlaw_Scribble.RV R) ([(0, [])].map (toItem (Tryz.f79.body.getD .skip))) [(0, .slice b_b b_l b_c)] w := by
  exact block_spec Tryz.func79 Tryz.mixed (stops_cons (fun σ w h => by
      obtain ⟨b_b_, b_l_, b_c_, e0, h⟩ := dL_elim h
      obtain ⟨i_, e1, h⟩ := dI_elim h
      exact (hostlaw_Scribble.L1_sound  b_b_ b_l_ b_c_ i_ w h).weaken (Sub.cons (Sub.cons (Sub.nil _) e1) e0)) stops_nil) (Eq.mp (hostlaw_Scribble.B0_eq b_b b_l b_c w   R (fun b_b_ b_l_ b_c_ i_ w => hostlaw_Scribble.L1 b_b_ b_l_ b_c_ i_ w  R)) h)
theorem hostlaw_Scribble.sound (b_b : Option Addr) (b_l b_c : Nat) (w : World) (R : World → Prop) (h : hostlaw_Scribble.B0 b_b b_l b_c w R) : hostlaw_Scribble.Call b_b b_l b_c w R := by
  have hc := calls_of_block (args := #[.slice b_b b_l b_c]) Tryz.func79 (body := (Tryz.f79.body.getD .skip)) (by kernel_rfl) (by kernel_rfl) (args_slot _) (hostlaw_Scribble.B0_sound b_b b_l b_c w h)
  exact hc.mono fun e w' he => by
    obtain ⟨v, rfl, hv⟩ := he
    exact hostlaw_Scribble.RV_elim hv
def hostlaw_SameFrames.L1b (a_b : Option Addr) (a_l a_c : Nat) (b_b : Option Addr) (b_l b_c : Nat) (i : Int) (w : World)  (N1 : Option Addr → Nat → Nat → Option Addr → Nat → Nat → Int → World → Prop) (R : Bool → World → Prop) : Prop :=
  Bm (decide (i < ((a_l : Nat) : Int))) (
    Pn a_b fun a =>
    (0 ≤ i ∧ i < ((a_l : Nat) : Int)) ∧
    LdL (Addr.add a (i.toNat * 1)) w.drew fun x20_b x20_l x20_c =>
    Pn b_b fun a_1 =>
    (0 ≤ i ∧ i < ((b_l : Nat) : Int)) ∧
    LdL (Addr.add a_1 (i.toNat * 1)) w.drew fun x24_b x24_l x24_c =>
    api_SameBytes.Call x20_b x20_l x20_c x24_b x24_l x24_c w.drew fun r25 w1 =>
    Bm (!r25) (
      R false w1) (
      N1 a_b a_l a_c b_b b_l b_c (IntKind.i64.wrap (i + (1 : Int))) w1)) (
    R true w)
theorem hostlaw_SameFrames.L1b_eq (a_b : Option Addr) (a_l a_c : Nat) (b_b : Option Addr) (b_l b_c : Nat) (i : Int) (w : World)  (N1 : Option Addr → Nat → Nat → Option Addr → Nat → Nat → Int → World → Prop) (R : Bool → World → Prop)  :
    (
  Bm (decide (i < ((a_l : Nat) : Int))) (
    Pn a_b fun a =>
    (0 ≤ i ∧ i < ((a_l : Nat) : Int)) ∧
    LdL (Addr.add a (i.toNat * 1)) w.drew fun x20_b x20_l x20_c =>
    Pn b_b fun a_1 =>
    (0 ≤ i ∧ i < ((b_l : Nat) : Int)) ∧
    LdL (Addr.add a_1 (i.toNat * 1)) w.drew fun x24_b x24_l x24_c =>
    api_SameBytes.Call x20_b x20_l x20_c x24_b x24_l x24_c w.drew fun r25 w1 =>
    Bm (!r25) (
      R false w1) (
      N1 a_b a_l a_c b_b b_l b_c (IntKind.i64.wrap (i + (1 : Int))) w1)) (
    R true w)) = kstep Tryz.prog 27 Tryz.f80.results.toList (Tryz.f80.body.getD .skip) (hostlaw_SameFrames.RV R) (kvc Tryz.prog 27 Tryz.f80.results.toList (Tryz.f80.body.getD .skip) (hostlaw_SameFrames.RV R) [([(0, [1, 1, 0, 1, 0, 0]), (2, [1, 1, 0, 1, 0, 0]), (1, [0]), (0, [1, 1, 1])], fun σ w => dL (slotOf σ 0) fun a_b_ a_l_ a_c_ => dL (slotOf σ 1) fun b_b_ b_l_ b_c_ => dI .i64 (slotOf σ 5) fun i_ => N1 a_b_ a_l_ a_c_ b_b_ b_l_ b_c_ i_ w)] 2000) [(0, [1, 1, 0, 1, 0, 0]), (2, [1, 1, 0, 1, 0, 0]), (1, [0]), (0, [1, 1, 1])] [(0, .slice a_b a_l a_c), (1, .slice b_b b_l b_c), (5, .int .i64 i)] w := by kernel_rfl
theorem hostlaw_SameFrames.L1b_sound {R : Bool → World → Prop} {N1 : Option Addr → Nat → Nat → Option Addr → Nat → Nat → Int → World → Prop} (hN1 : ∀ a_b a_l a_c b_b b_l b_c i w, N1 a_b a_l a_c b_b b_l b_c i w → KW Tryz.prog 80 27 (hostlaw_SameFrames.RV R) ([(0, [1, 1, 0, 1, 0, 0]), (2, [1, 1, 0, 1, 0, 0]), (1, [0]), (0, [1, 1, 1])].map (toItem (Tryz.f80.body.getD .skip))) [(0, .slice a_b a_l a_c), (1, .slice b_b b_l b_c), (5, .int .i64 i)] w) (a_b : Option Addr) (a_l a_c : Nat) (b_b : Option Addr) (b_l b_c : Nat) (i : Int) (w : World) (h : hostlaw_SameFrames.L1b a_b a_l a_c b_b b_l b_c i w  N1 R) :
    KW Tryz.prog 80 27 (hostlaw_SameFrames.RV R) ([(0, [1, 1, 0, 1, 0, 0]), (2, [1, 1, 0, 1, 0, 0]), (1, [0]), (0, [1, 1, 1])].map (toItem (Tryz.f80.body.getD .skip))) [(0, .slice a_b a_l a_c), (1, .slice b_b b_l b_c), (5, .int .i64 i)] w := by
  exact block_spec Tryz.func80 Tryz.mixed (stops_cons (fun σ w h => by
      obtain ⟨a_b_, a_l_, a_c_, e0, h⟩ := dL_elim h
      obtain ⟨b_b_, b_l_, b_c_, e1, h⟩ := dL_elim h
      obtain ⟨i_, e2, h⟩ := dI_elim h
      exact (hN1 a_b_ a_l_ a_c_ b_b_ b_l_ b_c_ i_ w h).weaken (Sub.cons (Sub.cons (Sub.cons (Sub.nil _) e2) e1) e0)) stops_nil) (Eq.mp (hostlaw_SameFrames.L1b_eq a_b a_l a_c b_b b_l b_c i w  N1 R ) h)
def hostlaw_SameFrames.L1 (a_b : Option Addr) (a_l a_c : Nat) (b_b : Option Addr) (b_l b_c : Nat) (i : Int) (w : World)  (R : Bool → World → Prop) : Prop :=
  ∃ (I : Nat → Option Addr → Nat → Nat → Option Addr → Nat → Nat → Int → World → Prop) (m : Nat), I m a_b a_l a_c b_b b_l b_c i w ∧ ∀ m a_b a_l a_c b_b b_l b_c i w, I m a_b a_l a_c b_b b_l b_c i w → hostlaw_SameFrames.L1b a_b a_l a_c b_b b_l b_c i w  (fun a_b' a_l' a_c' b_b' b_l' b_c' i' w' => ∃ m', m' < m ∧ I m' a_b' a_l' a_c' b_b' b_l' b_c' i' w') R
theorem hostlaw_SameFrames.L1_sound {R : Bool → World → Prop}  (a_b : Option Addr) (a_l a_c : Nat) (b_b : Option Addr) (b_l b_c : Nat) (i : Int) (w : World) (h : hostlaw_SameFrames.L1 a_b a_l a_c b_b b_l b_c i w  R) :
    KW Tryz.prog 80 27 (hostlaw_SameFrames.RV R) ([(0, [1, 1, 0, 1, 0, 0]), (2, [1, 1, 0, 1, 0, 0]), (1, [0]), (0, [1, 1, 1])].map (toItem (Tryz.f80.body.getD .skip))) [(0, .slice a_b a_l a_c), (1, .slice b_b b_l b_c), (5, .int .i64 i)] w := by
  obtain ⟨I, m, hBase, hr⟩ := h
  refine KW.loop (fun m σ w => ∃ (a_b : Option Addr) (a_l a_c : Nat) (b_b : Option Addr) (b_l b_c : Nat) (i : Int), σ = [(0, .slice a_b a_l a_c), (1, .slice b_b b_l b_c), (5, .int .i64 i)] ∧ I m a_b a_l a_c b_b b_l b_c i w) ?_ m _ w ⟨a_b, a_l, a_c, b_b, b_l, b_c, i, rfl, hBase⟩
  rintro m ih σ w ⟨a_b, a_l, a_c, b_b, b_l, b_c, i, rfl, hI⟩
  exact hostlaw_SameFrames.L1b_sound  (N1 := fun a_b' a_l' a_c' b_b' b_l' b_c' i' w' => ∃ m', m' < m ∧ I m' a_b' a_l' a_c' b_b' b_l' b_c' i' w') (fun a_b' a_l' a_c' b_b' b_l' b_c' i' w' hx => by obtain ⟨m', hlt, hI'⟩ := hx; exact ih m' hlt _ w' ⟨a_b', a_l', a_c', b_b', b_l', b_c', i', rfl, hI'⟩) a_b a_l a_c b_b b_l b_c i w (hr m a_b a_l a_c b_b b_l b_c i w hI)
def hostlaw_SameFrames.B0 (a_b : Option Addr) (a_l a_c : Nat) (b_b : Option Addr) (b_l b_c : Nat) (w : World)   (R : Bool → World → Prop) : Prop :=
  Bm (((a_l : Nat) : Int) != ((b_l : Nat) : Int)) (
    R false w) (
    hostlaw_SameFrames.L1 a_b a_l a_c b_b b_l b_c (0 : Int) w  R)
theorem hostlaw_SameFrames.B0_eq (a_b : Option Addr) (a_l a_c : Nat) (b_b : Option Addr) (b_l b_c : Nat) (w : World)   (R : Bool → World → Prop) (sL1 : Option Addr → Nat → Nat → Option Addr → Nat → Nat → Int → World → Prop) :
    (
  Bm (((a_l : Nat) : Int) != ((b_l : Nat) : Int)) (
    R false w) (
    sL1 a_b a_l a_c b_b b_l b_c (0 : Int) w)) = kstep Tryz.prog 27 Tryz.f80.results.toList (Tryz.f80.body.getD .skip) (hostlaw_SameFrames.RV R) (kvc Tryz.prog 27 Tryz.f80.results.toList (Tryz.f80.body.getD .skip) (hostlaw_SameFrames.RV R) [([(0, [1, 1, 0, 1, 0, 0]), (2, [1, 1, 0, 1, 0, 0]), (1, [0]), (0, [1, 1, 1])], fun σ w => dL (slotOf σ 0) fun a_b_ a_l_ a_c_ => dL (slotOf σ 1) fun b_b_ b_l_ b_c_ => dI .i64 (slotOf σ 5) fun i_ => sL1 a_b_ a_l_ a_c_ b_b_ b_l_ b_c_ i_ w)] 2000) [(0, [])] [(0, .slice a_b a_l a_c), (1, .slice b_b b_l b_c)] w := by kernel_rfl
theorem hostlaw_SameFrames.B0_sound {R : Bool → World → Prop}  (a_b : Option Addr) (a_l a_c : Nat) (b_b : Option Addr) (b_l b_c : Nat) (w : World) (h : hostlaw_SameFrames.B0 a_b a_l a_c b_b b_l b_c w   R) :
    KW Tryz.prog 80 27 (hostlaw_SameFrames.RV R) ([(0, [])].map (toItem (Tryz.f80.body.getD .skip))) [(0, .slice a_b a_l a_c), (1, .slice b_b b_l b_c)] w := by
  exact block_spec Tryz.func80 Tryz.mixed (stops_cons (fun σ w h => by
      obtain ⟨a_b_, a_l_, a_c_, e0, h⟩ := dL_elim h
      obtain ⟨b_b_, b_l_, b_c_, e1, h⟩ := dL_elim h
      obtain ⟨i_, e2, h⟩ := dI_elim h
      exact (hostlaw_SameFrames.L1_sound  a_b_ a_l_ a_c_ b_b_ b_l_ b_c_ i_ w h).weaken (Sub.cons (Sub.cons (Sub.cons (Sub.nil _) e2) e1) e0)) stops_nil) (Eq.mp (hostlaw_SameFrames.B0_eq a_b a_l a_c b_b b_l b_c w   R (fun a_b_ a_l_ a_c_ b_b_ b_l_ b_c_ i_ w => hostlaw_SameFrames.L1 a_b_ a_l_ a_c_ b_b_ b_l_ b_c_ i_ w  R)) h)
theorem hostlaw_SameFrames.sound (a_b : Option Addr) (a_l a_c : Nat) (b_b : Option Addr) (b_l b_c : Nat) (w : World) (R : Bool → World → Prop) (h : hostlaw_SameFrames.B0 a_b a_l a_c b_b b_l b_c w R) : hostlaw_SameFrames.Call a_b a_l a_c b_b b_l b_c w R := by
  have hc := calls_of_block (args := #[.slice a_b a_l a_c, .slice b_b b_l b_c]) Tryz.func80 (body := (Tryz.f80.body.getD .skip)) (by kernel_rfl) (by kernel_rfl) (args_slot _) (hostlaw_SameFrames.B0_sound a_b a_l a_c b_b b_l b_c w h)
  exact hc.mono fun e w' he => by
    obtain ⟨v, rfl, hv⟩ := he
    exact hostlaw_SameFrames.RV_elim hv
def hostlaw_World_OwnAll.L2b (w0 fr_b : Option Addr) (fr_l fr_c : Nat) (token_b : Option Addr) (token_l token_c : Nat) (i : Int) (w : World)  (N2 : Option Addr → Option Addr → Nat → Nat → Option Addr → Nat → Nat → Int → World → Prop) (R : World → Prop) : Prop :=
  Bm (decide (i < ((fr_l : Nat) : Int))) (
    Pn fr_b fun a =>
    (0 ≤ i ∧ i < ((fr_l : Nat) : Int)) ∧
    Sts [.slice token_b token_l token_c] (Addr.add a (i.toNat * 1)) 0 w fun w1 =>
    N2 w0 fr_b fr_l fr_c token_b token_l token_c (IntKind.i64.wrap (i + (1 : Int))) w1) (
    Pn w0 fun a_1 =>
    LdL (a_1.add 48) w fun x46_b x46_l x46_c =>
    New (.cells #[.slice fr_b fr_l fr_c] 51) w fun b48 w2 =>
    Append 51 (.slice none 0 0) 1 24 x46_b x46_l x46_c (some ⟨b48, 0, none⟩) 1 w2 fun b49 c49 w3 =>
    Pn w0 fun a_2 =>
    Sts [.slice b49 (x46_l + 1) c49] (a_2.add 48) 0 w3 fun w4 =>
    R  w4)
theorem hostlaw_World_OwnAll.L2b_eq (w0 fr_b : Option Addr) (fr_l fr_c : Nat) (token_b : Option Addr) (token_l token_c : Nat) (i : Int) (w : World)  (N2 : Option Addr → Option Addr → Nat → Nat → Option Addr → Nat → Nat → Int → World → Prop) (R : World → Prop)  :
    (
  Bm (decide (i < ((fr_l : Nat) : Int))) (
    Pn fr_b fun a =>
    (0 ≤ i ∧ i < ((fr_l : Nat) : Int)) ∧
    Sts [.slice token_b token_l token_c] (Addr.add a (i.toNat * 1)) 0 w fun w1 =>
    N2 w0 fr_b fr_l fr_c token_b token_l token_c (IntKind.i64.wrap (i + (1 : Int))) w1) (
    Pn w0 fun a_1 =>
    LdL (a_1.add 48) w fun x46_b x46_l x46_c =>
    New (.cells #[.slice fr_b fr_l fr_c] 51) w fun b48 w2 =>
    Append 51 (.slice none 0 0) 1 24 x46_b x46_l x46_c (some ⟨b48, 0, none⟩) 1 w2 fun b49 c49 w3 =>
    Pn w0 fun a_2 =>
    Sts [.slice b49 (x46_l + 1) c49] (a_2.add 48) 0 w3 fun w4 =>
    R  w4)) = kstep Tryz.prog 54 Tryz.f81.results.toList (Tryz.f81.body.getD .skip) (hostlaw_World_OwnAll.RV R) (kvc Tryz.prog 54 Tryz.f81.results.toList (Tryz.f81.body.getD .skip) (hostlaw_World_OwnAll.RV R) [([(0, [1, 1, 1, 1, 0, 1, 0, 0]), (2, [1, 1, 1, 1, 0, 1, 0, 0]), (1, [2]), (0, [1, 1, 1, 1, 1])], fun σ w => dP (slotOf σ 0) fun w0_ => dL (slotOf σ 1) fun fr_b_ fr_l_ fr_c_ => dL (slotOf σ 5) fun token_b_ token_l_ token_c_ => dI .i64 (slotOf σ 6) fun i_ => N2 w0_ fr_b_ fr_l_ fr_c_ token_b_ token_l_ token_c_ i_ w)] 2000) [(0, [1, 1, 1, 1, 0, 1, 0, 0]), (2, [1, 1, 1, 1, 0, 1, 0, 0]), (1, [2]), (0, [1, 1, 1, 1, 1])] [(0, .pointer w0), (1, .slice fr_b fr_l fr_c), (5, .slice token_b token_l token_c), (6, .int .i64 i)] w := by kernel_rfl
theorem hostlaw_World_OwnAll.L2b_sound {R : World → Prop} {N2 : Option Addr → Option Addr → Nat → Nat → Option Addr → Nat → Nat → Int → World → Prop} (hN2 : ∀ w0 fr_b fr_l fr_c token_b token_l token_c i w, N2 w0 fr_b fr_l fr_c token_b token_l token_c i w → KW Tryz.prog 81 54 (hostlaw_World_OwnAll.RV R) ([(0, [1, 1, 1, 1, 0, 1, 0, 0]), (2, [1, 1, 1, 1, 0, 1, 0, 0]), (1, [2]), (0, [1, 1, 1, 1, 1])].map (toItem (Tryz.f81.body.getD .skip))) [(0, .pointer w0), (1, .slice fr_b fr_l fr_c), (5, .slice token_b token_l token_c), (6, .int .i64 i)] w) (w0 fr_b : Option Addr) (fr_l fr_c : Nat) (token_b : Option Addr) (token_l token_c : Nat) (i : Int) (w : World) (h : hostlaw_World_OwnAll.L2b w0 fr_b fr_l fr_c token_b token_l token_c i w  N2 R) :
    KW Tryz.prog 81 54 (hostlaw_World_OwnAll.RV R) ([(0, [1, 1, 1, 1, 0, 1, 0, 0]), (2, [1, 1, 1, 1, 0, 1, 0, 0]), (1, [2]), (0, [1, 1, 1, 1, 1])].map (toItem (Tryz.f81.body.getD .skip))) [(0, .pointer w0), (1, .slice fr_b fr_l fr_c), (5, .slice token_b token_l token_c), (6, .int .i64 i)] w := by
  exact block_spec Tryz.func81 Tryz.mixed (stops_cons (fun σ w h => by
      obtain ⟨w0_, e0, h⟩ := dP_elim h
      obtain ⟨fr_b_, fr_l_, fr_c_, e1, h⟩ := dL_elim h
      obtain ⟨token_b_, token_l_, token_c_, e2, h⟩ := dL_elim h
      obtain ⟨i_, e3, h⟩ := dI_elim h
      exact (hN2 w0_ fr_b_ fr_l_ fr_c_ token_b_ token_l_ token_c_ i_ w h).weaken (Sub.cons (Sub.cons (Sub.cons (Sub.cons (Sub.nil _) e3) e2) e1) e0)) stops_nil) (Eq.mp (hostlaw_World_OwnAll.L2b_eq w0 fr_b fr_l fr_c token_b token_l token_c i w  N2 R ) h)
def hostlaw_World_OwnAll.L2 (w0 fr_b : Option Addr) (fr_l fr_c : Nat) (token_b : Option Addr) (token_l token_c : Nat) (i : Int) (w : World)  (R : World → Prop) : Prop :=
  ∃ (I : Nat → Option Addr → Option Addr → Nat → Nat → Option Addr → Nat → Nat → Int → World → Prop) (m : Nat), I m w0 fr_b fr_l fr_c token_b token_l token_c i w ∧ ∀ m w0 fr_b fr_l fr_c token_b token_l token_c i w, I m w0 fr_b fr_l fr_c token_b token_l token_c i w → hostlaw_World_OwnAll.L2b w0 fr_b fr_l fr_c token_b token_l token_c i w  (fun w0' fr_b' fr_l' fr_c' token_b' token_l' token_c' i' w' => ∃ m', m' < m ∧ I m' w0' fr_b' fr_l' fr_c' token_b' token_l' token_c' i' w') R
theorem hostlaw_World_OwnAll.L2_sound {R : World → Prop}  (w0 fr_b : Option Addr) (fr_l fr_c : Nat) (token_b : Option Addr) (token_l token_c : Nat) (i : Int) (w : World) (h : hostlaw_World_OwnAll.L2 w0 fr_b fr_l fr_c token_b token_l token_c i w  R) :
    KW Tryz.prog 81 54 (hostlaw_World_OwnAll.RV R) ([(0, [1, 1, 1, 1, 0, 1, 0, 0]), (2, [1, 1, 1, 1, 0, 1, 0, 0]), (1, [2]), (0, [1, 1, 1, 1, 1])].map (toItem (Tryz.f81.body.getD .skip))) [(0, .pointer w0), (1, .slice fr_b fr_l fr_c), (5, .slice token_b token_l token_c), (6, .int .i64 i)] w := by
  obtain ⟨I, m, hBase, hr⟩ := h
  refine KW.loop (fun m σ w => ∃ (w0 fr_b : Option Addr) (fr_l fr_c : Nat) (token_b : Option Addr) (token_l token_c : Nat) (i : Int), σ = [(0, .pointer w0), (1, .slice fr_b fr_l fr_c), (5, .slice token_b token_l token_c), (6, .int .i64 i)] ∧ I m w0 fr_b fr_l fr_c token_b token_l token_c i w) ?_ m _ w ⟨w0, fr_b, fr_l, fr_c, token_b, token_l, token_c, i, rfl, hBase⟩
  rintro m ih σ w ⟨w0, fr_b, fr_l, fr_c, token_b, token_l, token_c, i, rfl, hI⟩
  exact hostlaw_World_OwnAll.L2b_sound  (N2 := fun w0' fr_b' fr_l' fr_c' token_b' token_l' token_c' i' w' => ∃ m', m' < m ∧ I m' w0' fr_b' fr_l' fr_c' token_b' token_l' token_c' i' w') (fun w0' fr_b' fr_l' fr_c' token_b' token_l' token_c' i' w' hx => by obtain ⟨m', hlt, hI'⟩ := hx; exact ih m' hlt _ w' ⟨w0', fr_b', fr_l', fr_c', token_b', token_l', token_c', i', rfl, hI'⟩) w0 fr_b fr_l fr_c token_b token_l token_c i w (hr m w0 fr_b fr_l fr_c token_b token_l token_c i w hI)
def hostlaw_World_OwnAll.L1b (w0 fr_b : Option Addr) (fr_l fr_c : Nat) (i : Int) (w : World)  (N1 : Option Addr → Option Addr → Nat → Nat → Int → World → Prop) (R : World → Prop) : Prop :=
  Bm (decide (i < ((fr_l : Nat) : Int))) (
    Pn fr_b fun a =>
    (0 ≤ i ∧ i < ((fr_l : Nat) : Int)) ∧
    LdL (Addr.add a (i.toNat * 1)) w fun x18_b x18_l x18_c =>
    hostlaw_World_Own.Call w0 x18_b x18_l x18_c w fun w1 =>
    N1 w0 fr_b fr_l fr_c (IntKind.i64.wrap (i + (1 : Int))) w1) (
    (0 ≤ ((fr_c : Nat) : Int) ∧ ((fr_c : Nat) : Int) ≤ ((fr_c : Nat) : Int)) ∧
    Bm (((((fr_c : Nat) : Int).toNat - ((0 : Nat) : Int).toNat : Nat) : Int) == (0 : Int)) (
      R  w) (
      Pn w0 fun a_1 =>
      LdL (a_1.add 48) w fun x30_b x30_l x30_c =>
      hostlaw_Token.Call ((x30_l : Nat) : Int) w fun r32_b r32_l r32_c w2 =>
      hostlaw_World_OwnAll.L2 w0 (slBase fr_b ((0 : Nat) : Int) ((fr_c : Nat) : Int) 1) (((fr_c : Nat) : Int).toNat - ((0 : Nat) : Int).toNat) (((fr_c : Nat) : Int).toNat - ((0 : Nat) : Int).toNat) r32_b r32_l r32_c (0 : Int) w2  R))
theorem hostlaw_World_OwnAll.L1b_eq (w0 fr_b : Option Addr) (fr_l fr_c : Nat) (i : Int) (w : World)  (N1 : Option Addr → Option Addr → Nat → Nat → Int → World → Prop) (R : World → Prop) (sL2 : Option Addr → Option Addr → Nat → Nat → Option Addr → Nat → Nat → Int → World → Prop) :
    (
  Bm (decide (i < ((fr_l : Nat) : Int))) (
    Pn fr_b fun a =>
    (0 ≤ i ∧ i < ((fr_l : Nat) : Int)) ∧
    LdL (Addr.add a (i.toNat * 1)) w fun x18_b x18_l x18_c =>
    hostlaw_World_Own.Call w0 x18_b x18_l x18_c w fun w1 =>
    N1 w0 fr_b fr_l fr_c (IntKind.i64.wrap (i + (1 : Int))) w1) (
    (0 ≤ ((fr_c : Nat) : Int) ∧ ((fr_c : Nat) : Int) ≤ ((fr_c : Nat) : Int)) ∧
    Bm (((((fr_c : Nat) : Int).toNat - ((0 : Nat) : Int).toNat : Nat) : Int) == (0 : Int)) (
      R  w) (
      Pn w0 fun a_1 =>
      LdL (a_1.add 48) w fun x30_b x30_l x30_c =>
      hostlaw_Token.Call ((x30_l : Nat) : Int) w fun r32_b r32_l r32_c w2 =>
      sL2 w0 (slBase fr_b ((0 : Nat) : Int) ((fr_c : Nat) : Int) 1) (((fr_c : Nat) : Int).toNat - ((0 : Nat) : Int).toNat) (((fr_c : Nat) : Int).toNat - ((0 : Nat) : Int).toNat) r32_b r32_l r32_c (0 : Int) w2))) = kstep Tryz.prog 54 Tryz.f81.results.toList (Tryz.f81.body.getD .skip) (hostlaw_World_OwnAll.RV R) (kvc Tryz.prog 54 Tryz.f81.results.toList (Tryz.f81.body.getD .skip) (hostlaw_World_OwnAll.RV R) [([(0, [0, 1, 0, 0]), (2, [0, 1, 0, 0]), (1, [0]), (0, [1])], fun σ w => dP (slotOf σ 0) fun w0_ => dL (slotOf σ 1) fun fr_b_ fr_l_ fr_c_ => dI .i64 (slotOf σ 4) fun i_ => N1 w0_ fr_b_ fr_l_ fr_c_ i_ w),
    ([(0, [1, 1, 1, 1, 0, 1, 0, 0]), (2, [1, 1, 1, 1, 0, 1, 0, 0]), (1, [2]), (0, [1, 1, 1, 1, 1])], fun σ w => dP (slotOf σ 0) fun w0_ => dL (slotOf σ 1) fun fr_b_ fr_l_ fr_c_ => dL (slotOf σ 5) fun token_b_ token_l_ token_c_ => dI .i64 (slotOf σ 6) fun i_ => sL2 w0_ fr_b_ fr_l_ fr_c_ token_b_ token_l_ token_c_ i_ w)] 2000) [(0, [0, 1, 0, 0]), (2, [0, 1, 0, 0]), (1, [0]), (0, [1])] [(0, .pointer w0), (1, .slice fr_b fr_l fr_c), (4, .int .i64 i)] w := by kernel_rfl
theorem hostlaw_World_OwnAll.L1b_sound {R : World → Prop} {N1 : Option Addr → Option Addr → Nat → Nat → Int → World → Prop} (hN1 : ∀ w0 fr_b fr_l fr_c i w, N1 w0 fr_b fr_l fr_c i w → KW Tryz.prog 81 54 (hostlaw_World_OwnAll.RV R) ([(0, [0, 1, 0, 0]), (2, [0, 1, 0, 0]), (1, [0]), (0, [1])].map (toItem (Tryz.f81.body.getD .skip))) [(0, .pointer w0), (1, .slice fr_b fr_l fr_c), (4, .int .i64 i)] w) (w0 fr_b : Option Addr) (fr_l fr_c : Nat) (i : Int) (w : World) (h : hostlaw_World_OwnAll.L1b w0 fr_b fr_l fr_c i w  N1 R) :
    KW Tryz.prog 81 54 (hostlaw_World_OwnAll.RV R) ([(0, [0, 1, 0, 0]), (2, [0, 1, 0, 0]), (1, [0]), (0, [1])].map (toItem (Tryz.f81.body.getD .skip))) [(0, .pointer w0), (1, .slice fr_b fr_l fr_c), (4, .int .i64 i)] w := by
  exact block_spec Tryz.func81 Tryz.mixed (stops_cons (fun σ w h => by
      obtain ⟨w0_, e0, h⟩ := dP_elim h
      obtain ⟨fr_b_, fr_l_, fr_c_, e1, h⟩ := dL_elim h
      obtain ⟨i_, e2, h⟩ := dI_elim h
      exact (hN1 w0_ fr_b_ fr_l_ fr_c_ i_ w h).weaken (Sub.cons (Sub.cons (Sub.cons (Sub.nil _) e2) e1) e0)) (stops_cons (fun σ w h => by
      obtain ⟨w0_, e0, h⟩ := dP_elim h
      obtain ⟨fr_b_, fr_l_, fr_c_, e1, h⟩ := dL_elim h
      obtain ⟨token_b_, token_l_, token_c_, e2, h⟩ := dL_elim h
      obtain ⟨i_, e3, h⟩ := dI_elim h
      exact (hostlaw_World_OwnAll.L2_sound  w0_ fr_b_ fr_l_ fr_c_ token_b_ token_l_ token_c_ i_ w h).weaken (Sub.cons (Sub.cons (Sub.cons (Sub.cons (Sub.nil _) e3) e2) e1) e0)) stops_nil)) (Eq.mp (hostlaw_World_OwnAll.L1b_eq w0 fr_b fr_l fr_c i w  N1 R (fun w0_ fr_b_ fr_l_ fr_c_ token_b_ token_l_ token_c_ i_ w => hostlaw_World_OwnAll.L2 w0_ fr_b_ fr_l_ fr_c_ token_b_ token_l_ token_c_ i_ w  R)) h)
def hostlaw_World_OwnAll.L1 (w0 fr_b : Option Addr) (fr_l fr_c : Nat) (i : Int) (w : World)  (R : World → Prop) : Prop :=
  ∃ (I : Nat → Option Addr → Option Addr → Nat → Nat → Int → World → Prop) (m : Nat), I m w0 fr_b fr_l fr_c i w ∧ ∀ m w0 fr_b fr_l fr_c i w, I m w0 fr_b fr_l fr_c i w → hostlaw_World_OwnAll.L1b w0 fr_b fr_l fr_c i w  (fun w0' fr_b' fr_l' fr_c' i' w' => ∃ m', m' < m ∧ I m' w0' fr_b' fr_l' fr_c' i' w') R
theorem hostlaw_World_OwnAll.L1_sound {R : World → Prop}  (w0 fr_b : Option Addr) (fr_l fr_c : Nat) (i : Int) (w : World) (h : hostlaw_World_OwnAll.L1 w0 fr_b fr_l fr_c i w  R) :
    KW Tryz.prog 81 54 (hostlaw_World_OwnAll.RV R) ([(0, [0, 1, 0, 0]), (2, [0, 1, 0, 0]), (1, [0]), (0, [1])].map (toItem (Tryz.f81.body.getD .skip))) [(0, .pointer w0), (1, .slice fr_b fr_l fr_c), (4, .int .i64 i)] w := by
  obtain ⟨I, m, hBase, hr⟩ := h
  refine KW.loop (fun m σ w => ∃ (w0 fr_b : Option Addr) (fr_l fr_c : Nat) (i : Int), σ = [(0, .pointer w0), (1, .slice fr_b fr_l fr_c), (4, .int .i64 i)] ∧ I m w0 fr_b fr_l fr_c i w) ?_ m _ w ⟨w0, fr_b, fr_l, fr_c, i, rfl, hBase⟩
  rintro m ih σ w ⟨w0, fr_b, fr_l, fr_c, i, rfl, hI⟩
  exact hostlaw_World_OwnAll.L1b_sound  (N1 := fun w0' fr_b' fr_l' fr_c' i' w' => ∃ m', m' < m ∧ I m' w0' fr_b' fr_l' fr_c' i' w') (fun w0' fr_b' fr_l' fr_c' i' w' hx => by obtain ⟨m', hlt, hI'⟩ := hx; exact ih m' hlt _ w' ⟨w0', fr_b', fr_l', fr_c', i', rfl, hI'⟩) w0 fr_b fr_l fr_c i w (hr m w0 fr_b fr_l fr_c i w hI)
def hostlaw_World_OwnAll.B0 (w0 fr_b : Option Addr) (fr_l fr_c : Nat) (w : World)   (R : World → Prop) : Prop :=
  hostlaw_World_OwnAll.L1 w0 fr_b fr_l fr_c (0 : Int) w  R
theorem hostlaw_World_OwnAll.B0_eq (w0 fr_b : Option Addr) (fr_l fr_c : Nat) (w : World)   (R : World → Prop) (sL1 : Option Addr → Option Addr → Nat → Nat → Int → World → Prop) :
    (
  sL1 w0 fr_b fr_l fr_c (0 : Int) w) = kstep Tryz.prog 54 Tryz.f81.results.toList (Tryz.f81.body.getD .skip) (hostlaw_World_OwnAll.RV R) (kvc Tryz.prog 54 Tryz.f81.results.toList (Tryz.f81.body.getD .skip) (hostlaw_World_OwnAll.RV R) [([(0, [0, 1, 0, 0]), (2, [0, 1, 0, 0]), (1, [0]), (0, [1])], fun σ w => dP (slotOf σ 0) fun w0_ => dL (slotOf σ 1) fun fr_b_ fr_l_ fr_c_ => dI .i64 (slotOf σ 4) fun i_ => sL1 w0_ fr_b_ fr_l_ fr_c_ i_ w)] 2000) [(0, [])] [(0, .pointer w0), (1, .slice fr_b fr_l fr_c)] w := by kernel_rfl
theorem hostlaw_World_OwnAll.B0_sound {R : World → Prop}  (w0 fr_b : Option Addr) (fr_l fr_c : Nat) (w : World) (h : hostlaw_World_OwnAll.B0 w0 fr_b fr_l fr_c w   R) :
    KW Tryz.prog 81 54 (hostlaw_World_OwnAll.RV R) ([(0, [])].map (toItem (Tryz.f81.body.getD .skip))) [(0, .pointer w0), (1, .slice fr_b fr_l fr_c)] w := by
  exact block_spec Tryz.func81 Tryz.mixed (stops_cons (fun σ w h => by
      obtain ⟨w0_, e0, h⟩ := dP_elim h
      obtain ⟨fr_b_, fr_l_, fr_c_, e1, h⟩ := dL_elim h
      obtain ⟨i_, e2, h⟩ := dI_elim h
      exact (hostlaw_World_OwnAll.L1_sound  w0_ fr_b_ fr_l_ fr_c_ i_ w h).weaken (Sub.cons (Sub.cons (Sub.cons (Sub.nil _) e2) e1) e0)) stops_nil) (Eq.mp (hostlaw_World_OwnAll.B0_eq w0 fr_b fr_l fr_c w   R (fun w0_ fr_b_ fr_l_ fr_c_ i_ w => hostlaw_World_OwnAll.L1 w0_ fr_b_ fr_l_ fr_c_ i_ w  R)) h)
theorem hostlaw_World_OwnAll.sound (w0 fr_b : Option Addr) (fr_l fr_c : Nat) (w : World) (R : World → Prop) (h : hostlaw_World_OwnAll.B0 w0 fr_b fr_l fr_c w R) : hostlaw_World_OwnAll.Call w0 fr_b fr_l fr_c w R := by
  have hc := calls_of_block (args := #[.pointer w0, .slice fr_b fr_l fr_c]) Tryz.func81 (body := (Tryz.f81.body.getD .skip)) (by kernel_rfl) (by kernel_rfl) (args_slot _) (hostlaw_World_OwnAll.B0_sound w0 fr_b fr_l fr_c w h)
  exact hc.mono fun e w' he => by
    obtain ⟨v, rfl, hv⟩ := he
    exact hostlaw_World_OwnAll.RV_elim hv
def hostlaw_World_Put.B3 (w0 : Option Addr) (c : Int) (fr_b : Option Addr) (fr_l fr_c : Nat) (k i : Int) (w : World) (N1 : Option Addr → Int → Option Addr → Nat → Nat → Int → Int → World → Prop)  (R : World → Prop) : Prop :=
  N1 w0 c fr_b fr_l fr_c k (IntKind.i64.wrap (i + (1 : Int))) w
theorem hostlaw_World_Put.B3_eq (w0 : Option Addr) (c : Int) (fr_b : Option Addr) (fr_l fr_c : Nat) (k i : Int) (w : World) (N1 : Option Addr → Int → Option Addr → Nat → Nat → Int → Int → World → Prop)  (R : World → Prop)  :
    (
  N1 w0 c fr_b fr_l fr_c k (IntKind.i64.wrap (i + (1 : Int))) w) = kstep Tryz.prog 56 Tryz.f82.results.toList (Tryz.f82.body.getD .skip) (hostlaw_World_Put.RV R) (kvc Tryz.prog 56 Tryz.f82.results.toList (Tryz.f82.body.getD .skip) (hostlaw_World_Put.RV R) [([(0, [1, 0, 1, 0, 0]), (2, [1, 0, 1, 0, 0]), (1, [0]), (0, [1, 1])], fun σ w => dP (slotOf σ 0) fun w0_ => dI .i64 (slotOf σ 1) fun c_ => dL (slotOf σ 2) fun fr_b_ fr_l_ fr_c_ => dI .i64 (slotOf σ 6) fun k_ => dI .i64 (slotOf σ 7) fun i_ => N1 w0_ c_ fr_b_ fr_l_ fr_c_ k_ i_ w)] 2000) [(0, [1, 0, 1, 0, 0, 1, 1]), (2, [1, 0, 1, 0, 0]), (1, [0]), (0, [1, 1])] [(0, .pointer w0), (1, .int .i64 c), (2, .slice fr_b fr_l fr_c), (6, .int .i64 k), (7, .int .i64 i)] w := by kernel_rfl
theorem hostlaw_World_Put.B3_sound {R : World → Prop} {N1 : Option Addr → Int → Option Addr → Nat → Nat → Int → Int → World → Prop} (hN1 : ∀ w0 c fr_b fr_l fr_c k i w, N1 w0 c fr_b fr_l fr_c k i w → KW Tryz.prog 82 56 (hostlaw_World_Put.RV R) ([(0, [1, 0, 1, 0, 0]), (2, [1, 0, 1, 0, 0]), (1, [0]), (0, [1, 1])].map (toItem (Tryz.f82.body.getD .skip))) [(0, .pointer w0), (1, .int .i64 c), (2, .slice fr_b fr_l fr_c), (6, .int .i64 k), (7, .int .i64 i)] w) (w0 : Option Addr) (c : Int) (fr_b : Option Addr) (fr_l fr_c : Nat) (k i : Int) (w : World) (h : hostlaw_World_Put.B3 w0 c fr_b fr_l fr_c k i w N1  R) :
    KW Tryz.prog 82 56 (hostlaw_World_Put.RV R) ([(0, [1, 0, 1, 0, 0, 1, 1]), (2, [1, 0, 1, 0, 0]), (1, [0]), (0, [1, 1])].map (toItem (Tryz.f82.body.getD .skip))) [(0, .pointer w0), (1, .int .i64 c), (2, .slice fr_b fr_l fr_c), (6, .int .i64 k), (7, .int .i64 i)] w := by
  exact block_spec Tryz.func82 Tryz.mixed (stops_cons (fun σ w h => by
      obtain ⟨w0_, e0, h⟩ := dP_elim h
      obtain ⟨c_, e1, h⟩ := dI_elim h
      obtain ⟨fr_b_, fr_l_, fr_c_, e2, h⟩ := dL_elim h
      obtain ⟨k_, e3, h⟩ := dI_elim h
      obtain ⟨i_, e4, h⟩ := dI_elim h
      exact (hN1 w0_ c_ fr_b_ fr_l_ fr_c_ k_ i_ w h).weaken (Sub.cons (Sub.cons (Sub.cons (Sub.cons (Sub.cons (Sub.nil _) e4) e3) e2) e1) e0)) stops_nil) (Eq.mp (hostlaw_World_Put.B3_eq w0 c fr_b fr_l fr_c k i w N1  R ) h)
def hostlaw_World_Put.B1 (w0 : Option Addr) (c : Int) (fr_b : Option Addr) (fr_l fr_c : Nat) (k i : Int) (w : World) (N1 : Option Addr → Int → Option Addr → Nat → Nat → Int → Int → World → Prop)  (R : World → Prop) : Prop :=
  Pn w0 fun a =>
  LdP (a.add 29) w.drew fun x34 =>
  Pn fr_b fun a_1 =>
  (0 ≤ i ∧ i < ((fr_l : Nat) : Int)) ∧
  LdL (Addr.add a_1 (i.toNat * 1)) w.drew fun x38_b x38_l x38_c =>
  wirem_Wire_Put.Call x34 x38_b x38_l x38_c w.drew fun r39 w1 =>
  Bm (!r39) (
    Pn w0 fun a_2 =>
    LdI .i64 (a_2.add 45) w1 fun x44 =>
    Pn w0 fun a_3 =>
    Sts [.int .i64 (IntKind.i64.wrap (x44 + (1 : Int)))] (a_3.add 45) 0 w1 fun w2 =>
    hostlaw_World_Put.B3 w0 c fr_b fr_l fr_c k i w2 N1 R) (
    hostlaw_World_Put.B3 w0 c fr_b fr_l fr_c k i w1 N1 R)
theorem hostlaw_World_Put.B1_eq (w0 : Option Addr) (c : Int) (fr_b : Option Addr) (fr_l fr_c : Nat) (k i : Int) (w : World) (N1 : Option Addr → Int → Option Addr → Nat → Nat → Int → Int → World → Prop)  (R : World → Prop) (sB3 : Option Addr → Int → Option Addr → Nat → Nat → Int → Int → World → Prop) :
    (
  Pn w0 fun a =>
  LdP (a.add 29) w.drew fun x34 =>
  Pn fr_b fun a_1 =>
  (0 ≤ i ∧ i < ((fr_l : Nat) : Int)) ∧
  LdL (Addr.add a_1 (i.toNat * 1)) w.drew fun x38_b x38_l x38_c =>
  wirem_Wire_Put.Call x34 x38_b x38_l x38_c w.drew fun r39 w1 =>
  Bm (!r39) (
    Pn w0 fun a_2 =>
    LdI .i64 (a_2.add 45) w1 fun x44 =>
    Pn w0 fun a_3 =>
    Sts [.int .i64 (IntKind.i64.wrap (x44 + (1 : Int)))] (a_3.add 45) 0 w1 fun w2 =>
    sB3 w0 c fr_b fr_l fr_c k i w2) (
    sB3 w0 c fr_b fr_l fr_c k i w1)) = kstep Tryz.prog 56 Tryz.f82.results.toList (Tryz.f82.body.getD .skip) (hostlaw_World_Put.RV R) (kvc Tryz.prog 56 Tryz.f82.results.toList (Tryz.f82.body.getD .skip) (hostlaw_World_Put.RV R) [([(0, [1, 0, 1, 0, 0, 1, 1]), (2, [1, 0, 1, 0, 0]), (1, [0]), (0, [1, 1])], fun σ w => dP (slotOf σ 0) fun w0_ => dI .i64 (slotOf σ 1) fun c_ => dL (slotOf σ 2) fun fr_b_ fr_l_ fr_c_ => dI .i64 (slotOf σ 6) fun k_ => dI .i64 (slotOf σ 7) fun i_ => sB3 w0_ c_ fr_b_ fr_l_ fr_c_ k_ i_ w)] 2000) [(0, [1, 0, 1, 0, 0, 1, 0, 0, 1]), (1, [1]), (0, [1, 0, 1, 0, 0, 1, 1]), (2, [1, 0, 1, 0, 0]), (1, [0]), (0, [1, 1])] [(0, .pointer w0), (1, .int .i64 c), (2, .slice fr_b fr_l fr_c), (6, .int .i64 k), (7, .int .i64 i)] w := by kernel_rfl
theorem hostlaw_World_Put.B1_sound {R : World → Prop} {N1 : Option Addr → Int → Option Addr → Nat → Nat → Int → Int → World → Prop} (hN1 : ∀ w0 c fr_b fr_l fr_c k i w, N1 w0 c fr_b fr_l fr_c k i w → KW Tryz.prog 82 56 (hostlaw_World_Put.RV R) ([(0, [1, 0, 1, 0, 0]), (2, [1, 0, 1, 0, 0]), (1, [0]), (0, [1, 1])].map (toItem (Tryz.f82.body.getD .skip))) [(0, .pointer w0), (1, .int .i64 c), (2, .slice fr_b fr_l fr_c), (6, .int .i64 k), (7, .int .i64 i)] w) (w0 : Option Addr) (c : Int) (fr_b : Option Addr) (fr_l fr_c : Nat) (k i : Int) (w : World) (h : hostlaw_World_Put.B1 w0 c fr_b fr_l fr_c k i w N1  R) :
    KW Tryz.prog 82 56 (hostlaw_World_Put.RV R) ([(0, [1, 0, 1, 0, 0, 1, 0, 0, 1]), (1, [1]), (0, [1, 0, 1, 0, 0, 1, 1]), (2, [1, 0, 1, 0, 0]), (1, [0]), (0, [1, 1])].map (toItem (Tryz.f82.body.getD .skip))) [(0, .pointer w0), (1, .int .i64 c), (2, .slice fr_b fr_l fr_c), (6, .int .i64 k), (7, .int .i64 i)] w := by
  exact block_spec Tryz.func82 Tryz.mixed (stops_cons (fun σ w h => by
      obtain ⟨w0_, e0, h⟩ := dP_elim h
      obtain ⟨c_, e1, h⟩ := dI_elim h
      obtain ⟨fr_b_, fr_l_, fr_c_, e2, h⟩ := dL_elim h
      obtain ⟨k_, e3, h⟩ := dI_elim h
      obtain ⟨i_, e4, h⟩ := dI_elim h
      exact (hostlaw_World_Put.B3_sound hN1 w0_ c_ fr_b_ fr_l_ fr_c_ k_ i_ w h).weaken (Sub.cons (Sub.cons (Sub.cons (Sub.cons (Sub.cons (Sub.nil _) e4) e3) e2) e1) e0)) stops_nil) (Eq.mp (hostlaw_World_Put.B1_eq w0 c fr_b fr_l fr_c k i w N1  R (fun w0_ c_ fr_b_ fr_l_ fr_c_ k_ i_ w => hostlaw_World_Put.B3 w0_ c_ fr_b_ fr_l_ fr_c_ k_ i_ w N1 R)) h)
def hostlaw_World_Put.B2 (w0 fr_b : Option Addr) (fr_l fr_c : Nat) (w : World)   (R : World → Prop) : Prop :=
  hostlaw_World_OwnAll.Call w0 fr_b fr_l fr_c w fun w1 =>
  R  w1
theorem hostlaw_World_Put.B2_eq (w0 fr_b : Option Addr) (fr_l fr_c : Nat) (w : World)   (R : World → Prop)  :
    (
  hostlaw_World_OwnAll.Call w0 fr_b fr_l fr_c w fun w1 =>
  R  w1) = kstep Tryz.prog 56 Tryz.f82.results.toList (Tryz.f82.body.getD .skip) (hostlaw_World_Put.RV R) (kvc Tryz.prog 56 Tryz.f82.results.toList (Tryz.f82.body.getD .skip) (hostlaw_World_Put.RV R) [] 2000) [(0, [1, 1, 1])] [(0, .pointer w0), (2, .slice fr_b fr_l fr_c)] w := by kernel_rfl
theorem hostlaw_World_Put.B2_sound {R : World → Prop}  (w0 fr_b : Option Addr) (fr_l fr_c : Nat) (w : World) (h : hostlaw_World_Put.B2 w0 fr_b fr_l fr_c w   R) :
    KW Tryz.prog 82 56 (hostlaw_World_Put.RV R) ([(0, [1, 1, 1])].map (toItem (Tryz.f82.body.getD .skip))) [(0, .pointer w0), (2, .slice fr_b fr_l fr_c)] w := by
  exact block_spec Tryz.func82 Tryz.mixed stops_nil (Eq.mp (hostlaw_World_Put.B2_eq w0 fr_b fr_l fr_c w   R ) h)
def hostlaw_World_Put.L1b (w0 : Option Addr) (c : Int) (fr_b : Option Addr) (fr_l fr_c : Nat) (k i : Int) (w : World)  (N1 : Option Addr → Int → Option Addr → Nat → Nat → Int → Int → World → Prop) (R : World → Prop) : Prop :=
  Bm (decide (i < ((fr_l : Nat) : Int))) (
    Pn fr_b fun a =>
    (0 ≤ i ∧ i < ((fr_l : Nat) : Int)) ∧
    LdL (Addr.add a (i.toNat * 1)) w fun x17_b x17_l x17_c =>
    hostm_FirstFragment.Call x17_b x17_l x17_c w fun r18 w1 =>
    Bm r18 (
      Pn w0 fun a_1 =>
      (0 ≤ c ∧ c < ((3 : Nat) : Int)) ∧
      LdI .i64 (Addr.add (a_1.add 40) (c.toNat * 1)) w1.drew fun x24 =>
      Pn w0 fun a_2 =>
      (0 ≤ c ∧ c < ((3 : Nat) : Int)) ∧
      Sts [.int .i64 (IntKind.i64.wrap (x24 + (1 : Int)))] (Addr.add (a_2.add 40) (c.toNat * 1)) 0 w1.drew fun w2 =>
      hostlaw_World_Put.B1 w0 c fr_b fr_l fr_c (IntKind.i64.wrap (k + (1 : Int))) i w2 N1 R) (
      hostlaw_World_Put.B1 w0 c fr_b fr_l fr_c k i w1 N1 R)) (
    Bm (decide (k > (12 : Int))) (
      Pn w0 fun a_3 =>
      Sts [.bool true] (a_3.add 44) 0 w fun w3 =>
      hostlaw_World_Put.B2 w0 fr_b fr_l fr_c w3  R) (
      hostlaw_World_Put.B2 w0 fr_b fr_l fr_c w  R))
theorem hostlaw_World_Put.L1b_eq (w0 : Option Addr) (c : Int) (fr_b : Option Addr) (fr_l fr_c : Nat) (k i : Int) (w : World)  (N1 : Option Addr → Int → Option Addr → Nat → Nat → Int → Int → World → Prop) (R : World → Prop) (sB1 : Option Addr → Int → Option Addr → Nat → Nat → Int → Int → World → Prop) (sB2 : Option Addr → Option Addr → Nat → Nat → World → Prop) :
    (
  Bm (decide (i < ((fr_l : Nat) : Int))) (
    Pn fr_b fun a =>
    (0 ≤ i ∧ i < ((fr_l : Nat) : Int)) ∧
    LdL (Addr.add a (i.toNat * 1)) w fun x17_b x17_l x17_c =>
    hostm_FirstFragment.Call x17_b x17_l x17_c w fun r18 w1 =>
    Bm r18 (
      Pn w0 fun a_1 =>
      (0 ≤ c ∧ c < ((3 : Nat) : Int)) ∧
      LdI .i64 (Addr.add (a_1.add 40) (c.toNat * 1)) w1.drew fun x24 =>
      Pn w0 fun a_2 =>
      (0 ≤ c ∧ c < ((3 : Nat) : Int)) ∧
      Sts [.int .i64 (IntKind.i64.wrap (x24 + (1 : Int)))] (Addr.add (a_2.add 40) (c.toNat * 1)) 0 w1.drew fun w2 =>
      sB1 w0 c fr_b fr_l fr_c (IntKind.i64.wrap (k + (1 : Int))) i w2) (
      sB1 w0 c fr_b fr_l fr_c k i w1)) (
    Bm (decide (k > (12 : Int))) (
      Pn w0 fun a_3 =>
      Sts [.bool true] (a_3.add 44) 0 w fun w3 =>
      sB2 w0 fr_b fr_l fr_c w3) (
      sB2 w0 fr_b fr_l fr_c w))) = kstep Tryz.prog 56 Tryz.f82.results.toList (Tryz.f82.body.getD .skip) (hostlaw_World_Put.RV R) (kvc Tryz.prog 56 Tryz.f82.results.toList (Tryz.f82.body.getD .skip) (hostlaw_World_Put.RV R) [([(0, [1, 0, 1, 0, 0, 1, 0, 0, 1]), (1, [1]), (0, [1, 0, 1, 0, 0, 1, 1]), (2, [1, 0, 1, 0, 0]), (1, [0]), (0, [1, 1])], fun σ w => dP (slotOf σ 0) fun w0_ => dI .i64 (slotOf σ 1) fun c_ => dL (slotOf σ 2) fun fr_b_ fr_l_ fr_c_ => dI .i64 (slotOf σ 6) fun k_ => dI .i64 (slotOf σ 7) fun i_ => sB1 w0_ c_ fr_b_ fr_l_ fr_c_ k_ i_ w),
    ([(0, [1, 1, 1])], fun σ w => dP (slotOf σ 0) fun w0_ => dL (slotOf σ 2) fun fr_b_ fr_l_ fr_c_ => sB2 w0_ fr_b_ fr_l_ fr_c_ w)] 2000) [(0, [1, 0, 1, 0, 0]), (2, [1, 0, 1, 0, 0]), (1, [0]), (0, [1, 1])] [(0, .pointer w0), (1, .int .i64 c), (2, .slice fr_b fr_l fr_c), (6, .int .i64 k), (7, .int .i64 i)] w := by kernel_rfl
theorem hostlaw_World_Put.L1b_sound {R : World → Prop} {N1 : Option Addr → Int → Option Addr → Nat → Nat → Int → Int → World → Prop} (hN1 : ∀ w0 c fr_b fr_l fr_c k i w, N1 w0 c fr_b fr_l fr_c k i w → KW Tryz.prog 82 56 (hostlaw_World_Put.RV R) ([(0, [1, 0, 1, 0, 0]), (2, [1, 0, 1, 0, 0]), (1, [0]), (0, [1, 1])].map (toItem (Tryz.f82.body.getD .skip))) [(0, .pointer w0), (1, .int .i64 c), (2, .slice fr_b fr_l fr_c), (6, .int .i64 k), (7, .int .i64 i)] w) (w0 : Option Addr) (c : Int) (fr_b : Option Addr) (fr_l fr_c : Nat) (k i : Int) (w : World) (h : hostlaw_World_Put.L1b w0 c fr_b fr_l fr_c k i w  N1 R) :
    KW Tryz.prog 82 56 (hostlaw_World_Put.RV R) ([(0, [1, 0, 1, 0, 0]), (2, [1, 0, 1, 0, 0]), (1, [0]), (0, [1, 1])].map (toItem (Tryz.f82.body.getD .skip))) [(0, .pointer w0), (1, .int .i64 c), (2, .slice fr_b fr_l fr_c), (6, .int .i64 k), (7, .int .i64 i)] w := by
  exact block_spec Tryz.func82 Tryz.mixed (stops_cons (fun σ w h => by
      obtain ⟨w0_, e0, h⟩ := dP_elim h
      obtain ⟨c_, e1, h⟩ := dI_elim h
      obtain ⟨fr_b_, fr_l_, fr_c_, e2, h⟩ := dL_elim h
      obtain ⟨k_, e3, h⟩ := dI_elim h
      obtain ⟨i_, e4, h⟩ := dI_elim h
      exact (hostlaw_World_Put.B1_sound hN1 w0_ c_ fr_b_ fr_l_ fr_c_ k_ i_ w h).weaken (Sub.cons (Sub.cons (Sub.cons (Sub.cons (Sub.cons (Sub.nil _) e4) e3) e2) e1) e0)) (stops_cons (fun σ w h => by
      obtain ⟨w0_, e0, h⟩ := dP_elim h
      obtain ⟨fr_b_, fr_l_, fr_c_, e1, h⟩ := dL_elim h
      exact (hostlaw_World_Put.B2_sound  w0_ fr_b_ fr_l_ fr_c_ w h).weaken (Sub.cons (Sub.cons (Sub.nil _) e1) e0)) stops_nil)) (Eq.mp (hostlaw_World_Put.L1b_eq w0 c fr_b fr_l fr_c k i w  N1 R (fun w0_ c_ fr_b_ fr_l_ fr_c_ k_ i_ w => hostlaw_World_Put.B1 w0_ c_ fr_b_ fr_l_ fr_c_ k_ i_ w N1 R) (fun w0_ fr_b_ fr_l_ fr_c_ w => hostlaw_World_Put.B2 w0_ fr_b_ fr_l_ fr_c_ w  R)) h)
def hostlaw_World_Put.L1 (w0 : Option Addr) (c : Int) (fr_b : Option Addr) (fr_l fr_c : Nat) (k i : Int) (w : World)  (R : World → Prop) : Prop :=
  ∃ (I : Nat → Option Addr → Int → Option Addr → Nat → Nat → Int → Int → World → Prop) (m : Nat), I m w0 c fr_b fr_l fr_c k i w ∧ ∀ m w0 c fr_b fr_l fr_c k i w, I m w0 c fr_b fr_l fr_c k i w → hostlaw_World_Put.L1b w0 c fr_b fr_l fr_c k i w  (fun w0' c' fr_b' fr_l' fr_c' k' i' w' => ∃ m', m' < m ∧ I m' w0' c' fr_b' fr_l' fr_c' k' i' w') R
theorem hostlaw_World_Put.L1_sound {R : World → Prop}  (w0 : Option Addr) (c : Int) (fr_b : Option Addr) (fr_l fr_c : Nat) (k i : Int) (w : World) (h : hostlaw_World_Put.L1 w0 c fr_b fr_l fr_c k i w  R) :
    KW Tryz.prog 82 56 (hostlaw_World_Put.RV R) ([(0, [1, 0, 1, 0, 0]), (2, [1, 0, 1, 0, 0]), (1, [0]), (0, [1, 1])].map (toItem (Tryz.f82.body.getD .skip))) [(0, .pointer w0), (1, .int .i64 c), (2, .slice fr_b fr_l fr_c), (6, .int .i64 k), (7, .int .i64 i)] w := by
  obtain ⟨I, m, hBase, hr⟩ := h
  refine KW.loop (fun m σ w => ∃ (w0 : Option Addr) (c : Int) (fr_b : Option Addr) (fr_l fr_c : Nat) (k i : Int), σ = [(0, .pointer w0), (1, .int .i64 c), (2, .slice fr_b fr_l fr_c), (6, .int .i64 k), (7, .int .i64 i)] ∧ I m w0 c fr_b fr_l fr_c k i w) ?_ m _ w ⟨w0, c, fr_b, fr_l, fr_c, k, i, rfl, hBase⟩
  rintro m ih σ w ⟨w0, c, fr_b, fr_l, fr_c, k, i, rfl, hI⟩
  exact hostlaw_World_Put.L1b_sound  (N1 := fun w0' c' fr_b' fr_l' fr_c' k' i' w' => ∃ m', m' < m ∧ I m' w0' c' fr_b' fr_l' fr_c' k' i' w') (fun w0' c' fr_b' fr_l' fr_c' k' i' w' hx => by obtain ⟨m', hlt, hI'⟩ := hx; exact ih m' hlt _ w' ⟨w0', c', fr_b', fr_l', fr_c', k', i', rfl, hI'⟩) w0 c fr_b fr_l fr_c k i w (hr m w0 c fr_b fr_l fr_c k i w hI)
def hostlaw_World_Put.B0 (w0 : Option Addr) (c : Int) (fr_b : Option Addr) (fr_l fr_c : Nat) (w : World)   (R : World → Prop) : Prop :=
  hostlaw_World_Put.L1 w0 c fr_b fr_l fr_c (0 : Int) (0 : Int) w  R
theorem hostlaw_World_Put.B0_eq (w0 : Option Addr) (c : Int) (fr_b : Option Addr) (fr_l fr_c : Nat) (w : World)   (R : World → Prop) (sL1 : Option Addr → Int → Option Addr → Nat → Nat → Int → Int → World → Prop) :
    (
  sL1 w0 c fr_b fr_l fr_c (0 : Int) (0 : Int) w) = kstep Tryz.prog 56 Tryz.f82.results.toList (Tryz.f82.body.getD .skip) (hostlaw_World_Put.RV R) (kvc Tryz.prog 56 Tryz.f82.results.toList (Tryz.f82.body.getD .skip) (hostlaw_World_Put.RV R) [([(0, [1, 0, 1, 0, 0]), (2, [1, 0, 1, 0, 0]), (1, [0]), (0, [1, 1])], fun σ w => dP (slotOf σ 0) fun w0_ => dI .i64 (slotOf σ 1) fun c_ => dL (slotOf σ 2) fun fr_b_ fr_l_ fr_c_ => dI .i64 (slotOf σ 6) fun k_ => dI .i64 (slotOf σ 7) fun i_ => sL1 w0_ c_ fr_b_ fr_l_ fr_c_ k_ i_ w)] 2000) [(0, [])] [(0, .pointer w0), (1, .int .i64 c), (2, .slice fr_b fr_l fr_c)] w := by kernel_rfl
theorem hostlaw_World_Put.B0_sound {R : World → Prop}  (w0 : Option Addr) (c : Int) (fr_b : Option Addr) (fr_l fr_c : Nat) (w : World) (h : hostlaw_World_Put.B0 w0 c fr_b fr_l fr_c w   R) :
    KW Tryz.prog 82 56 (hostlaw_World_Put.RV R) ([(0, [])].map (toItem (Tryz.f82.body.getD .skip))) [(0, .pointer w0), (1, .int .i64 c), (2, .slice fr_b fr_l fr_c)] w := by
  exact block_spec Tryz.func82 Tryz.mixed (stops_cons (fun σ w h => by
      obtain ⟨w0_, e0, h⟩ := dP_elim h
      obtain ⟨c_, e1, h⟩ := dI_elim h
      obtain ⟨fr_b_, fr_l_, fr_c_, e2, h⟩ := dL_elim h
      obtain ⟨k_, e3, h⟩ := dI_elim h
      obtain ⟨i_, e4, h⟩ := dI_elim h
      exact (hostlaw_World_Put.L1_sound  w0_ c_ fr_b_ fr_l_ fr_c_ k_ i_ w h).weaken (Sub.cons (Sub.cons (Sub.cons (Sub.cons (Sub.cons (Sub.nil _) e4) e3) e2) e1) e0)) stops_nil) (Eq.mp (hostlaw_World_Put.B0_eq w0 c fr_b fr_l fr_c w   R (fun w0_ c_ fr_b_ fr_l_ fr_c_ k_ i_ w => hostlaw_World_Put.L1 w0_ c_ fr_b_ fr_l_ fr_c_ k_ i_ w  R)) h)
theorem hostlaw_World_Put.sound (w0 : Option Addr) (c : Int) (fr_b : Option Addr) (fr_l fr_c : Nat) (w : World) (R : World → Prop) (h : hostlaw_World_Put.B0 w0 c fr_b fr_l fr_c w R) : hostlaw_World_Put.Call w0 c fr_b fr_l fr_c w R := by
  have hc := calls_of_block (args := #[.pointer w0, .int .i64 c, .slice fr_b fr_l fr_c]) Tryz.func82 (body := (Tryz.f82.body.getD .skip)) (by kernel_rfl) (by kernel_rfl) (args_slot _) (hostlaw_World_Put.B0_sound w0 c fr_b fr_l fr_c w h)
  exact hc.mono fun e w' he => by
    obtain ⟨v, rfl, hv⟩ := he
    exact hostlaw_World_Put.RV_elim hv
end Go.Proofs.Qxb6500424aGreat
