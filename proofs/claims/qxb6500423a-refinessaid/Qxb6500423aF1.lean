import Derived.Test.Qxb6500423aSig
set_option maxRecDepth 100000
set_option linter.unusedVariables false
open Go.Vc
namespace Go.Proofs.Qxb6500423a
def framelaw_Decode.B1 (w0 : Option Addr) (t7 f g : Nat) (h0 : Int) (same : Bool) (w : World)   (R : Bool → Int → Int → Int → Option Addr → Nat → Nat → Int → World → Prop) : Prop :=
  LdL ⟨f, 3, none⟩ w fun x51_b x51_l x51_c =>
  framelaw_Keep.Call w0 x51_b x51_l x51_c w fun w1 =>
  LdI .i64 ⟨g, 0, none⟩ w1.drew fun x54_0 =>
  LdI .i64 ⟨g, 1, none⟩ w1.drew fun x54_1 =>
  LdI .i64 ⟨g, 2, none⟩ w1.drew fun x54_2 =>
  LdL ⟨g, 3, none⟩ w1.drew fun x54_3_b x54_3_l x54_3_c =>
  Sts [.int .i64 x54_0, .int .i64 x54_1, .int .i64 x54_2, .slice x54_3_b x54_3_l x54_3_c] ⟨t7, 0, none⟩ 0 w1.drew fun w2 =>
  LdI .i64 ⟨t7, 0, none⟩ w2 fun r_0 =>
  LdI .i64 ⟨t7, 1, none⟩ w2 fun r_1 =>
  LdI .i64 ⟨t7, 2, none⟩ w2 fun r_2 =>
  LdL ⟨t7, 3, none⟩ w2 fun r_3_b r_3_l r_3_c =>
  R same r_0 r_1 r_2 r_3_b r_3_l r_3_c h0 w2
theorem framelaw_Decode.B1_eq (w0 : Option Addr) (t7 f g : Nat) (h0 : Int) (same : Bool) (w : World)   (R : Bool → Int → Int → Int → Option Addr → Nat → Nat → Int → World → Prop)  :
    (
  LdL ⟨f, 3, none⟩ w fun x51_b x51_l x51_c =>
  framelaw_Keep.Call w0 x51_b x51_l x51_c w fun w1 =>
  LdI .i64 ⟨g, 0, none⟩ w1.drew fun x54_0 =>
  LdI .i64 ⟨g, 1, none⟩ w1.drew fun x54_1 =>
  LdI .i64 ⟨g, 2, none⟩ w1.drew fun x54_2 =>
  LdL ⟨g, 3, none⟩ w1.drew fun x54_3_b x54_3_l x54_3_c =>
  Sts [.int .i64 x54_0, .int .i64 x54_1, .int .i64 x54_2, .slice x54_3_b x54_3_l x54_3_c] ⟨t7, 0, none⟩ 0 w1.drew fun w2 =>
  LdI .i64 ⟨t7, 0, none⟩ w2 fun r_0 =>
  LdI .i64 ⟨t7, 1, none⟩ w2 fun r_1 =>
  LdI .i64 ⟨t7, 2, none⟩ w2 fun r_2 =>
  LdL ⟨t7, 3, none⟩ w2 fun r_3_b r_3_l r_3_c =>
  R same r_0 r_1 r_2 r_3_b r_3_l r_3_c h0 w2) = kstep Try.prog 56 Try.f14.results.toList (Try.f14.body.getD .skip) (framelaw_Decode.RV R) (kvc Try.prog 56 Try.f14.results.toList (Try.f14.body.getD .skip) (framelaw_Decode.RV R) [] 2000) [(0, [1, 1, 1, 1, 1, 1])] [(0, .pointer w0), (7, .pointer (some ⟨t7, 0, none⟩)), (10, .pointer (some ⟨f, 0, none⟩)), (12, .pointer (some ⟨g, 0, none⟩)), (13, .int .i64 h0), (14, .bool same)] w := by kernel_rfl
theorem framelaw_Decode.B1_sound {R : Bool → Int → Int → Int → Option Addr → Nat → Nat → Int → World → Prop}  (w0 : Option Addr) (t7 f g : Nat) (h0 : Int) (same : Bool) (w : World) (h : framelaw_Decode.B1 w0 t7 f g h0 same w   R) :
    KW Try.prog 14 56 (framelaw_Decode.RV R) ([(0, [1, 1, 1, 1, 1, 1])].map (toItem (Try.f14.body.getD .skip))) [(0, .pointer w0), (7, .pointer (some ⟨t7, 0, none⟩)), (10, .pointer (some ⟨f, 0, none⟩)), (12, .pointer (some ⟨g, 0, none⟩)), (13, .int .i64 h0), (14, .bool same)] w := by
  exact block_spec Try.func14 Try.mixed stops_nil (Eq.mp (framelaw_Decode.B1_eq w0 t7 f g h0 same w   R ) h)
def framelaw_Decode.B0 (w0 : Option Addr) (c : Int) (raw_b : Option Addr) (raw_l raw_c : Nat) (w : World)   (R : Bool → Int → Int → Int → Option Addr → Nat → Nat → Int → World → Prop) : Prop :=
  New (.cells #[.int .i64 (0 : Int), .int .i64 (0 : Int), .int .i64 (0 : Int), .slice none 0 0] 34) w fun b7 w1 =>
  api_CopyBytes.Call raw_b raw_l raw_c w1 fun r16_b r16_l r16_c w2 =>
  Pn w0 fun a =>
  (0 ≤ c ∧ c < ((2 : Nat) : Int)) ∧
  LdP (Addr.add a (c.toNat * 1)) w2 fun x23 =>
  frame_Link_Decode.Call x23 r16_b r16_l r16_c w2 fun r25_0_0 r25_0_1 r25_0_2 r25_0_3_b r25_0_3_l r25_0_3_c r25_1 w3 =>
  New (.cells #[.int .i64 (0 : Int), .int .i64 (0 : Int), .int .i64 (0 : Int), .slice none 0 0] 34) w3 fun f_ w4 =>
  Sts [.int .i64 r25_0_0, .int .i64 r25_0_1, .int .i64 r25_0_2, .slice r25_0_3_b r25_0_3_l r25_0_3_c] ⟨f_, 0, none⟩ 0 w4 fun w5 =>
  framelaw_Spoil.Call r16_b r16_l r16_c w5 fun w6 =>
  Pn w0 fun a_1 =>
  (0 ≤ c ∧ c < ((2 : Nat) : Int)) ∧
  LdP (Addr.add (a_1.add 2) (c.toNat * 1)) w6 fun x36 =>
  framem_Link_Decode.Call x36 raw_b raw_l raw_c w6 fun r38_0_0 r38_0_1 r38_0_2 r38_0_3_b r38_0_3_l r38_0_3_c r38_1 w7 =>
  New (.cells #[.int .i64 (0 : Int), .int .i64 (0 : Int), .int .i64 (0 : Int), .slice none 0 0] 34) w7 fun g_ w8 =>
  Sts [.int .i64 r38_0_0, .int .i64 r38_0_1, .int .i64 r38_0_2, .slice r38_0_3_b r38_0_3_l r38_0_3_c] ⟨g_, 0, none⟩ 0 w8 fun w9 =>
  Bm (r25_1 == r38_1) (
    LdI .i64 ⟨f_, 0, none⟩ w9 fun x45_0 =>
    LdI .i64 ⟨f_, 1, none⟩ w9 fun x45_1 =>
    LdI .i64 ⟨f_, 2, none⟩ w9 fun x45_2 =>
    LdL ⟨f_, 3, none⟩ w9 fun x45_3_b x45_3_l x45_3_c =>
    LdI .i64 ⟨g_, 0, none⟩ w9 fun x46_0 =>
    LdI .i64 ⟨g_, 1, none⟩ w9 fun x46_1 =>
    LdI .i64 ⟨g_, 2, none⟩ w9 fun x46_2 =>
    LdL ⟨g_, 3, none⟩ w9 fun x46_3_b x46_3_l x46_3_c =>
    framelaw_SameFrame.Call x45_0 x45_1 x45_2 x45_3_b x45_3_l x45_3_c x46_0 x46_1 x46_2 x46_3_b x46_3_l x46_3_c w9 fun r47 w10 =>
    framelaw_Decode.B1 w0 b7 f_ g_ r38_1 r47 w10  R) (
    framelaw_Decode.B1 w0 b7 f_ g_ r38_1 false w9  R)
theorem framelaw_Decode.B0_eq (w0 : Option Addr) (c : Int) (raw_b : Option Addr) (raw_l raw_c : Nat) (w : World)   (R : Bool → Int → Int → Int → Option Addr → Nat → Nat → Int → World → Prop) (sB1 : Option Addr → Nat → Nat → Nat → Int → Bool → World → Prop) :
    (
  New (.cells #[.int .i64 (0 : Int), .int .i64 (0 : Int), .int .i64 (0 : Int), .slice none 0 0] 34) w fun b7 w1 =>
  api_CopyBytes.Call raw_b raw_l raw_c w1 fun r16_b r16_l r16_c w2 =>
  Pn w0 fun a =>
  (0 ≤ c ∧ c < ((2 : Nat) : Int)) ∧
  LdP (Addr.add a (c.toNat * 1)) w2 fun x23 =>
  frame_Link_Decode.Call x23 r16_b r16_l r16_c w2 fun r25_0_0 r25_0_1 r25_0_2 r25_0_3_b r25_0_3_l r25_0_3_c r25_1 w3 =>
  New (.cells #[.int .i64 (0 : Int), .int .i64 (0 : Int), .int .i64 (0 : Int), .slice none 0 0] 34) w3 fun f_ w4 =>
  Sts [.int .i64 r25_0_0, .int .i64 r25_0_1, .int .i64 r25_0_2, .slice r25_0_3_b r25_0_3_l r25_0_3_c] ⟨f_, 0, none⟩ 0 w4 fun w5 =>
  framelaw_Spoil.Call r16_b r16_l r16_c w5 fun w6 =>
  Pn w0 fun a_1 =>
  (0 ≤ c ∧ c < ((2 : Nat) : Int)) ∧
  LdP (Addr.add (a_1.add 2) (c.toNat * 1)) w6 fun x36 =>
  framem_Link_Decode.Call x36 raw_b raw_l raw_c w6 fun r38_0_0 r38_0_1 r38_0_2 r38_0_3_b r38_0_3_l r38_0_3_c r38_1 w7 =>
  New (.cells #[.int .i64 (0 : Int), .int .i64 (0 : Int), .int .i64 (0 : Int), .slice none 0 0] 34) w7 fun g_ w8 =>
  Sts [.int .i64 r38_0_0, .int .i64 r38_0_1, .int .i64 r38_0_2, .slice r38_0_3_b r38_0_3_l r38_0_3_c] ⟨g_, 0, none⟩ 0 w8 fun w9 =>
  Bm (r25_1 == r38_1) (
    LdI .i64 ⟨f_, 0, none⟩ w9 fun x45_0 =>
    LdI .i64 ⟨f_, 1, none⟩ w9 fun x45_1 =>
    LdI .i64 ⟨f_, 2, none⟩ w9 fun x45_2 =>
    LdL ⟨f_, 3, none⟩ w9 fun x45_3_b x45_3_l x45_3_c =>
    LdI .i64 ⟨g_, 0, none⟩ w9 fun x46_0 =>
    LdI .i64 ⟨g_, 1, none⟩ w9 fun x46_1 =>
    LdI .i64 ⟨g_, 2, none⟩ w9 fun x46_2 =>
    LdL ⟨g_, 3, none⟩ w9 fun x46_3_b x46_3_l x46_3_c =>
    framelaw_SameFrame.Call x45_0 x45_1 x45_2 x45_3_b x45_3_l x45_3_c x46_0 x46_1 x46_2 x46_3_b x46_3_l x46_3_c w9 fun r47 w10 =>
    sB1 w0 b7 f_ g_ r38_1 r47 w10) (
    sB1 w0 b7 f_ g_ r38_1 false w9)) = kstep Try.prog 56 Try.f14.results.toList (Try.f14.body.getD .skip) (framelaw_Decode.RV R) (kvc Try.prog 56 Try.f14.results.toList (Try.f14.body.getD .skip) (framelaw_Decode.RV R) [([(0, [1, 1, 1, 1, 1, 1])], fun σ w => dP (slotOf σ 0) fun w0_ => dK (slotOf σ 7) fun t7_ => dK (slotOf σ 10) fun f_ => dK (slotOf σ 12) fun g_ => dI .i64 (slotOf σ 13) fun h0_ => dB (slotOf σ 14) fun same_ => sB1 w0_ t7_ f_ g_ h0_ same_ w)] 2000) [(0, [])] [(0, .pointer w0), (1, .int .i64 c), (2, .slice raw_b raw_l raw_c)] w := by kernel_rfl
theorem framelaw_Decode.B0_sound {R : Bool → Int → Int → Int → Option Addr → Nat → Nat → Int → World → Prop}  (w0 : Option Addr) (c : Int) (raw_b : Option Addr) (raw_l raw_c : Nat) (w : World) (h : framelaw_Decode.B0 w0 c raw_b raw_l raw_c w   R) :
    KW Try.prog 14 56 (framelaw_Decode.RV R) ([(0, [])].map (toItem (Try.f14.body.getD .skip))) [(0, .pointer w0), (1, .int .i64 c), (2, .slice raw_b raw_l raw_c)] w := by
  exact block_spec Try.func14 Try.mixed (stops_cons (fun σ w h => by
      obtain ⟨w0_, e0, h⟩ := dP_elim h
      obtain ⟨t7_, e1, h⟩ := dK_elim h
      obtain ⟨f_, e2, h⟩ := dK_elim h
      obtain ⟨g_, e3, h⟩ := dK_elim h
      obtain ⟨h0_, e4, h⟩ := dI_elim h
      obtain ⟨same_, e5, h⟩ := dB_elim h
      exact (framelaw_Decode.B1_sound  w0_ t7_ f_ g_ h0_ same_ w h).weaken (Sub.cons (Sub.cons (Sub.cons (Sub.cons (Sub.cons (Sub.cons (Sub.nil _) e5) e4) e3) e2) e1) e0)) stops_nil) (Eq.mp (framelaw_Decode.B0_eq w0 c raw_b raw_l raw_c w   R (fun w0_ t7_ f_ g_ h0_ same_ w => framelaw_Decode.B1 w0_ t7_ f_ g_ h0_ same_ w  R)) h)
theorem framelaw_Decode.sound (w0 : Option Addr) (c : Int) (raw_b : Option Addr) (raw_l raw_c : Nat) (w : World) (R : Bool → Int → Int → Int → Option Addr → Nat → Nat → Int → World → Prop) (h : framelaw_Decode.B0 w0 c raw_b raw_l raw_c w R) : framelaw_Decode.Call w0 c raw_b raw_l raw_c w R := by
  have hc := calls_of_block (args := #[.pointer w0, .int .i64 c, .slice raw_b raw_l raw_c]) Try.func14 (body := (Try.f14.body.getD .skip)) (by kernel_rfl) (by kernel_rfl) (args_slot _) (framelaw_Decode.B0_sound w0 c raw_b raw_l raw_c w h)
  exact hc.mono fun e w' he => by
    obtain ⟨v, rfl, hv⟩ := he
    exact framelaw_Decode.RV_elim hv
def framelaw_Round.B1 (w0 : Option Addr) (g : Nat) (h0 : Int) (t45 : Bool) (w : World)   (R : Bool → World → Prop) : Prop :=
  Bm t45 (
    R true w) (
    Bm (h0 == (0 : Int)) (
      LdI .i64 ⟨g, 0, none⟩ w.drew fun x49_0 =>
      LdI .i64 ⟨g, 1, none⟩ w.drew fun x49_1 =>
      LdI .i64 ⟨g, 2, none⟩ w.drew fun x49_2 =>
      LdL ⟨g, 3, none⟩ w.drew fun x49_3_b x49_3_l x49_3_c =>
      Pn w0 fun a =>
      LdI .i64 (a.add 5) w.drew fun x53_0 =>
      LdI .i64 ((a.add 5).add 1) w.drew fun x53_1 =>
      LdI .i64 ((a.add 5).add 2) w.drew fun x53_2 =>
      LdL ((a.add 5).add 3) w.drew fun x53_3_b x53_3_l x53_3_c =>
      framelaw_SameFrame.Call x49_0 x49_1 x49_2 x49_3_b x49_3_l x49_3_c x53_0 x53_1 x53_2 x53_3_b x53_3_l x53_3_c w.drew fun r54 w1 =>
      R r54 w1) (
      R false w.drew))
theorem framelaw_Round.B1_eq (w0 : Option Addr) (g : Nat) (h0 : Int) (t45 : Bool) (w : World)   (R : Bool → World → Prop)  :
    (
  Bm t45 (
    R true w) (
    Bm (h0 == (0 : Int)) (
      LdI .i64 ⟨g, 0, none⟩ w.drew fun x49_0 =>
      LdI .i64 ⟨g, 1, none⟩ w.drew fun x49_1 =>
      LdI .i64 ⟨g, 2, none⟩ w.drew fun x49_2 =>
      LdL ⟨g, 3, none⟩ w.drew fun x49_3_b x49_3_l x49_3_c =>
      Pn w0 fun a =>
      LdI .i64 (a.add 5) w.drew fun x53_0 =>
      LdI .i64 ((a.add 5).add 1) w.drew fun x53_1 =>
      LdI .i64 ((a.add 5).add 2) w.drew fun x53_2 =>
      LdL ((a.add 5).add 3) w.drew fun x53_3_b x53_3_l x53_3_c =>
      framelaw_SameFrame.Call x49_0 x49_1 x49_2 x49_3_b x49_3_l x49_3_c x53_0 x53_1 x53_2 x53_3_b x53_3_l x53_3_c w.drew fun r54 w1 =>
      R r54 w1) (
      R false w.drew))) = kstep Try.prog 56 Try.f15.results.toList (Try.f15.body.getD .skip) (framelaw_Round.RV R) (kvc Try.prog 56 Try.f15.results.toList (Try.f15.body.getD .skip) (framelaw_Round.RV R) [] 2000) [(0, [1, 1, 1, 1, 0, 1]), (0, [1, 1, 1, 1, 1])] [(0, .pointer w0), (6, .pointer (some ⟨g, 0, none⟩)), (7, .int .i64 h0), (45, .bool t45)] w := by kernel_rfl
theorem framelaw_Round.B1_sound {R : Bool → World → Prop}  (w0 : Option Addr) (g : Nat) (h0 : Int) (t45 : Bool) (w : World) (h : framelaw_Round.B1 w0 g h0 t45 w   R) :
    KW Try.prog 15 56 (framelaw_Round.RV R) ([(0, [1, 1, 1, 1, 0, 1]), (0, [1, 1, 1, 1, 1])].map (toItem (Try.f15.body.getD .skip))) [(0, .pointer w0), (6, .pointer (some ⟨g, 0, none⟩)), (7, .int .i64 h0), (45, .bool t45)] w := by
  exact block_spec Try.func15 Try.mixed stops_nil (Eq.mp (framelaw_Round.B1_eq w0 g h0 t45 w   R ) h)
def framelaw_Round.B0 (w0 : Option Addr) (c : Int) (w : World)   (R : Bool → World → Prop) : Prop :=
  Pn w0 fun a =>
  LdL (a.add 4) w fun x15_b x15_l x15_c =>
  framelaw_Decode.Call w0 c x15_b x15_l x15_c w fun r16_0 r16_1_0 r16_1_1 r16_1_2 r16_1_3_b r16_1_3_l r16_1_3_c r16_2 w1 =>
  New (.cells #[.int .i64 (0 : Int), .int .i64 (0 : Int), .int .i64 (0 : Int), .slice none 0 0] 34) w1 fun g_ w2 =>
  Sts [.int .i64 r16_1_0, .int .i64 r16_1_1, .int .i64 r16_1_2, .slice r16_1_3_b r16_1_3_l r16_1_3_c] ⟨g_, 0, none⟩ 0 w2 fun w3 =>
  Bm (!r16_0) (
    R false w3) (
    Pn w0 fun a_1 =>
    (0 ≤ c ∧ c < ((2 : Nat) : Int)) ∧
    LdP (Addr.add (a_1.add 2) (c.toNat * 1)) w3 fun x27 =>
    framem_Link_Addr.Call x27 w3 fun r28 w4 =>
    Pn w0 fun a_2 =>
    LdL (a_2.add 4) w4 fun x32_b x32_l x32_c =>
    Bm (((x32_l : Nat) : Int) == (0 : Int)) (
      framelaw_Round.B1 w0 g_ r16_2 true w4  R) (
      Pn w0 fun a_3 =>
      LdL (a_3.add 4) w4 fun x39_b x39_l x39_c =>
      Pn x39_b fun a_4 =>
      (0 ≤ (0 : Int) ∧ (0 : Int) < ((x39_l : Nat) : Int)) ∧
      LdI .u8 a_4 w4 fun x41 =>
      framelaw_Round.B1 w0 g_ r16_2 ((IntKind.i64.wrap x41) != r28) w4  R))
theorem framelaw_Round.B0_eq (w0 : Option Addr) (c : Int) (w : World)   (R : Bool → World → Prop) (sB1 : Option Addr → Nat → Int → Bool → World → Prop) :
    (
  Pn w0 fun a =>
  LdL (a.add 4) w fun x15_b x15_l x15_c =>
  framelaw_Decode.Call w0 c x15_b x15_l x15_c w fun r16_0 r16_1_0 r16_1_1 r16_1_2 r16_1_3_b r16_1_3_l r16_1_3_c r16_2 w1 =>
  New (.cells #[.int .i64 (0 : Int), .int .i64 (0 : Int), .int .i64 (0 : Int), .slice none 0 0] 34) w1 fun g_ w2 =>
  Sts [.int .i64 r16_1_0, .int .i64 r16_1_1, .int .i64 r16_1_2, .slice r16_1_3_b r16_1_3_l r16_1_3_c] ⟨g_, 0, none⟩ 0 w2 fun w3 =>
  Bm (!r16_0) (
    R false w3) (
    Pn w0 fun a_1 =>
    (0 ≤ c ∧ c < ((2 : Nat) : Int)) ∧
    LdP (Addr.add (a_1.add 2) (c.toNat * 1)) w3 fun x27 =>
    framem_Link_Addr.Call x27 w3 fun r28 w4 =>
    Pn w0 fun a_2 =>
    LdL (a_2.add 4) w4 fun x32_b x32_l x32_c =>
    Bm (((x32_l : Nat) : Int) == (0 : Int)) (
      sB1 w0 g_ r16_2 true w4) (
      Pn w0 fun a_3 =>
      LdL (a_3.add 4) w4 fun x39_b x39_l x39_c =>
      Pn x39_b fun a_4 =>
      (0 ≤ (0 : Int) ∧ (0 : Int) < ((x39_l : Nat) : Int)) ∧
      LdI .u8 a_4 w4 fun x41 =>
      sB1 w0 g_ r16_2 ((IntKind.i64.wrap x41) != r28) w4))) = kstep Try.prog 56 Try.f15.results.toList (Try.f15.body.getD .skip) (framelaw_Round.RV R) (kvc Try.prog 56 Try.f15.results.toList (Try.f15.body.getD .skip) (framelaw_Round.RV R) [([(0, [1, 1, 1, 1, 0, 1]), (0, [1, 1, 1, 1, 1])], fun σ w => dP (slotOf σ 0) fun w0_ => dK (slotOf σ 6) fun g_ => dI .i64 (slotOf σ 7) fun h0_ => dB (slotOf σ 45) fun t45_ => sB1 w0_ g_ h0_ t45_ w)] 2000) [(0, [])] [(0, .pointer w0), (1, .int .i64 c)] w := by kernel_rfl
theorem framelaw_Round.B0_sound {R : Bool → World → Prop}  (w0 : Option Addr) (c : Int) (w : World) (h : framelaw_Round.B0 w0 c w   R) :
    KW Try.prog 15 56 (framelaw_Round.RV R) ([(0, [])].map (toItem (Try.f15.body.getD .skip))) [(0, .pointer w0), (1, .int .i64 c)] w := by
  exact block_spec Try.func15 Try.mixed (stops_cons (fun σ w h => by
      obtain ⟨w0_, e0, h⟩ := dP_elim h
      obtain ⟨g_, e1, h⟩ := dK_elim h
      obtain ⟨h0_, e2, h⟩ := dI_elim h
      obtain ⟨t45_, e3, h⟩ := dB_elim h
      exact (framelaw_Round.B1_sound  w0_ g_ h0_ t45_ w h).weaken (Sub.cons (Sub.cons (Sub.cons (Sub.cons (Sub.nil _) e3) e2) e1) e0)) stops_nil) (Eq.mp (framelaw_Round.B0_eq w0 c w   R (fun w0_ g_ h0_ t45_ w => framelaw_Round.B1 w0_ g_ h0_ t45_ w  R)) h)
theorem framelaw_Round.sound (w0 : Option Addr) (c : Int) (w : World) (R : Bool → World → Prop) (h : framelaw_Round.B0 w0 c w R) : framelaw_Round.Call w0 c w R := by
  have hc := calls_of_block (args := #[.pointer w0, .int .i64 c]) Try.func15 (body := (Try.f15.body.getD .skip)) (by kernel_rfl) (by kernel_rfl) (args_slot _) (framelaw_Round.B0_sound w0 c w h)
  exact hc.mono fun e w' he => by
    obtain ⟨v, rfl, hv⟩ := he
    exact framelaw_Round.RV_elim hv
def framelaw_Flip.B1 (w0 : Option Addr) (c k : Int) (t22 : Bool) (w : World)   (R : Bool → World → Prop) : Prop :=
  Bm t22 (
    R true w) (
    Pn w0 fun a =>
    LdL (a.add 4) w fun x26_b x26_l x26_c =>
    api_CopyBytes.Call x26_b x26_l x26_c w fun r27_b r27_l r27_c w1 =>
    (8 : Int) ≠ 0 ∧
    (8 : Int) ≠ 0 ∧
    Pn r27_b fun a_1 =>
    (0 ≤ (IntKind.i64.wrap (k.tdiv (8 : Int))) ∧ (IntKind.i64.wrap (k.tdiv (8 : Int))) < ((r27_l : Nat) : Int)) ∧
    LdI .u8 (Addr.add a_1 ((IntKind.i64.wrap (k.tdiv (8 : Int))).toNat * 1)) w1 fun x35 =>
    (8 : Int) ≠ 0 ∧
    0 ≤ (IntKind.u64.wrap (k.tmod (8 : Int))) ∧
    Pn r27_b fun a_2 =>
    (0 ≤ (IntKind.i64.wrap (k.tdiv (8 : Int))) ∧ (IntKind.i64.wrap (k.tdiv (8 : Int))) < ((r27_l : Nat) : Int)) ∧
    Sts [.int .u8 (IntKind.u8.wrap (BitVec.ofInt IntKind.u8.bits x35 ^^^ BitVec.ofInt IntKind.u8.bits (IntKind.u8.wrap ((1 : Int) * 2 ^ (min (IntKind.u64.wrap (k.tmod (8 : Int))).toNat IntKind.u8.bits)))).toNat)] (Addr.add a_2 ((IntKind.i64.wrap (k.tdiv (8 : Int))).toNat * 1)) 0 w1 fun w2 =>
    framelaw_Decode.Call w0 c r27_b r27_l r27_c w2 fun r46_0 r46_1_0 r46_1_1 r46_1_2 r46_1_3_b r46_1_3_l r46_1_3_c r46_2 w3 =>
    New (.cells #[.int .i64 (0 : Int), .int .i64 (0 : Int), .int .i64 (0 : Int), .slice none 0 0] 34) w3 fun v__ w4 =>
    Sts [.int .i64 r46_1_0, .int .i64 r46_1_1, .int .i64 r46_1_2, .slice r46_1_3_b r46_1_3_l r46_1_3_c] ⟨v__, 0, none⟩ 0 w4 fun w5 =>
    Bm r46_0 (
      Bm (r46_2 == (3 : Int)) (
        R true w5) (
        R (r46_2 == (4 : Int)) w5)) (
      R false w5))
theorem framelaw_Flip.B1_eq (w0 : Option Addr) (c k : Int) (t22 : Bool) (w : World)   (R : Bool → World → Prop)  :
    (
  Bm t22 (
    R true w) (
    Pn w0 fun a =>
    LdL (a.add 4) w fun x26_b x26_l x26_c =>
    api_CopyBytes.Call x26_b x26_l x26_c w fun r27_b r27_l r27_c w1 =>
    (8 : Int) ≠ 0 ∧
    (8 : Int) ≠ 0 ∧
    Pn r27_b fun a_1 =>
    (0 ≤ (IntKind.i64.wrap (k.tdiv (8 : Int))) ∧ (IntKind.i64.wrap (k.tdiv (8 : Int))) < ((r27_l : Nat) : Int)) ∧
    LdI .u8 (Addr.add a_1 ((IntKind.i64.wrap (k.tdiv (8 : Int))).toNat * 1)) w1 fun x35 =>
    (8 : Int) ≠ 0 ∧
    0 ≤ (IntKind.u64.wrap (k.tmod (8 : Int))) ∧
    Pn r27_b fun a_2 =>
    (0 ≤ (IntKind.i64.wrap (k.tdiv (8 : Int))) ∧ (IntKind.i64.wrap (k.tdiv (8 : Int))) < ((r27_l : Nat) : Int)) ∧
    Sts [.int .u8 (IntKind.u8.wrap (BitVec.ofInt IntKind.u8.bits x35 ^^^ BitVec.ofInt IntKind.u8.bits (IntKind.u8.wrap ((1 : Int) * 2 ^ (min (IntKind.u64.wrap (k.tmod (8 : Int))).toNat IntKind.u8.bits)))).toNat)] (Addr.add a_2 ((IntKind.i64.wrap (k.tdiv (8 : Int))).toNat * 1)) 0 w1 fun w2 =>
    framelaw_Decode.Call w0 c r27_b r27_l r27_c w2 fun r46_0 r46_1_0 r46_1_1 r46_1_2 r46_1_3_b r46_1_3_l r46_1_3_c r46_2 w3 =>
    New (.cells #[.int .i64 (0 : Int), .int .i64 (0 : Int), .int .i64 (0 : Int), .slice none 0 0] 34) w3 fun v__ w4 =>
    Sts [.int .i64 r46_1_0, .int .i64 r46_1_1, .int .i64 r46_1_2, .slice r46_1_3_b r46_1_3_l r46_1_3_c] ⟨v__, 0, none⟩ 0 w4 fun w5 =>
    Bm r46_0 (
      Bm (r46_2 == (3 : Int)) (
        R true w5) (
        R (r46_2 == (4 : Int)) w5)) (
      R false w5))) = kstep Try.prog 59 Try.f16.results.toList (Try.f16.body.getD .skip) (framelaw_Flip.RV R) (kvc Try.prog 59 Try.f16.results.toList (Try.f16.body.getD .skip) (framelaw_Flip.RV R) [] 2000) [(0, [1, 0, 1]), (0, [1, 1])] [(0, .pointer w0), (1, .int .i64 c), (2, .int .i64 k), (22, .bool t22)] w := by kernel_rfl
theorem framelaw_Flip.B1_sound {R : Bool → World → Prop}  (w0 : Option Addr) (c k : Int) (t22 : Bool) (w : World) (h : framelaw_Flip.B1 w0 c k t22 w   R) :
    KW Try.prog 16 59 (framelaw_Flip.RV R) ([(0, [1, 0, 1]), (0, [1, 1])].map (toItem (Try.f16.body.getD .skip))) [(0, .pointer w0), (1, .int .i64 c), (2, .int .i64 k), (22, .bool t22)] w := by
  exact block_spec Try.func16 Try.mixed stops_nil (Eq.mp (framelaw_Flip.B1_eq w0 c k t22 w   R ) h)
def framelaw_Flip.B0 (w0 : Option Addr) (c k : Int) (w : World)   (R : Bool → World → Prop) : Prop :=
  Bm (decide (k < (0 : Int))) (
    framelaw_Flip.B1 w0 c k true w  R) (
    Pn w0 fun a =>
    LdL (a.add 4) w fun x18_b x18_l x18_c =>
    framelaw_Flip.B1 w0 c k (decide (k ≥ (IntKind.i64.wrap ((8 : Int) * ((x18_l : Nat) : Int))))) w  R)
theorem framelaw_Flip.B0_eq (w0 : Option Addr) (c k : Int) (w : World)   (R : Bool → World → Prop) (sB1 : Option Addr → Int → Int → Bool → World → Prop) :
    (
  Bm (decide (k < (0 : Int))) (
    sB1 w0 c k true w) (
    Pn w0 fun a =>
    LdL (a.add 4) w fun x18_b x18_l x18_c =>
    sB1 w0 c k (decide (k ≥ (IntKind.i64.wrap ((8 : Int) * ((x18_l : Nat) : Int))))) w)) = kstep Try.prog 59 Try.f16.results.toList (Try.f16.body.getD .skip) (framelaw_Flip.RV R) (kvc Try.prog 59 Try.f16.results.toList (Try.f16.body.getD .skip) (framelaw_Flip.RV R) [([(0, [1, 0, 1]), (0, [1, 1])], fun σ w => dP (slotOf σ 0) fun w0_ => dI .i64 (slotOf σ 1) fun c_ => dI .i64 (slotOf σ 2) fun k_ => dB (slotOf σ 22) fun t22_ => sB1 w0_ c_ k_ t22_ w)] 2000) [(0, [])] [(0, .pointer w0), (1, .int .i64 c), (2, .int .i64 k)] w := by kernel_rfl
theorem framelaw_Flip.B0_sound {R : Bool → World → Prop}  (w0 : Option Addr) (c k : Int) (w : World) (h : framelaw_Flip.B0 w0 c k w   R) :
    KW Try.prog 16 59 (framelaw_Flip.RV R) ([(0, [])].map (toItem (Try.f16.body.getD .skip))) [(0, .pointer w0), (1, .int .i64 c), (2, .int .i64 k)] w := by
  exact block_spec Try.func16 Try.mixed (stops_cons (fun σ w h => by
      obtain ⟨w0_, e0, h⟩ := dP_elim h
      obtain ⟨c_, e1, h⟩ := dI_elim h
      obtain ⟨k_, e2, h⟩ := dI_elim h
      obtain ⟨t22_, e3, h⟩ := dB_elim h
      exact (framelaw_Flip.B1_sound  w0_ c_ k_ t22_ w h).weaken (Sub.cons (Sub.cons (Sub.cons (Sub.cons (Sub.nil _) e3) e2) e1) e0)) stops_nil) (Eq.mp (framelaw_Flip.B0_eq w0 c k w   R (fun w0_ c_ k_ t22_ w => framelaw_Flip.B1 w0_ c_ k_ t22_ w  R)) h)
theorem framelaw_Flip.sound (w0 : Option Addr) (c k : Int) (w : World) (R : Bool → World → Prop) (h : framelaw_Flip.B0 w0 c k w R) : framelaw_Flip.Call w0 c k w R := by
  have hc := calls_of_block (args := #[.pointer w0, .int .i64 c, .int .i64 k]) Try.func16 (body := (Try.f16.body.getD .skip)) (by kernel_rfl) (by kernel_rfl) (args_slot _) (framelaw_Flip.B0_sound w0 c k w h)
  exact hc.mono fun e w' he => by
    obtain ⟨v, rfl, hv⟩ := he
    exact framelaw_Flip.RV_elim hv
def framelaw_SameAddr.B0 (x m0 : Option Addr) (w : World)   (R : Bool → World → Prop) : Prop :=
  frame_Link_Addr.Call x w fun r8 w1 =>
  framem_Link_Addr.Call m0 w1 fun r10 w2 =>
  R (r8 == r10) w2
theorem framelaw_SameAddr.B0_eq (x m0 : Option Addr) (w : World)   (R : Bool → World → Prop)  :
    (
  frame_Link_Addr.Call x w fun r8 w1 =>
  framem_Link_Addr.Call m0 w1 fun r10 w2 =>
  R (r8 == r10) w2) = kstep Try.prog 14 Try.f17.results.toList (Try.f17.body.getD .skip) (framelaw_SameAddr.RV R) (kvc Try.prog 14 Try.f17.results.toList (Try.f17.body.getD .skip) (framelaw_SameAddr.RV R) [] 2000) [(0, [])] [(0, .pointer x), (1, .pointer m0)] w := by kernel_rfl
theorem framelaw_SameAddr.B0_sound {R : Bool → World → Prop}  (x m0 : Option Addr) (w : World) (h : framelaw_SameAddr.B0 x m0 w   R) :
    KW Try.prog 17 14 (framelaw_SameAddr.RV R) ([(0, [])].map (toItem (Try.f17.body.getD .skip))) [(0, .pointer x), (1, .pointer m0)] w := by
  exact block_spec Try.func17 Try.mixed stops_nil (Eq.mp (framelaw_SameAddr.B0_eq x m0 w   R ) h)
theorem framelaw_SameAddr.sound (x m0 : Option Addr) (w : World) (R : Bool → World → Prop) (h : framelaw_SameAddr.B0 x m0 w R) : framelaw_SameAddr.Call x m0 w R := by
  have hc := calls_of_block (args := #[.pointer x, .pointer m0]) Try.func17 (body := (Try.f17.body.getD .skip)) (by kernel_rfl) (by kernel_rfl) (args_slot _) (framelaw_SameAddr.B0_sound x m0 w h)
  exact hc.mono fun e w' he => by
    obtain ⟨v, rfl, hv⟩ := he
    exact framelaw_SameAddr.RV_elim hv
def framelaw_SameStats.B0 (x m0 : Option Addr) (w : World)   (R : Bool → World → Prop) : Prop :=
  frame_Link_Stats.Call x w fun r8_0 r8_1 r8_2 r8_3 w1 =>
  New (.cells #[.int .i64 (0 : Int), .int .i64 (0 : Int), .int .i64 (0 : Int), .int .i64 (0 : Int)] 48) w1 fun a_ w2 =>
  Sts [.int .i64 r8_0, .int .i64 r8_1, .int .i64 r8_2, .int .i64 r8_3] ⟨a_, 0, none⟩ 0 w2 fun w3 =>
  framem_Link_Stats.Call m0 w3 fun r10_0 r10_1 r10_2 r10_3 w4 =>
  New (.cells #[.int .i64 (0 : Int), .int .i64 (0 : Int), .int .i64 (0 : Int), .int .i64 (0 : Int)] 48) w4 fun b_ w5 =>
  Sts [.int .i64 r10_0, .int .i64 r10_1, .int .i64 r10_2, .int .i64 r10_3] ⟨b_, 0, none⟩ 0 w5 fun w6 =>
  LdI .i64 ⟨a_, 0, none⟩ w6 fun x12 =>
  LdI .i64 ⟨b_, 0, none⟩ w6 fun x14 =>
  Bm (x12 == x14) (
    LdI .i64 ⟨a_, 1, none⟩ w6 fun x18 =>
    LdI .i64 ⟨b_, 1, none⟩ w6 fun x20 =>
    Bm (x18 == x20) (
      LdI .i64 ⟨a_, 2, none⟩ w6 fun x25 =>
      LdI .i64 ⟨b_, 2, none⟩ w6 fun x27 =>
      Bm (x25 == x27) (
        LdI .i64 ⟨a_, 3, none⟩ w6 fun x32 =>
        LdI .i64 ⟨b_, 3, none⟩ w6 fun x34 =>
        R (x32 == x34) w6) (
        R false w6)) (
      R false w6)) (
    R false w6)
theorem framelaw_SameStats.B0_eq (x m0 : Option Addr) (w : World)   (R : Bool → World → Prop)  :
    (
  frame_Link_Stats.Call x w fun r8_0 r8_1 r8_2 r8_3 w1 =>
  New (.cells #[.int .i64 (0 : Int), .int .i64 (0 : Int), .int .i64 (0 : Int), .int .i64 (0 : Int)] 48) w1 fun a_ w2 =>
  Sts [.int .i64 r8_0, .int .i64 r8_1, .int .i64 r8_2, .int .i64 r8_3] ⟨a_, 0, none⟩ 0 w2 fun w3 =>
  framem_Link_Stats.Call m0 w3 fun r10_0 r10_1 r10_2 r10_3 w4 =>
  New (.cells #[.int .i64 (0 : Int), .int .i64 (0 : Int), .int .i64 (0 : Int), .int .i64 (0 : Int)] 48) w4 fun b_ w5 =>
  Sts [.int .i64 r10_0, .int .i64 r10_1, .int .i64 r10_2, .int .i64 r10_3] ⟨b_, 0, none⟩ 0 w5 fun w6 =>
  LdI .i64 ⟨a_, 0, none⟩ w6 fun x12 =>
  LdI .i64 ⟨b_, 0, none⟩ w6 fun x14 =>
  Bm (x12 == x14) (
    LdI .i64 ⟨a_, 1, none⟩ w6 fun x18 =>
    LdI .i64 ⟨b_, 1, none⟩ w6 fun x20 =>
    Bm (x18 == x20) (
      LdI .i64 ⟨a_, 2, none⟩ w6 fun x25 =>
      LdI .i64 ⟨b_, 2, none⟩ w6 fun x27 =>
      Bm (x25 == x27) (
        LdI .i64 ⟨a_, 3, none⟩ w6 fun x32 =>
        LdI .i64 ⟨b_, 3, none⟩ w6 fun x34 =>
        R (x32 == x34) w6) (
        R false w6)) (
      R false w6)) (
    R false w6)) = kstep Try.prog 37 Try.f18.results.toList (Try.f18.body.getD .skip) (framelaw_SameStats.RV R) (kvc Try.prog 37 Try.f18.results.toList (Try.f18.body.getD .skip) (framelaw_SameStats.RV R) [] 2000) [(0, [])] [(0, .pointer x), (1, .pointer m0)] w := by kernel_rfl
theorem framelaw_SameStats.B0_sound {R : Bool → World → Prop}  (x m0 : Option Addr) (w : World) (h : framelaw_SameStats.B0 x m0 w   R) :
    KW Try.prog 18 37 (framelaw_SameStats.RV R) ([(0, [])].map (toItem (Try.f18.body.getD .skip))) [(0, .pointer x), (1, .pointer m0)] w := by
  exact block_spec Try.func18 Try.mixed stops_nil (Eq.mp (framelaw_SameStats.B0_eq x m0 w   R ) h)
theorem framelaw_SameStats.sound (x m0 : Option Addr) (w : World) (R : Bool → World → Prop) (h : framelaw_SameStats.B0 x m0 w R) : framelaw_SameStats.Call x m0 w R := by
  have hc := calls_of_block (args := #[.pointer x, .pointer m0]) Try.func18 (body := (Try.f18.body.getD .skip)) (by kernel_rfl) (by kernel_rfl) (args_slot _) (framelaw_SameStats.B0_sound x m0 w h)
  exact hc.mono fun e w' he => by
    obtain ⟨v, rfl, hv⟩ := he
    exact framelaw_SameStats.RV_elim hv
def frame_Link_Check.L1b (l : Option Addr) (sum c : Int) (w : World)  (N1 : Option Addr → Int → Int → World → Prop) (R : Bool → World → Prop) : Prop :=
  Bm (decide (c < (4 : Int))) (
    Pn l fun a =>
    (0 ≤ c ∧ c < ((4 : Nat) : Int)) ∧
    LdI .i64 (Addr.add (a.add 1) (c.toNat * 1)) w fun x14 =>
    Bm (decide (x14 < (0 : Int))) (
      R false w) (
      Pn l fun a_1 =>
      (0 ≤ c ∧ c < ((4 : Nat) : Int)) ∧
      LdI .i64 (Addr.add (a_1.add 1) (c.toNat * 1)) w fun x22 =>
      N1 l (IntKind.i64.wrap (sum + x22)) (IntKind.i64.wrap (c + (1 : Int))) w)) (
    Pn l fun a_2 =>
    LdI .i64 (a_2.add 5) w fun x28 =>
    R (sum == x28) w)
theorem frame_Link_Check.L1b_eq (l : Option Addr) (sum c : Int) (w : World)  (N1 : Option Addr → Int → Int → World → Prop) (R : Bool → World → Prop)  :
    (
  Bm (decide (c < (4 : Int))) (
    Pn l fun a =>
    (0 ≤ c ∧ c < ((4 : Nat) : Int)) ∧
    LdI .i64 (Addr.add (a.add 1) (c.toNat * 1)) w fun x14 =>
    Bm (decide (x14 < (0 : Int))) (
      R false w) (
      Pn l fun a_1 =>
      (0 ≤ c ∧ c < ((4 : Nat) : Int)) ∧
      LdI .i64 (Addr.add (a_1.add 1) (c.toNat * 1)) w fun x22 =>
      N1 l (IntKind.i64.wrap (sum + x22)) (IntKind.i64.wrap (c + (1 : Int))) w)) (
    Pn l fun a_2 =>
    LdI .i64 (a_2.add 5) w fun x28 =>
    R (sum == x28) w)) = kstep Try.prog 30 Try.f19.results.toList (Try.f19.body.getD .skip) (frame_Link_Check.RV R) (kvc Try.prog 30 Try.f19.results.toList (Try.f19.body.getD .skip) (frame_Link_Check.RV R) [([(0, [1, 1, 0, 1, 0, 0]), (2, [1, 1, 0, 1, 0, 0]), (1, [0]), (0, [1, 1, 1])], fun σ w => dP (slotOf σ 0) fun l_ => dI .i64 (slotOf σ 3) fun sum_ => dI .i64 (slotOf σ 4) fun c_ => N1 l_ sum_ c_ w)] 2000) [(0, [1, 1, 0, 1, 0, 0]), (2, [1, 1, 0, 1, 0, 0]), (1, [0]), (0, [1, 1, 1])] [(0, .pointer l), (3, .int .i64 sum), (4, .int .i64 c)] w := by kernel_rfl
theorem frame_Link_Check.L1b_sound {R : Bool → World → Prop} {N1 : Option Addr → Int → Int → World → Prop} (hN1 : ∀ l sum c w, N1 l sum c w → KW Try.prog 19 30 (frame_Link_Check.RV R) ([(0, [1, 1, 0, 1, 0, 0]), (2, [1, 1, 0, 1, 0, 0]), (1, [0]), (0, [1, 1, 1])].map (toItem (Try.f19.body.getD .skip))) [(0, .pointer l), (3, .int .i64 sum), (4, .int .i64 c)] w) (l : Option Addr) (sum c : Int) (w : World) (h : frame_Link_Check.L1b l sum c w  N1 R) :
    KW Try.prog 19 30 (frame_Link_Check.RV R) ([(0, [1, 1, 0, 1, 0, 0]), (2, [1, 1, 0, 1, 0, 0]), (1, [0]), (0, [1, 1, 1])].map (toItem (Try.f19.body.getD .skip))) [(0, .pointer l), (3, .int .i64 sum), (4, .int .i64 c)] w := by
  exact block_spec Try.func19 Try.mixed (stops_cons (fun σ w h => by
      obtain ⟨l_, e0, h⟩ := dP_elim h
      obtain ⟨sum_, e1, h⟩ := dI_elim h
      obtain ⟨c_, e2, h⟩ := dI_elim h
      exact (hN1 l_ sum_ c_ w h).weaken (Sub.cons (Sub.cons (Sub.cons (Sub.nil _) e2) e1) e0)) stops_nil) (Eq.mp (frame_Link_Check.L1b_eq l sum c w  N1 R ) h)
def frame_Link_Check.L1 (l : Option Addr) (sum c : Int) (w : World)  (R : Bool → World → Prop) : Prop :=
  ∃ (I : Nat → Option Addr → Int → Int → World → Prop) (m : Nat), I m l sum c w ∧ ∀ m l sum c w, I m l sum c w → frame_Link_Check.L1b l sum c w  (fun l' sum' c' w' => ∃ m', m' < m ∧ I m' l' sum' c' w') R
theorem frame_Link_Check.L1_sound {R : Bool → World → Prop}  (l : Option Addr) (sum c : Int) (w : World) (h : frame_Link_Check.L1 l sum c w  R) :
    KW Try.prog 19 30 (frame_Link_Check.RV R) ([(0, [1, 1, 0, 1, 0, 0]), (2, [1, 1, 0, 1, 0, 0]), (1, [0]), (0, [1, 1, 1])].map (toItem (Try.f19.body.getD .skip))) [(0, .pointer l), (3, .int .i64 sum), (4, .int .i64 c)] w := by
  obtain ⟨I, m, h0, hr⟩ := h
  refine KW.loop (fun m σ w => ∃ (l : Option Addr) (sum c : Int), σ = [(0, .pointer l), (3, .int .i64 sum), (4, .int .i64 c)] ∧ I m l sum c w) ?_ m _ w ⟨l, sum, c, rfl, h0⟩
  rintro m ih σ w ⟨l, sum, c, rfl, hI⟩
  exact frame_Link_Check.L1b_sound  (N1 := fun l' sum' c' w' => ∃ m', m' < m ∧ I m' l' sum' c' w') (fun l' sum' c' w' hx => by obtain ⟨m', hlt, hI'⟩ := hx; exact ih m' hlt _ w' ⟨l', sum', c', rfl, hI'⟩) l sum c w (hr m l sum c w hI)
def frame_Link_Check.B0 (l : Option Addr) (w : World)   (R : Bool → World → Prop) : Prop :=
  frame_Link_Check.L1 l (0 : Int) (0 : Int) w  R
theorem frame_Link_Check.B0_eq (l : Option Addr) (w : World)   (R : Bool → World → Prop) (sL1 : Option Addr → Int → Int → World → Prop) :
    (
  sL1 l (0 : Int) (0 : Int) w) = kstep Try.prog 30 Try.f19.results.toList (Try.f19.body.getD .skip) (frame_Link_Check.RV R) (kvc Try.prog 30 Try.f19.results.toList (Try.f19.body.getD .skip) (frame_Link_Check.RV R) [([(0, [1, 1, 0, 1, 0, 0]), (2, [1, 1, 0, 1, 0, 0]), (1, [0]), (0, [1, 1, 1])], fun σ w => dP (slotOf σ 0) fun l_ => dI .i64 (slotOf σ 3) fun sum_ => dI .i64 (slotOf σ 4) fun c_ => sL1 l_ sum_ c_ w)] 2000) [(0, [])] [(0, .pointer l)] w := by kernel_rfl
theorem frame_Link_Check.B0_sound {R : Bool → World → Prop}  (l : Option Addr) (w : World) (h : frame_Link_Check.B0 l w   R) :
    KW Try.prog 19 30 (frame_Link_Check.RV R) ([(0, [])].map (toItem (Try.f19.body.getD .skip))) [(0, .pointer l)] w := by
  exact block_spec Try.func19 Try.mixed (stops_cons (fun σ w h => by
      obtain ⟨l_, e0, h⟩ := dP_elim h
      obtain ⟨sum_, e1, h⟩ := dI_elim h
      obtain ⟨c_, e2, h⟩ := dI_elim h
      exact (frame_Link_Check.L1_sound  l_ sum_ c_ w h).weaken (Sub.cons (Sub.cons (Sub.cons (Sub.nil _) e2) e1) e0)) stops_nil) (Eq.mp (frame_Link_Check.B0_eq l w   R (fun l_ sum_ c_ w => frame_Link_Check.L1 l_ sum_ c_ w  R)) h)
theorem frame_Link_Check.sound (l : Option Addr) (w : World) (R : Bool → World → Prop) (h : frame_Link_Check.B0 l w R) : frame_Link_Check.Call l w R := by
  have hc := calls_of_block (args := #[.pointer l]) Try.func19 (body := (Try.f19.body.getD .skip)) (by kernel_rfl) (by kernel_rfl) (args_slot _) (frame_Link_Check.B0_sound l w h)
  exact hc.mono fun e w' he => by
    obtain ⟨v, rfl, hv⟩ := he
    exact frame_Link_Check.RV_elim hv
def api_SameBytes.L1b (a_b : Option Addr) (a_l a_c : Nat) (b_b : Option Addr) (b_l b_c : Nat) (i : Int) (w : World)  (N1 : Option Addr → Nat → Nat → Option Addr → Nat → Nat → Int → World → Prop) (R : Bool → World → Prop) : Prop :=
  Bm (decide (i < ((a_l : Nat) : Int))) (
    Pn a_b fun a =>
    (0 ≤ i ∧ i < ((a_l : Nat) : Int)) ∧
    LdI .u8 (Addr.add a (i.toNat * 1)) w.drew fun x20 =>
    Pn b_b fun a_1 =>
    (0 ≤ i ∧ i < ((b_l : Nat) : Int)) ∧
    LdI .u8 (Addr.add a_1 (i.toNat * 1)) w.drew fun x24 =>
    Bm (x20 != x24) (
      R false w.drew) (
      N1 a_b a_l a_c b_b b_l b_c (IntKind.i64.wrap (i + (1 : Int))) w.drew)) (
    R true w)
theorem api_SameBytes.L1b_eq (a_b : Option Addr) (a_l a_c : Nat) (b_b : Option Addr) (b_l b_c : Nat) (i : Int) (w : World)  (N1 : Option Addr → Nat → Nat → Option Addr → Nat → Nat → Int → World → Prop) (R : Bool → World → Prop)  :
    (
  Bm (decide (i < ((a_l : Nat) : Int))) (
    Pn a_b fun a =>
    (0 ≤ i ∧ i < ((a_l : Nat) : Int)) ∧
    LdI .u8 (Addr.add a (i.toNat * 1)) w.drew fun x20 =>
    Pn b_b fun a_1 =>
    (0 ≤ i ∧ i < ((b_l : Nat) : Int)) ∧
    LdI .u8 (Addr.add a_1 (i.toNat * 1)) w.drew fun x24 =>
    Bm (x20 != x24) (
      R false w.drew) (
      N1 a_b a_l a_c b_b b_l b_c (IntKind.i64.wrap (i + (1 : Int))) w.drew)) (
    R true w)) = kstep Try.prog 26 Try.f20.results.toList (Try.f20.body.getD .skip) (api_SameBytes.RV R) (kvc Try.prog 26 Try.f20.results.toList (Try.f20.body.getD .skip) (api_SameBytes.RV R) [([(0, [1, 1, 0, 1, 0, 0]), (2, [1, 1, 0, 1, 0, 0]), (1, [0]), (0, [1, 1, 1])], fun σ w => dL (slotOf σ 0) fun a_b_ a_l_ a_c_ => dL (slotOf σ 1) fun b_b_ b_l_ b_c_ => dI .i64 (slotOf σ 5) fun i_ => N1 a_b_ a_l_ a_c_ b_b_ b_l_ b_c_ i_ w)] 2000) [(0, [1, 1, 0, 1, 0, 0]), (2, [1, 1, 0, 1, 0, 0]), (1, [0]), (0, [1, 1, 1])] [(0, .slice a_b a_l a_c), (1, .slice b_b b_l b_c), (5, .int .i64 i)] w := by kernel_rfl
theorem api_SameBytes.L1b_sound {R : Bool → World → Prop} {N1 : Option Addr → Nat → Nat → Option Addr → Nat → Nat → Int → World → Prop} (hN1 : ∀ a_b a_l a_c b_b b_l b_c i w, N1 a_b a_l a_c b_b b_l b_c i w → KW Try.prog 20 26 (api_SameBytes.RV R) ([(0, [1, 1, 0, 1, 0, 0]), (2, [1, 1, 0, 1, 0, 0]), (1, [0]), (0, [1, 1, 1])].map (toItem (Try.f20.body.getD .skip))) [(0, .slice a_b a_l a_c), (1, .slice b_b b_l b_c), (5, .int .i64 i)] w) (a_b : Option Addr) (a_l a_c : Nat) (b_b : Option Addr) (b_l b_c : Nat) (i : Int) (w : World) (h : api_SameBytes.L1b a_b a_l a_c b_b b_l b_c i w  N1 R) :
    KW Try.prog 20 26 (api_SameBytes.RV R) ([(0, [1, 1, 0, 1, 0, 0]), (2, [1, 1, 0, 1, 0, 0]), (1, [0]), (0, [1, 1, 1])].map (toItem (Try.f20.body.getD .skip))) [(0, .slice a_b a_l a_c), (1, .slice b_b b_l b_c), (5, .int .i64 i)] w := by
  exact block_spec Try.func20 Try.mixed (stops_cons (fun σ w h => by
      obtain ⟨a_b_, a_l_, a_c_, e0, h⟩ := dL_elim h
      obtain ⟨b_b_, b_l_, b_c_, e1, h⟩ := dL_elim h
      obtain ⟨i_, e2, h⟩ := dI_elim h
      exact (hN1 a_b_ a_l_ a_c_ b_b_ b_l_ b_c_ i_ w h).weaken (Sub.cons (Sub.cons (Sub.cons (Sub.nil _) e2) e1) e0)) stops_nil) (Eq.mp (api_SameBytes.L1b_eq a_b a_l a_c b_b b_l b_c i w  N1 R ) h)
def api_SameBytes.L1 (a_b : Option Addr) (a_l a_c : Nat) (b_b : Option Addr) (b_l b_c : Nat) (i : Int) (w : World)  (R : Bool → World → Prop) : Prop :=
  ∃ (I : Nat → Option Addr → Nat → Nat → Option Addr → Nat → Nat → Int → World → Prop) (m : Nat), I m a_b a_l a_c b_b b_l b_c i w ∧ ∀ m a_b a_l a_c b_b b_l b_c i w, I m a_b a_l a_c b_b b_l b_c i w → api_SameBytes.L1b a_b a_l a_c b_b b_l b_c i w  (fun a_b' a_l' a_c' b_b' b_l' b_c' i' w' => ∃ m', m' < m ∧ I m' a_b' a_l' a_c' b_b' b_l' b_c' i' w') R
theorem api_SameBytes.L1_sound {R : Bool → World → Prop}  (a_b : Option Addr) (a_l a_c : Nat) (b_b : Option Addr) (b_l b_c : Nat) (i : Int) (w : World) (h : api_SameBytes.L1 a_b a_l a_c b_b b_l b_c i w  R) :
    KW Try.prog 20 26 (api_SameBytes.RV R) ([(0, [1, 1, 0, 1, 0, 0]), (2, [1, 1, 0, 1, 0, 0]), (1, [0]), (0, [1, 1, 1])].map (toItem (Try.f20.body.getD .skip))) [(0, .slice a_b a_l a_c), (1, .slice b_b b_l b_c), (5, .int .i64 i)] w := by
  obtain ⟨I, m, h0, hr⟩ := h
  refine KW.loop (fun m σ w => ∃ (a_b : Option Addr) (a_l a_c : Nat) (b_b : Option Addr) (b_l b_c : Nat) (i : Int), σ = [(0, .slice a_b a_l a_c), (1, .slice b_b b_l b_c), (5, .int .i64 i)] ∧ I m a_b a_l a_c b_b b_l b_c i w) ?_ m _ w ⟨a_b, a_l, a_c, b_b, b_l, b_c, i, rfl, h0⟩
  rintro m ih σ w ⟨a_b, a_l, a_c, b_b, b_l, b_c, i, rfl, hI⟩
  exact api_SameBytes.L1b_sound  (N1 := fun a_b' a_l' a_c' b_b' b_l' b_c' i' w' => ∃ m', m' < m ∧ I m' a_b' a_l' a_c' b_b' b_l' b_c' i' w') (fun a_b' a_l' a_c' b_b' b_l' b_c' i' w' hx => by obtain ⟨m', hlt, hI'⟩ := hx; exact ih m' hlt _ w' ⟨a_b', a_l', a_c', b_b', b_l', b_c', i', rfl, hI'⟩) a_b a_l a_c b_b b_l b_c i w (hr m a_b a_l a_c b_b b_l b_c i w hI)
def api_SameBytes.B0 (a_b : Option Addr) (a_l a_c : Nat) (b_b : Option Addr) (b_l b_c : Nat) (w : World)   (R : Bool → World → Prop) : Prop :=
  Bm (((a_l : Nat) : Int) != ((b_l : Nat) : Int)) (
    R false w) (
    api_SameBytes.L1 a_b a_l a_c b_b b_l b_c (0 : Int) w  R)
theorem api_SameBytes.B0_eq (a_b : Option Addr) (a_l a_c : Nat) (b_b : Option Addr) (b_l b_c : Nat) (w : World)   (R : Bool → World → Prop) (sL1 : Option Addr → Nat → Nat → Option Addr → Nat → Nat → Int → World → Prop) :
    (
  Bm (((a_l : Nat) : Int) != ((b_l : Nat) : Int)) (
    R false w) (
    sL1 a_b a_l a_c b_b b_l b_c (0 : Int) w)) = kstep Try.prog 26 Try.f20.results.toList (Try.f20.body.getD .skip) (api_SameBytes.RV R) (kvc Try.prog 26 Try.f20.results.toList (Try.f20.body.getD .skip) (api_SameBytes.RV R) [([(0, [1, 1, 0, 1, 0, 0]), (2, [1, 1, 0, 1, 0, 0]), (1, [0]), (0, [1, 1, 1])], fun σ w => dL (slotOf σ 0) fun a_b_ a_l_ a_c_ => dL (slotOf σ 1) fun b_b_ b_l_ b_c_ => dI .i64 (slotOf σ 5) fun i_ => sL1 a_b_ a_l_ a_c_ b_b_ b_l_ b_c_ i_ w)] 2000) [(0, [])] [(0, .slice a_b a_l a_c), (1, .slice b_b b_l b_c)] w := by kernel_rfl
theorem api_SameBytes.B0_sound {R : Bool → World → Prop}  (a_b : Option Addr) (a_l a_c : Nat) (b_b : Option Addr) (b_l b_c : Nat) (w : World) (h : api_SameBytes.B0 a_b a_l a_c b_b b_l b_c w   R) :
    KW Try.prog 20 26 (api_SameBytes.RV R) ([(0, [])].map (toItem (Try.f20.body.getD .skip))) [(0, .slice a_b a_l a_c), (1, .slice b_b b_l b_c)] w := by
  exact block_spec Try.func20 Try.mixed (stops_cons (fun σ w h => by
      obtain ⟨a_b_, a_l_, a_c_, e0, h⟩ := dL_elim h
      obtain ⟨b_b_, b_l_, b_c_, e1, h⟩ := dL_elim h
      obtain ⟨i_, e2, h⟩ := dI_elim h
      exact (api_SameBytes.L1_sound  a_b_ a_l_ a_c_ b_b_ b_l_ b_c_ i_ w h).weaken (Sub.cons (Sub.cons (Sub.cons (Sub.nil _) e2) e1) e0)) stops_nil) (Eq.mp (api_SameBytes.B0_eq a_b a_l a_c b_b b_l b_c w   R (fun a_b_ a_l_ a_c_ b_b_ b_l_ b_c_ i_ w => api_SameBytes.L1 a_b_ a_l_ a_c_ b_b_ b_l_ b_c_ i_ w  R)) h)
theorem api_SameBytes.sound (a_b : Option Addr) (a_l a_c : Nat) (b_b : Option Addr) (b_l b_c : Nat) (w : World) (R : Bool → World → Prop) (h : api_SameBytes.B0 a_b a_l a_c b_b b_l b_c w R) : api_SameBytes.Call a_b a_l a_c b_b b_l b_c w R := by
  have hc := calls_of_block (args := #[.slice a_b a_l a_c, .slice b_b b_l b_c]) Try.func20 (body := (Try.f20.body.getD .skip)) (by kernel_rfl) (by kernel_rfl) (args_slot _) (api_SameBytes.B0_sound a_b a_l a_c b_b b_l b_c w h)
  exact hc.mono fun e w' he => by
    obtain ⟨v, rfl, hv⟩ := he
    exact api_SameBytes.RV_elim hv
def frame_Link_Encode.L1b (l payload_b : Option Addr) (payload_l payload_c : Nat) (n : Int) (raw_b : Option Addr) (raw_l raw_c u : Nat) (i : Int) (w : World)  (N1 : Option Addr → Option Addr → Nat → Nat → Int → Option Addr → Nat → Nat → Nat → Int → World → Prop) (R : Option Addr → Nat → Nat → Int → World → Prop) : Prop :=
  Bm (decide (i < n)) (
    Pn payload_b fun a =>
    (0 ≤ i ∧ i < ((payload_l : Nat) : Int)) ∧
    LdI .u8 (Addr.add a (i.toNat * 1)) w fun x66 =>
    Pn raw_b fun a_1 =>
    (0 ≤ (IntKind.i64.wrap ((4 : Int) + i)) ∧ (IntKind.i64.wrap ((4 : Int) + i)) < ((raw_l : Nat) : Int)) ∧
    Sts [.int .u8 x66] (Addr.add a_1 ((IntKind.i64.wrap ((4 : Int) + i)).toNat * 1)) 0 w fun w1 =>
    Pn payload_b fun a_2 =>
    (0 ≤ i ∧ i < ((payload_l : Nat) : Int)) ∧
    LdI .u8 (Addr.add a_2 (i.toNat * 1)) w1 fun x71 =>
    frame_Sum_Add.Call (some ⟨u, 0, none⟩) x71 w1 fun w2 =>
    N1 l payload_b payload_l payload_c n raw_b raw_l raw_c u (IntKind.i64.wrap (i + (1 : Int))) w2) (
    frame_Sum_A.Call (some ⟨u, 0, none⟩) w fun r76 w3 =>
    Pn raw_b fun a_3 =>
    (0 ≤ (IntKind.i64.wrap ((4 : Int) + n)) ∧ (IntKind.i64.wrap ((4 : Int) + n)) < ((raw_l : Nat) : Int)) ∧
    Sts [.int .u8 r76] (Addr.add a_3 ((IntKind.i64.wrap ((4 : Int) + n)).toNat * 1)) 0 w3 fun w4 =>
    frame_Sum_B.Call (some ⟨u, 0, none⟩) w4 fun r82 w5 =>
    Pn raw_b fun a_4 =>
    (0 ≤ (IntKind.i64.wrap ((IntKind.i64.wrap ((4 : Int) + n)) + (1 : Int))) ∧ (IntKind.i64.wrap ((IntKind.i64.wrap ((4 : Int) + n)) + (1 : Int))) < ((raw_l : Nat) : Int)) ∧
    Sts [.int .u8 r82] (Addr.add a_4 ((IntKind.i64.wrap ((IntKind.i64.wrap ((4 : Int) + n)) + (1 : Int))).toNat * 1)) 0 w5 fun w6 =>
    frame_Link_count.Call l (0 : Int) w6 fun w7 =>
    R raw_b raw_l raw_c (0 : Int) w7)
theorem frame_Link_Encode.L1b_eq (l payload_b : Option Addr) (payload_l payload_c : Nat) (n : Int) (raw_b : Option Addr) (raw_l raw_c u : Nat) (i : Int) (w : World)  (N1 : Option Addr → Option Addr → Nat → Nat → Int → Option Addr → Nat → Nat → Nat → Int → World → Prop) (R : Option Addr → Nat → Nat → Int → World → Prop)  :
    (
  Bm (decide (i < n)) (
    Pn payload_b fun a =>
    (0 ≤ i ∧ i < ((payload_l : Nat) : Int)) ∧
    LdI .u8 (Addr.add a (i.toNat * 1)) w fun x66 =>
    Pn raw_b fun a_1 =>
    (0 ≤ (IntKind.i64.wrap ((4 : Int) + i)) ∧ (IntKind.i64.wrap ((4 : Int) + i)) < ((raw_l : Nat) : Int)) ∧
    Sts [.int .u8 x66] (Addr.add a_1 ((IntKind.i64.wrap ((4 : Int) + i)).toNat * 1)) 0 w fun w1 =>
    Pn payload_b fun a_2 =>
    (0 ≤ i ∧ i < ((payload_l : Nat) : Int)) ∧
    LdI .u8 (Addr.add a_2 (i.toNat * 1)) w1 fun x71 =>
    frame_Sum_Add.Call (some ⟨u, 0, none⟩) x71 w1 fun w2 =>
    N1 l payload_b payload_l payload_c n raw_b raw_l raw_c u (IntKind.i64.wrap (i + (1 : Int))) w2) (
    frame_Sum_A.Call (some ⟨u, 0, none⟩) w fun r76 w3 =>
    Pn raw_b fun a_3 =>
    (0 ≤ (IntKind.i64.wrap ((4 : Int) + n)) ∧ (IntKind.i64.wrap ((4 : Int) + n)) < ((raw_l : Nat) : Int)) ∧
    Sts [.int .u8 r76] (Addr.add a_3 ((IntKind.i64.wrap ((4 : Int) + n)).toNat * 1)) 0 w3 fun w4 =>
    frame_Sum_B.Call (some ⟨u, 0, none⟩) w4 fun r82 w5 =>
    Pn raw_b fun a_4 =>
    (0 ≤ (IntKind.i64.wrap ((IntKind.i64.wrap ((4 : Int) + n)) + (1 : Int))) ∧ (IntKind.i64.wrap ((IntKind.i64.wrap ((4 : Int) + n)) + (1 : Int))) < ((raw_l : Nat) : Int)) ∧
    Sts [.int .u8 r82] (Addr.add a_4 ((IntKind.i64.wrap ((IntKind.i64.wrap ((4 : Int) + n)) + (1 : Int))).toNat * 1)) 0 w5 fun w6 =>
    frame_Link_count.Call l (0 : Int) w6 fun w7 =>
    R raw_b raw_l raw_c (0 : Int) w7)) = kstep Try.prog 87 Try.f21.results.toList (Try.f21.body.getD .skip) (frame_Link_Encode.RV R) (kvc Try.prog 87 Try.f21.results.toList (Try.f21.body.getD .skip) (frame_Link_Encode.RV R) [([(0, [1, 1, 1, 1, 1, 1, 1, 1, 1, 1, 1, 1, 0, 1, 0, 0]), (2, [1, 1, 1, 1, 1, 1, 1, 1, 1, 1, 1, 1, 0, 1, 0, 0]), (1, [0]), (0, [1, 1, 1, 1, 1, 1, 1, 1, 1, 1, 1, 1, 1])], fun σ w => dP (slotOf σ 0) fun l_ => dL (slotOf σ 3) fun payload_b_ payload_l_ payload_c_ => dI .i64 (slotOf σ 10) fun n_ => dL (slotOf σ 11) fun raw_b_ raw_l_ raw_c_ => dK (slotOf σ 12) fun u_ => dI .i64 (slotOf σ 13) fun i_ => N1 l_ payload_b_ payload_l_ payload_c_ n_ raw_b_ raw_l_ raw_c_ u_ i_ w)] 2000) [(0, [1, 1, 1, 1, 1, 1, 1, 1, 1, 1, 1, 1, 0, 1, 0, 0]), (2, [1, 1, 1, 1, 1, 1, 1, 1, 1, 1, 1, 1, 0, 1, 0, 0]), (1, [0]), (0, [1, 1, 1, 1, 1, 1, 1, 1, 1, 1, 1, 1, 1])] [(0, .pointer l), (3, .slice payload_b payload_l payload_c), (10, .int .i64 n), (11, .slice raw_b raw_l raw_c), (12, .pointer (some ⟨u, 0, none⟩)), (13, .int .i64 i)] w := by kernel_rfl
theorem frame_Link_Encode.L1b_sound {R : Option Addr → Nat → Nat → Int → World → Prop} {N1 : Option Addr → Option Addr → Nat → Nat → Int → Option Addr → Nat → Nat → Nat → Int → World → Prop} (hN1 : ∀ l payload_b payload_l payload_c n raw_b raw_l raw_c u i w, N1 l payload_b payload_l payload_c n raw_b raw_l raw_c u i w → KW Try.prog 21 87 (frame_Link_Encode.RV R) ([(0, [1, 1, 1, 1, 1, 1, 1, 1, 1, 1, 1, 1, 0, 1, 0, 0]), (2, [1, 1, 1, 1, 1, 1, 1, 1, 1, 1, 1, 1, 0, 1, 0, 0]), (1, [0]), (0, [1, 1, 1, 1, 1, 1, 1, 1, 1, 1, 1, 1, 1])].map (toItem (Try.f21.body.getD .skip))) [(0, .pointer l), (3, .slice payload_b payload_l payload_c), (10, .int .i64 n), (11, .slice raw_b raw_l raw_c), (12, .pointer (some ⟨u, 0, none⟩)), (13, .int .i64 i)] w) (l payload_b : Option Addr) (payload_l payload_c : Nat) (n : Int) (raw_b : Option Addr) (raw_l raw_c u : Nat) (i : Int) (w : World) (h : frame_Link_Encode.L1b l payload_b payload_l payload_c n raw_b raw_l raw_c u i w  N1 R) :
    KW Try.prog 21 87 (frame_Link_Encode.RV R) ([(0, [1, 1, 1, 1, 1, 1, 1, 1, 1, 1, 1, 1, 0, 1, 0, 0]), (2, [1, 1, 1, 1, 1, 1, 1, 1, 1, 1, 1, 1, 0, 1, 0, 0]), (1, [0]), (0, [1, 1, 1, 1, 1, 1, 1, 1, 1, 1, 1, 1, 1])].map (toItem (Try.f21.body.getD .skip))) [(0, .pointer l), (3, .slice payload_b payload_l payload_c), (10, .int .i64 n), (11, .slice raw_b raw_l raw_c), (12, .pointer (some ⟨u, 0, none⟩)), (13, .int .i64 i)] w := by
  exact block_spec Try.func21 Try.mixed (stops_cons (fun σ w h => by
      obtain ⟨l_, e0, h⟩ := dP_elim h
      obtain ⟨payload_b_, payload_l_, payload_c_, e1, h⟩ := dL_elim h
      obtain ⟨n_, e2, h⟩ := dI_elim h
      obtain ⟨raw_b_, raw_l_, raw_c_, e3, h⟩ := dL_elim h
      obtain ⟨u_, e4, h⟩ := dK_elim h
      obtain ⟨i_, e5, h⟩ := dI_elim h
      exact (hN1 l_ payload_b_ payload_l_ payload_c_ n_ raw_b_ raw_l_ raw_c_ u_ i_ w h).weaken (Sub.cons (Sub.cons (Sub.cons (Sub.cons (Sub.cons (Sub.cons (Sub.nil _) e5) e4) e3) e2) e1) e0)) stops_nil) (Eq.mp (frame_Link_Encode.L1b_eq l payload_b payload_l payload_c n raw_b raw_l raw_c u i w  N1 R ) h)
def frame_Link_Encode.L1 (l payload_b : Option Addr) (payload_l payload_c : Nat) (n : Int) (raw_b : Option Addr) (raw_l raw_c u : Nat) (i : Int) (w : World)  (R : Option Addr → Nat → Nat → Int → World → Prop) : Prop :=
  ∃ (I : Nat → Option Addr → Option Addr → Nat → Nat → Int → Option Addr → Nat → Nat → Nat → Int → World → Prop) (m : Nat), I m l payload_b payload_l payload_c n raw_b raw_l raw_c u i w ∧ ∀ m l payload_b payload_l payload_c n raw_b raw_l raw_c u i w, I m l payload_b payload_l payload_c n raw_b raw_l raw_c u i w → frame_Link_Encode.L1b l payload_b payload_l payload_c n raw_b raw_l raw_c u i w  (fun l' payload_b' payload_l' payload_c' n' raw_b' raw_l' raw_c' u' i' w' => ∃ m', m' < m ∧ I m' l' payload_b' payload_l' payload_c' n' raw_b' raw_l' raw_c' u' i' w') R
theorem frame_Link_Encode.L1_sound {R : Option Addr → Nat → Nat → Int → World → Prop}  (l payload_b : Option Addr) (payload_l payload_c : Nat) (n : Int) (raw_b : Option Addr) (raw_l raw_c u : Nat) (i : Int) (w : World) (h : frame_Link_Encode.L1 l payload_b payload_l payload_c n raw_b raw_l raw_c u i w  R) :
    KW Try.prog 21 87 (frame_Link_Encode.RV R) ([(0, [1, 1, 1, 1, 1, 1, 1, 1, 1, 1, 1, 1, 0, 1, 0, 0]), (2, [1, 1, 1, 1, 1, 1, 1, 1, 1, 1, 1, 1, 0, 1, 0, 0]), (1, [0]), (0, [1, 1, 1, 1, 1, 1, 1, 1, 1, 1, 1, 1, 1])].map (toItem (Try.f21.body.getD .skip))) [(0, .pointer l), (3, .slice payload_b payload_l payload_c), (10, .int .i64 n), (11, .slice raw_b raw_l raw_c), (12, .pointer (some ⟨u, 0, none⟩)), (13, .int .i64 i)] w := by
  obtain ⟨I, m, h0, hr⟩ := h
  refine KW.loop (fun m σ w => ∃ (l payload_b : Option Addr) (payload_l payload_c : Nat) (n : Int) (raw_b : Option Addr) (raw_l raw_c u : Nat) (i : Int), σ = [(0, .pointer l), (3, .slice payload_b payload_l payload_c), (10, .int .i64 n), (11, .slice raw_b raw_l raw_c), (12, .pointer (some ⟨u, 0, none⟩)), (13, .int .i64 i)] ∧ I m l payload_b payload_l payload_c n raw_b raw_l raw_c u i w) ?_ m _ w ⟨l, payload_b, payload_l, payload_c, n, raw_b, raw_l, raw_c, u, i, rfl, h0⟩
  rintro m ih σ w ⟨l, payload_b, payload_l, payload_c, n, raw_b, raw_l, raw_c, u, i, rfl, hI⟩
  exact frame_Link_Encode.L1b_sound  (N1 := fun l' payload_b' payload_l' payload_c' n' raw_b' raw_l' raw_c' u' i' w' => ∃ m', m' < m ∧ I m' l' payload_b' payload_l' payload_c' n' raw_b' raw_l' raw_c' u' i' w') (fun l' payload_b' payload_l' payload_c' n' raw_b' raw_l' raw_c' u' i' w' hx => by obtain ⟨m', hlt, hI'⟩ := hx; exact ih m' hlt _ w' ⟨l', payload_b', payload_l', payload_c', n', raw_b', raw_l', raw_c', u', i', rfl, hI'⟩) l payload_b payload_l payload_c n raw_b raw_l raw_c u i w (hr m l payload_b payload_l payload_c n raw_b raw_l raw_c u i w hI)
def frame_Link_Encode.B2 (l : Option Addr) (dst typ : Int) (payload_b : Option Addr) (payload_l payload_c : Nat) (t25 : Bool) (w : World)   (R : Option Addr → Nat → Nat → Int → World → Prop) : Prop :=
  Bm t25 (
    R none 0 0 (6 : Int) w) (
    Bm (decide (((payload_l : Nat) : Int) > (24 : Int))) (
      R none 0 0 (2 : Int) w) (
      Make 5 (.int .u8 (0 : Int)) 1 1 (IntKind.i64.wrap ((IntKind.i64.wrap ((4 : Int) + ((payload_l : Nat) : Int))) + (2 : Int))) (IntKind.i64.wrap ((IntKind.i64.wrap ((4 : Int) + ((payload_l : Nat) : Int))) + (2 : Int))) w fun b33 w1 =>
      (0 ≤ (0 : Int) ∧ (0 : Int) < (((IntKind.i64.wrap ((IntKind.i64.wrap ((4 : Int) + ((payload_l : Nat) : Int))) + (2 : Int))).toNat : Nat) : Int)) ∧
      Sts [.int .u8 (IntKind.u8.wrap dst)] ⟨b33, 0, none⟩ 0 w1 fun w2 =>
      Pn l fun a =>
      LdI .u8 a w2 fun x42 =>
      (0 ≤ (1 : Int) ∧ (1 : Int) < (((IntKind.i64.wrap ((IntKind.i64.wrap ((4 : Int) + ((payload_l : Nat) : Int))) + (2 : Int))).toNat : Nat) : Int)) ∧
      Sts [.int .u8 x42] ⟨b33, 1, none⟩ 0 w2 fun w3 =>
      (0 ≤ (2 : Int) ∧ (2 : Int) < (((IntKind.i64.wrap ((IntKind.i64.wrap ((4 : Int) + ((payload_l : Nat) : Int))) + (2 : Int))).toNat : Nat) : Int)) ∧
      Sts [.int .u8 (IntKind.u8.wrap typ)] ⟨b33, 2, none⟩ 0 w3 fun w4 =>
      (0 ≤ (3 : Int) ∧ (3 : Int) < (((IntKind.i64.wrap ((IntKind.i64.wrap ((4 : Int) + ((payload_l : Nat) : Int))) + (2 : Int))).toNat : Nat) : Int)) ∧
      Sts [.int .u8 (IntKind.u8.wrap ((payload_l : Nat) : Int))] ⟨b33, 3, none⟩ 0 w4 fun w5 =>
      New (.cells #[.int .u8 (0 : Int), .int .u8 (0 : Int)] 72) w5 fun u_ w6 =>
      (0 ≤ (4 : Int) ∧ (4 : Int) ≤ (((IntKind.i64.wrap ((IntKind.i64.wrap ((4 : Int) + ((payload_l : Nat) : Int))) + (2 : Int))).toNat : Nat) : Int)) ∧
      frame_Sum_AddAll.Call (some ⟨u_, 0, none⟩) (slBase (some (⟨b33, 0, none⟩ : Addr)) ((0 : Nat) : Int) (((IntKind.i64.wrap ((IntKind.i64.wrap ((4 : Int) + ((payload_l : Nat) : Int))) + (2 : Int))).toNat : Nat) : Int) 1) ((4 : Int).toNat - ((0 : Nat) : Int).toNat) ((((IntKind.i64.wrap ((IntKind.i64.wrap ((4 : Int) + ((payload_l : Nat) : Int))) + (2 : Int))).toNat : Nat) : Int).toNat - ((0 : Nat) : Int).toNat) w6 fun w7 =>
      frame_Link_Encode.L1 l payload_b payload_l payload_c ((payload_l : Nat) : Int) (some ⟨b33, 0, none⟩) ((IntKind.i64.wrap ((IntKind.i64.wrap ((4 : Int) + ((payload_l : Nat) : Int))) + (2 : Int))).toNat) ((IntKind.i64.wrap ((IntKind.i64.wrap ((4 : Int) + ((payload_l : Nat) : Int))) + (2 : Int))).toNat) u_ (0 : Int) w7  R))
theorem frame_Link_Encode.B2_eq (l : Option Addr) (dst typ : Int) (payload_b : Option Addr) (payload_l payload_c : Nat) (t25 : Bool) (w : World)   (R : Option Addr → Nat → Nat → Int → World → Prop) (sL1 : Option Addr → Option Addr → Nat → Nat → Int → Option Addr → Nat → Nat → Nat → Int → World → Prop) :
    (
  Bm t25 (
    R none 0 0 (6 : Int) w) (
    Bm (decide (((payload_l : Nat) : Int) > (24 : Int))) (
      R none 0 0 (2 : Int) w) (
      Make 5 (.int .u8 (0 : Int)) 1 1 (IntKind.i64.wrap ((IntKind.i64.wrap ((4 : Int) + ((payload_l : Nat) : Int))) + (2 : Int))) (IntKind.i64.wrap ((IntKind.i64.wrap ((4 : Int) + ((payload_l : Nat) : Int))) + (2 : Int))) w fun b33 w1 =>
      (0 ≤ (0 : Int) ∧ (0 : Int) < (((IntKind.i64.wrap ((IntKind.i64.wrap ((4 : Int) + ((payload_l : Nat) : Int))) + (2 : Int))).toNat : Nat) : Int)) ∧
      Sts [.int .u8 (IntKind.u8.wrap dst)] ⟨b33, 0, none⟩ 0 w1 fun w2 =>
      Pn l fun a =>
      LdI .u8 a w2 fun x42 =>
      (0 ≤ (1 : Int) ∧ (1 : Int) < (((IntKind.i64.wrap ((IntKind.i64.wrap ((4 : Int) + ((payload_l : Nat) : Int))) + (2 : Int))).toNat : Nat) : Int)) ∧
      Sts [.int .u8 x42] ⟨b33, 1, none⟩ 0 w2 fun w3 =>
      (0 ≤ (2 : Int) ∧ (2 : Int) < (((IntKind.i64.wrap ((IntKind.i64.wrap ((4 : Int) + ((payload_l : Nat) : Int))) + (2 : Int))).toNat : Nat) : Int)) ∧
      Sts [.int .u8 (IntKind.u8.wrap typ)] ⟨b33, 2, none⟩ 0 w3 fun w4 =>
      (0 ≤ (3 : Int) ∧ (3 : Int) < (((IntKind.i64.wrap ((IntKind.i64.wrap ((4 : Int) + ((payload_l : Nat) : Int))) + (2 : Int))).toNat : Nat) : Int)) ∧
      Sts [.int .u8 (IntKind.u8.wrap ((payload_l : Nat) : Int))] ⟨b33, 3, none⟩ 0 w4 fun w5 =>
      New (.cells #[.int .u8 (0 : Int), .int .u8 (0 : Int)] 72) w5 fun u_ w6 =>
      (0 ≤ (4 : Int) ∧ (4 : Int) ≤ (((IntKind.i64.wrap ((IntKind.i64.wrap ((4 : Int) + ((payload_l : Nat) : Int))) + (2 : Int))).toNat : Nat) : Int)) ∧
      frame_Sum_AddAll.Call (some ⟨u_, 0, none⟩) (slBase (some (⟨b33, 0, none⟩ : Addr)) ((0 : Nat) : Int) (((IntKind.i64.wrap ((IntKind.i64.wrap ((4 : Int) + ((payload_l : Nat) : Int))) + (2 : Int))).toNat : Nat) : Int) 1) ((4 : Int).toNat - ((0 : Nat) : Int).toNat) ((((IntKind.i64.wrap ((IntKind.i64.wrap ((4 : Int) + ((payload_l : Nat) : Int))) + (2 : Int))).toNat : Nat) : Int).toNat - ((0 : Nat) : Int).toNat) w6 fun w7 =>
      sL1 l payload_b payload_l payload_c ((payload_l : Nat) : Int) (some ⟨b33, 0, none⟩) ((IntKind.i64.wrap ((IntKind.i64.wrap ((4 : Int) + ((payload_l : Nat) : Int))) + (2 : Int))).toNat) ((IntKind.i64.wrap ((IntKind.i64.wrap ((4 : Int) + ((payload_l : Nat) : Int))) + (2 : Int))).toNat) u_ (0 : Int) w7))) = kstep Try.prog 87 Try.f21.results.toList (Try.f21.body.getD .skip) (frame_Link_Encode.RV R) (kvc Try.prog 87 Try.f21.results.toList (Try.f21.body.getD .skip) (frame_Link_Encode.RV R) [([(0, [1, 1, 1, 1, 1, 1, 1, 1, 1, 1, 1, 1, 0, 1, 0, 0]), (2, [1, 1, 1, 1, 1, 1, 1, 1, 1, 1, 1, 1, 0, 1, 0, 0]), (1, [0]), (0, [1, 1, 1, 1, 1, 1, 1, 1, 1, 1, 1, 1, 1])], fun σ w => dP (slotOf σ 0) fun l_ => dL (slotOf σ 3) fun payload_b_ payload_l_ payload_c_ => dI .i64 (slotOf σ 10) fun n_ => dL (slotOf σ 11) fun raw_b_ raw_l_ raw_c_ => dK (slotOf σ 12) fun u_ => dI .i64 (slotOf σ 13) fun i_ => sL1 l_ payload_b_ payload_l_ payload_c_ n_ raw_b_ raw_l_ raw_c_ u_ i_ w)] 2000) [(0, [1, 1, 0, 1]), (0, [1, 1, 1])] [(0, .pointer l), (1, .int .i64 dst), (2, .int .i64 typ), (3, .slice payload_b payload_l payload_c), (25, .bool t25)] w := by kernel_rfl
theorem frame_Link_Encode.B2_sound {R : Option Addr → Nat → Nat → Int → World → Prop}  (l : Option Addr) (dst typ : Int) (payload_b : Option Addr) (payload_l payload_c : Nat) (t25 : Bool) (w : World) (h : frame_Link_Encode.B2 l dst typ payload_b payload_l payload_c t25 w   R) :
    KW Try.prog 21 87 (frame_Link_Encode.RV R) ([(0, [1, 1, 0, 1]), (0, [1, 1, 1])].map (toItem (Try.f21.body.getD .skip))) [(0, .pointer l), (1, .int .i64 dst), (2, .int .i64 typ), (3, .slice payload_b payload_l payload_c), (25, .bool t25)] w := by
  exact block_spec Try.func21 Try.mixed (stops_cons (fun σ w h => by
      obtain ⟨l_, e0, h⟩ := dP_elim h
      obtain ⟨payload_b_, payload_l_, payload_c_, e1, h⟩ := dL_elim h
      obtain ⟨n_, e2, h⟩ := dI_elim h
      obtain ⟨raw_b_, raw_l_, raw_c_, e3, h⟩ := dL_elim h
      obtain ⟨u_, e4, h⟩ := dK_elim h
      obtain ⟨i_, e5, h⟩ := dI_elim h
      exact (frame_Link_Encode.L1_sound  l_ payload_b_ payload_l_ payload_c_ n_ raw_b_ raw_l_ raw_c_ u_ i_ w h).weaken (Sub.cons (Sub.cons (Sub.cons (Sub.cons (Sub.cons (Sub.cons (Sub.nil _) e5) e4) e3) e2) e1) e0)) stops_nil) (Eq.mp (frame_Link_Encode.B2_eq l dst typ payload_b payload_l payload_c t25 w   R (fun l_ payload_b_ payload_l_ payload_c_ n_ raw_b_ raw_l_ raw_c_ u_ i_ w => frame_Link_Encode.L1 l_ payload_b_ payload_l_ payload_c_ n_ raw_b_ raw_l_ raw_c_ u_ i_ w  R)) h)
def frame_Link_Encode.B1 (l : Option Addr) (dst typ : Int) (payload_b : Option Addr) (payload_l payload_c : Nat) (t19 : Bool) (w : World)   (R : Option Addr → Nat → Nat → Int → World → Prop) : Prop :=
  Bm t19 (
    R none 0 0 (5 : Int) w) (
    Bm (decide (typ < (0 : Int))) (
      frame_Link_Encode.B2 l dst typ payload_b payload_l payload_c true w  R) (
      frame_Link_Encode.B2 l dst typ payload_b payload_l payload_c (decide (typ > (255 : Int))) w  R))
theorem frame_Link_Encode.B1_eq (l : Option Addr) (dst typ : Int) (payload_b : Option Addr) (payload_l payload_c : Nat) (t19 : Bool) (w : World)   (R : Option Addr → Nat → Nat → Int → World → Prop) (sB2 : Option Addr → Int → Int → Option Addr → Nat → Nat → Bool → World → Prop) :
    (
  Bm t19 (
    R none 0 0 (5 : Int) w) (
    Bm (decide (typ < (0 : Int))) (
      sB2 l dst typ payload_b payload_l payload_c true w) (
      sB2 l dst typ payload_b payload_l payload_c (decide (typ > (255 : Int))) w))) = kstep Try.prog 87 Try.f21.results.toList (Try.f21.body.getD .skip) (frame_Link_Encode.RV R) (kvc Try.prog 87 Try.f21.results.toList (Try.f21.body.getD .skip) (frame_Link_Encode.RV R) [([(0, [1, 1, 0, 1]), (0, [1, 1, 1])], fun σ w => dP (slotOf σ 0) fun l_ => dI .i64 (slotOf σ 1) fun dst_ => dI .i64 (slotOf σ 2) fun typ_ => dL (slotOf σ 3) fun payload_b_ payload_l_ payload_c_ => dB (slotOf σ 25) fun t25_ => sB2 l_ dst_ typ_ payload_b_ payload_l_ payload_c_ t25_ w)] 2000) [(0, [1, 0, 1]), (0, [1, 1])] [(0, .pointer l), (1, .int .i64 dst), (2, .int .i64 typ), (3, .slice payload_b payload_l payload_c), (19, .bool t19)] w := by kernel_rfl
theorem frame_Link_Encode.B1_sound {R : Option Addr → Nat → Nat → Int → World → Prop}  (l : Option Addr) (dst typ : Int) (payload_b : Option Addr) (payload_l payload_c : Nat) (t19 : Bool) (w : World) (h : frame_Link_Encode.B1 l dst typ payload_b payload_l payload_c t19 w   R) :
    KW Try.prog 21 87 (frame_Link_Encode.RV R) ([(0, [1, 0, 1]), (0, [1, 1])].map (toItem (Try.f21.body.getD .skip))) [(0, .pointer l), (1, .int .i64 dst), (2, .int .i64 typ), (3, .slice payload_b payload_l payload_c), (19, .bool t19)] w := by
  exact block_spec Try.func21 Try.mixed (stops_cons (fun σ w h => by
      obtain ⟨l_, e0, h⟩ := dP_elim h
      obtain ⟨dst_, e1, h⟩ := dI_elim h
      obtain ⟨typ_, e2, h⟩ := dI_elim h
      obtain ⟨payload_b_, payload_l_, payload_c_, e3, h⟩ := dL_elim h
      obtain ⟨t25_, e4, h⟩ := dB_elim h
      exact (frame_Link_Encode.B2_sound  l_ dst_ typ_ payload_b_ payload_l_ payload_c_ t25_ w h).weaken (Sub.cons (Sub.cons (Sub.cons (Sub.cons (Sub.cons (Sub.nil _) e4) e3) e2) e1) e0)) stops_nil) (Eq.mp (frame_Link_Encode.B1_eq l dst typ payload_b payload_l payload_c t19 w   R (fun l_ dst_ typ_ payload_b_ payload_l_ payload_c_ t25_ w => frame_Link_Encode.B2 l_ dst_ typ_ payload_b_ payload_l_ payload_c_ t25_ w  R)) h)
def frame_Link_Encode.B0 (l : Option Addr) (dst typ : Int) (payload_b : Option Addr) (payload_l payload_c : Nat) (w : World)   (R : Option Addr → Nat → Nat → Int → World → Prop) : Prop :=
  Bm (decide (dst < (0 : Int))) (
    frame_Link_Encode.B1 l dst typ payload_b payload_l payload_c true w  R) (
    frame_Link_Encode.B1 l dst typ payload_b payload_l payload_c (decide (dst > (255 : Int))) w  R)
theorem frame_Link_Encode.B0_eq (l : Option Addr) (dst typ : Int) (payload_b : Option Addr) (payload_l payload_c : Nat) (w : World)   (R : Option Addr → Nat → Nat → Int → World → Prop) (sB1 : Option Addr → Int → Int → Option Addr → Nat → Nat → Bool → World → Prop) :
    (
  Bm (decide (dst < (0 : Int))) (
    sB1 l dst typ payload_b payload_l payload_c true w) (
    sB1 l dst typ payload_b payload_l payload_c (decide (dst > (255 : Int))) w)) = kstep Try.prog 87 Try.f21.results.toList (Try.f21.body.getD .skip) (frame_Link_Encode.RV R) (kvc Try.prog 87 Try.f21.results.toList (Try.f21.body.getD .skip) (frame_Link_Encode.RV R) [([(0, [1, 0, 1]), (0, [1, 1])], fun σ w => dP (slotOf σ 0) fun l_ => dI .i64 (slotOf σ 1) fun dst_ => dI .i64 (slotOf σ 2) fun typ_ => dL (slotOf σ 3) fun payload_b_ payload_l_ payload_c_ => dB (slotOf σ 19) fun t19_ => sB1 l_ dst_ typ_ payload_b_ payload_l_ payload_c_ t19_ w)] 2000) [(0, [])] [(0, .pointer l), (1, .int .i64 dst), (2, .int .i64 typ), (3, .slice payload_b payload_l payload_c)] w := by kernel_rfl
theorem frame_Link_Encode.B0_sound {R : Option Addr → Nat → Nat → Int → World → Prop}  (l : Option Addr) (dst typ : Int) (payload_b : Option Addr) (payload_l payload_c : Nat) (w : World) (h : frame_Link_Encode.B0 l dst typ payload_b payload_l payload_c w   R) :
    KW Try.prog 21 87 (frame_Link_Encode.RV R) ([(0, [])].map (toItem (Try.f21.body.getD .skip))) [(0, .pointer l), (1, .int .i64 dst), (2, .int .i64 typ), (3, .slice payload_b payload_l payload_c)] w := by
  exact block_spec Try.func21 Try.mixed (stops_cons (fun σ w h => by
      obtain ⟨l_, e0, h⟩ := dP_elim h
      obtain ⟨dst_, e1, h⟩ := dI_elim h
      obtain ⟨typ_, e2, h⟩ := dI_elim h
      obtain ⟨payload_b_, payload_l_, payload_c_, e3, h⟩ := dL_elim h
      obtain ⟨t19_, e4, h⟩ := dB_elim h
      exact (frame_Link_Encode.B1_sound  l_ dst_ typ_ payload_b_ payload_l_ payload_c_ t19_ w h).weaken (Sub.cons (Sub.cons (Sub.cons (Sub.cons (Sub.cons (Sub.nil _) e4) e3) e2) e1) e0)) stops_nil) (Eq.mp (frame_Link_Encode.B0_eq l dst typ payload_b payload_l payload_c w   R (fun l_ dst_ typ_ payload_b_ payload_l_ payload_c_ t19_ w => frame_Link_Encode.B1 l_ dst_ typ_ payload_b_ payload_l_ payload_c_ t19_ w  R)) h)
theorem frame_Link_Encode.sound (l : Option Addr) (dst typ : Int) (payload_b : Option Addr) (payload_l payload_c : Nat) (w : World) (R : Option Addr → Nat → Nat → Int → World → Prop) (h : frame_Link_Encode.B0 l dst typ payload_b payload_l payload_c w R) : frame_Link_Encode.Call l dst typ payload_b payload_l payload_c w R := by
  have hc := calls_of_block (args := #[.pointer l, .int .i64 dst, .int .i64 typ, .slice payload_b payload_l payload_c]) Try.func21 (body := (Try.f21.body.getD .skip)) (by kernel_rfl) (by kernel_rfl) (args_slot _) (frame_Link_Encode.B0_sound l dst typ payload_b payload_l payload_c w h)
  exact hc.mono fun e w' he => by
    obtain ⟨v, rfl, hv⟩ := he
    exact frame_Link_Encode.RV_elim hv
end Go.Proofs.Qxb6500423a
