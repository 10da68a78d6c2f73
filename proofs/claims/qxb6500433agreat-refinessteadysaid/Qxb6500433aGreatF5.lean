import Derived.Test.Qxb6500433aGreatSig
set_option maxRecDepth 100000
set_option linter.unusedVariables false
open Go.Vc
namespace Go.Proofs.Qxb6500433aGreat
def synclaw_CopyMsg.B0 (m0_0 m0_1 m0_2 m0_3 m0_4 m0_5 m0_6 : Int) (m0_7 : Bool) (m0_8_b : Option Addr) (m0_8_l m0_8_c : Nat) (m0_9 : ByteArray) (w : World)   (R : Int → Int → Int → Int → Int → Int → Int → Bool → Option Addr → Nat → Nat → ByteArray → World → Prop) : Prop :=
  New (.cells #[.int .i64 m0_0, .int .i64 m0_1, .int .i64 m0_2, .int .i64 m0_3, .int .i64 m0_4, .int .i64 m0_5, .int .i64 m0_6, .bool m0_7, .slice m0_8_b m0_8_l m0_8_c, .string m0_9] 40) w fun m0_ w1 =>
  New (.cells #[.int .i64 (0 : Int), .int .i64 (0 : Int), .int .i64 (0 : Int), .int .i64 (0 : Int), .int .i64 (0 : Int), .int .i64 (0 : Int), .int .i64 (0 : Int), .bool false, .slice none 0 0, .string (ByteArray.mk #[])] 40) w1 fun b2 w2 =>
  LdI .i64 ⟨m0_, 0, none⟩ w2 fun x4_0 =>
  LdI .i64 ⟨m0_, 1, none⟩ w2 fun x4_1 =>
  LdI .i64 ⟨m0_, 2, none⟩ w2 fun x4_2 =>
  LdI .i64 ⟨m0_, 3, none⟩ w2 fun x4_3 =>
  LdI .i64 ⟨m0_, 4, none⟩ w2 fun x4_4 =>
  LdI .i64 ⟨m0_, 5, none⟩ w2 fun x4_5 =>
  LdI .i64 ⟨m0_, 6, none⟩ w2 fun x4_6 =>
  LdB ⟨m0_, 7, none⟩ w2 fun x4_7 =>
  LdL ⟨m0_, 8, none⟩ w2 fun x4_8_b x4_8_l x4_8_c =>
  LdS ⟨m0_, 9, none⟩ w2 fun x4_9 =>
  New (.cells #[.int .i64 (0 : Int), .int .i64 (0 : Int), .int .i64 (0 : Int), .int .i64 (0 : Int), .int .i64 (0 : Int), .int .i64 (0 : Int), .int .i64 (0 : Int), .bool false, .slice none 0 0, .string (ByteArray.mk #[])] 40) w2 fun c_ w3 =>
  Sts [.int .i64 x4_0, .int .i64 x4_1, .int .i64 x4_2, .int .i64 x4_3, .int .i64 x4_4, .int .i64 x4_5, .int .i64 x4_6, .bool x4_7, .slice x4_8_b x4_8_l x4_8_c, .string x4_9] ⟨c_, 0, none⟩ 0 w3 fun w4 =>
  LdL ⟨m0_, 8, none⟩ w4 fun x6_b x6_l x6_c =>
  Make 103 (.agg #[.int .i64 (0 : Int), .string (ByteArray.mk #[])]) 2 24 ((x6_l : Nat) : Int) ((x6_l : Nat) : Int) w4 fun b8 w5 =>
  Sts [.slice (some ⟨b8, 0, none⟩) (((x6_l : Nat) : Int).toNat) (((x6_l : Nat) : Int).toNat)] ⟨c_, 8, none⟩ 0 w5 fun w6 =>
  LdL ⟨c_, 8, none⟩ w6 fun x11_b x11_l x11_c =>
  LdL ⟨m0_, 8, none⟩ w6 fun x13_b x13_l x13_c =>
  Copy 2 x11_b x11_l x13_b x13_l w6 fun n14 w7 =>
  LdI .i64 ⟨c_, 0, none⟩ w7 fun x15_0 =>
  LdI .i64 ⟨c_, 1, none⟩ w7 fun x15_1 =>
  LdI .i64 ⟨c_, 2, none⟩ w7 fun x15_2 =>
  LdI .i64 ⟨c_, 3, none⟩ w7 fun x15_3 =>
  LdI .i64 ⟨c_, 4, none⟩ w7 fun x15_4 =>
  LdI .i64 ⟨c_, 5, none⟩ w7 fun x15_5 =>
  LdI .i64 ⟨c_, 6, none⟩ w7 fun x15_6 =>
  LdB ⟨c_, 7, none⟩ w7 fun x15_7 =>
  LdL ⟨c_, 8, none⟩ w7 fun x15_8_b x15_8_l x15_8_c =>
  LdS ⟨c_, 9, none⟩ w7 fun x15_9 =>
  Sts [.int .i64 x15_0, .int .i64 x15_1, .int .i64 x15_2, .int .i64 x15_3, .int .i64 x15_4, .int .i64 x15_5, .int .i64 x15_6, .bool x15_7, .slice x15_8_b x15_8_l x15_8_c, .string x15_9] ⟨b2, 0, none⟩ 0 w7 fun w8 =>
  LdI .i64 ⟨b2, 0, none⟩ w8 fun r_0 =>
  LdI .i64 ⟨b2, 1, none⟩ w8 fun r_1 =>
  LdI .i64 ⟨b2, 2, none⟩ w8 fun r_2 =>
  LdI .i64 ⟨b2, 3, none⟩ w8 fun r_3 =>
  LdI .i64 ⟨b2, 4, none⟩ w8 fun r_4 =>
  LdI .i64 ⟨b2, 5, none⟩ w8 fun r_5 =>
  LdI .i64 ⟨b2, 6, none⟩ w8 fun r_6 =>
  LdB ⟨b2, 7, none⟩ w8 fun r_7 =>
  LdL ⟨b2, 8, none⟩ w8 fun r_8_b r_8_l r_8_c =>
  LdS ⟨b2, 9, none⟩ w8 fun r_9 =>
  R r_0 r_1 r_2 r_3 r_4 r_5 r_6 r_7 r_8_b r_8_l r_8_c r_9 w8
theorem synclaw_CopyMsg.B0_eq (m0_0 m0_1 m0_2 m0_3 m0_4 m0_5 m0_6 : Int) (m0_7 : Bool) (m0_8_b : Option Addr) (m0_8_l m0_8_c : Nat) (m0_9 : ByteArray) (w : World)   (R : Int → Int → Int → Int → Int → Int → Int → Bool → Option Addr → Nat → Nat → ByteArray → World → Prop)  :
    (
  New (.cells #[.int .i64 m0_0, .int .i64 m0_1, .int .i64 m0_2, .int .i64 m0_3, .int .i64 m0_4, .int .i64 m0_5, .int .i64 m0_6, .bool m0_7, .slice m0_8_b m0_8_l m0_8_c, .string m0_9] 40) w fun m0_ w1 =>
  New (.cells #[.int .i64 (0 : Int), .int .i64 (0 : Int), .int .i64 (0 : Int), .int .i64 (0 : Int), .int .i64 (0 : Int), .int .i64 (0 : Int), .int .i64 (0 : Int), .bool false, .slice none 0 0, .string (ByteArray.mk #[])] 40) w1 fun b2 w2 =>
  LdI .i64 ⟨m0_, 0, none⟩ w2 fun x4_0 =>
  LdI .i64 ⟨m0_, 1, none⟩ w2 fun x4_1 =>
  LdI .i64 ⟨m0_, 2, none⟩ w2 fun x4_2 =>
  LdI .i64 ⟨m0_, 3, none⟩ w2 fun x4_3 =>
  LdI .i64 ⟨m0_, 4, none⟩ w2 fun x4_4 =>
  LdI .i64 ⟨m0_, 5, none⟩ w2 fun x4_5 =>
  LdI .i64 ⟨m0_, 6, none⟩ w2 fun x4_6 =>
  LdB ⟨m0_, 7, none⟩ w2 fun x4_7 =>
  LdL ⟨m0_, 8, none⟩ w2 fun x4_8_b x4_8_l x4_8_c =>
  LdS ⟨m0_, 9, none⟩ w2 fun x4_9 =>
  New (.cells #[.int .i64 (0 : Int), .int .i64 (0 : Int), .int .i64 (0 : Int), .int .i64 (0 : Int), .int .i64 (0 : Int), .int .i64 (0 : Int), .int .i64 (0 : Int), .bool false, .slice none 0 0, .string (ByteArray.mk #[])] 40) w2 fun c_ w3 =>
  Sts [.int .i64 x4_0, .int .i64 x4_1, .int .i64 x4_2, .int .i64 x4_3, .int .i64 x4_4, .int .i64 x4_5, .int .i64 x4_6, .bool x4_7, .slice x4_8_b x4_8_l x4_8_c, .string x4_9] ⟨c_, 0, none⟩ 0 w3 fun w4 =>
  LdL ⟨m0_, 8, none⟩ w4 fun x6_b x6_l x6_c =>
  Make 103 (.agg #[.int .i64 (0 : Int), .string (ByteArray.mk #[])]) 2 24 ((x6_l : Nat) : Int) ((x6_l : Nat) : Int) w4 fun b8 w5 =>
  Sts [.slice (some ⟨b8, 0, none⟩) (((x6_l : Nat) : Int).toNat) (((x6_l : Nat) : Int).toNat)] ⟨c_, 8, none⟩ 0 w5 fun w6 =>
  LdL ⟨c_, 8, none⟩ w6 fun x11_b x11_l x11_c =>
  LdL ⟨m0_, 8, none⟩ w6 fun x13_b x13_l x13_c =>
  Copy 2 x11_b x11_l x13_b x13_l w6 fun n14 w7 =>
  LdI .i64 ⟨c_, 0, none⟩ w7 fun x15_0 =>
  LdI .i64 ⟨c_, 1, none⟩ w7 fun x15_1 =>
  LdI .i64 ⟨c_, 2, none⟩ w7 fun x15_2 =>
  LdI .i64 ⟨c_, 3, none⟩ w7 fun x15_3 =>
  LdI .i64 ⟨c_, 4, none⟩ w7 fun x15_4 =>
  LdI .i64 ⟨c_, 5, none⟩ w7 fun x15_5 =>
  LdI .i64 ⟨c_, 6, none⟩ w7 fun x15_6 =>
  LdB ⟨c_, 7, none⟩ w7 fun x15_7 =>
  LdL ⟨c_, 8, none⟩ w7 fun x15_8_b x15_8_l x15_8_c =>
  LdS ⟨c_, 9, none⟩ w7 fun x15_9 =>
  Sts [.int .i64 x15_0, .int .i64 x15_1, .int .i64 x15_2, .int .i64 x15_3, .int .i64 x15_4, .int .i64 x15_5, .int .i64 x15_6, .bool x15_7, .slice x15_8_b x15_8_l x15_8_c, .string x15_9] ⟨b2, 0, none⟩ 0 w7 fun w8 =>
  LdI .i64 ⟨b2, 0, none⟩ w8 fun r_0 =>
  LdI .i64 ⟨b2, 1, none⟩ w8 fun r_1 =>
  LdI .i64 ⟨b2, 2, none⟩ w8 fun r_2 =>
  LdI .i64 ⟨b2, 3, none⟩ w8 fun r_3 =>
  LdI .i64 ⟨b2, 4, none⟩ w8 fun r_4 =>
  LdI .i64 ⟨b2, 5, none⟩ w8 fun r_5 =>
  LdI .i64 ⟨b2, 6, none⟩ w8 fun r_6 =>
  LdB ⟨b2, 7, none⟩ w8 fun r_7 =>
  LdL ⟨b2, 8, none⟩ w8 fun r_8_b r_8_l r_8_c =>
  LdS ⟨b2, 9, none⟩ w8 fun r_9 =>
  R r_0 r_1 r_2 r_3 r_4 r_5 r_6 r_7 r_8_b r_8_l r_8_c r_9 w8) = kstep Tryz.prog 16 Tryz.f64.results.toList (Tryz.f64.body.getD .skip) (synclaw_CopyMsg.RV R) (kvc Tryz.prog 16 Tryz.f64.results.toList (Tryz.f64.body.getD .skip) (synclaw_CopyMsg.RV R) [] 2000) [(0, [])] [(0, .agg #[.int .i64 m0_0, .int .i64 m0_1, .int .i64 m0_2, .int .i64 m0_3, .int .i64 m0_4, .int .i64 m0_5, .int .i64 m0_6, .bool m0_7, .slice m0_8_b m0_8_l m0_8_c, .string m0_9])] w := by kernel_rfl
theorem synclaw_CopyMsg.B0_sound {R : Int → Int → Int → Int → Int → Int → Int → Bool → Option Addr → Nat → Nat → ByteArray → World → Prop}  (m0_0 m0_1 m0_2 m0_3 m0_4 m0_5 m0_6 : Int) (m0_7 : Bool) (m0_8_b : Option Addr) (m0_8_l m0_8_c : Nat) (m0_9 : ByteArray) (w : World) (h : synclaw_CopyMsg.B0 m0_0 m0_1 m0_2 m0_3 m0_4 m0_5 m0_6 m0_7 m0_8_b m0_8_l m0_8_c m0_9 w   R) :
    KW Tryz.prog 64 16 (synclaw_CopyMsg.RV R) ([(0, [])].map (toItem (Tryz.f64.body.getD .skip))) [(0, .agg #[.int .i64 m0_0, .int .i64 m0_1, .int .i64 m0_2, .int .i64 m0_3, .int .i64 m0_4, .int .i64 m0_5, .int .i64 m0_6, .bool m0_7, .slice m0_8_b m0_8_l m0_8_c, .string m0_9])] w := by
  exact block_spec Tryz.func64 Tryz.mixed stops_nil (Eq.mp (synclaw_CopyMsg.B0_eq m0_0 m0_1 m0_2 m0_3 m0_4 m0_5 m0_6 m0_7 m0_8_b m0_8_l m0_8_c m0_9 w   R ) h)
theorem synclaw_CopyMsg.sound (m0_0 m0_1 m0_2 m0_3 m0_4 m0_5 m0_6 : Int) (m0_7 : Bool) (m0_8_b : Option Addr) (m0_8_l m0_8_c : Nat) (m0_9 : ByteArray) (w : World) (R : Int → Int → Int → Int → Int → Int → Int → Bool → Option Addr → Nat → Nat → ByteArray → World → Prop) (h : synclaw_CopyMsg.B0 m0_0 m0_1 m0_2 m0_3 m0_4 m0_5 m0_6 m0_7 m0_8_b m0_8_l m0_8_c m0_9 w R) : synclaw_CopyMsg.Call m0_0 m0_1 m0_2 m0_3 m0_4 m0_5 m0_6 m0_7 m0_8_b m0_8_l m0_8_c m0_9 w R := by
  have hc := calls_of_block (args := #[.agg #[.int .i64 m0_0, .int .i64 m0_1, .int .i64 m0_2, .int .i64 m0_3, .int .i64 m0_4, .int .i64 m0_5, .int .i64 m0_6, .bool m0_7, .slice m0_8_b m0_8_l m0_8_c, .string m0_9]]) Tryz.func64 (body := (Tryz.f64.body.getD .skip)) (by kernel_rfl) (by kernel_rfl) (args_slot _) (synclaw_CopyMsg.B0_sound m0_0 m0_1 m0_2 m0_3 m0_4 m0_5 m0_6 m0_7 m0_8_b m0_8_l m0_8_c m0_9 w h)
  exact hc.mono fun e w' he => by
    obtain ⟨v, rfl, hv⟩ := he
    exact synclaw_CopyMsg.RV_elim hv
def sync_Sync_Step.B2 (s : Option Addr) (w : World)   (R : Option Addr → Nat → Nat → World → Prop) : Prop :=
  sync_Sync_flush.Call s w fun r52_b r52_l r52_c w1 =>
  R r52_b r52_l r52_c w1
theorem sync_Sync_Step.B2_eq (s : Option Addr) (w : World)   (R : Option Addr → Nat → Nat → World → Prop)  :
    (
  sync_Sync_flush.Call s w fun r52_b r52_l r52_c w1 =>
  R r52_b r52_l r52_c w1) = kstep Tryz.prog 53 Tryz.f65.results.toList (Tryz.f65.body.getD .skip) (sync_Sync_Step.RV R) (kvc Tryz.prog 53 Tryz.f65.results.toList (Tryz.f65.body.getD .skip) (sync_Sync_Step.RV R) [] 2000) [(0, [1, 1, 1, 1, 1])] [(0, .pointer s)] w := by kernel_rfl
theorem sync_Sync_Step.B2_sound {R : Option Addr → Nat → Nat → World → Prop}  (s : Option Addr) (w : World) (h : sync_Sync_Step.B2 s w   R) :
    KW Tryz.prog 65 53 (sync_Sync_Step.RV R) ([(0, [1, 1, 1, 1, 1])].map (toItem (Tryz.f65.body.getD .skip))) [(0, .pointer s)] w := by
  exact block_spec Tryz.func65 Tryz.mixed stops_nil (Eq.mp (sync_Sync_Step.B2_eq s w   R ) h)
def sync_Sync_Step.B1 (s : Option Addr) (m0 : Nat) (t23 : Bool) (w : World)   (R : Option Addr → Nat → Nat → World → Prop) : Prop :=
  Bm t23 (
    R none 0 0 w) (
    LdI .i64 ⟨m0, 0, none⟩ w fun x25 =>
    Bm (x25 == (1 : Int)) (
      LdI .i64 ⟨m0, 0, none⟩ w fun x29_0 =>
      LdI .i64 ⟨m0, 1, none⟩ w fun x29_1 =>
      LdI .i64 ⟨m0, 2, none⟩ w fun x29_2 =>
      LdI .i64 ⟨m0, 3, none⟩ w fun x29_3 =>
      LdI .i64 ⟨m0, 4, none⟩ w fun x29_4 =>
      LdI .i64 ⟨m0, 5, none⟩ w fun x29_5 =>
      LdI .i64 ⟨m0, 6, none⟩ w fun x29_6 =>
      LdB ⟨m0, 7, none⟩ w fun x29_7 =>
      LdL ⟨m0, 8, none⟩ w fun x29_8_b x29_8_l x29_8_c =>
      LdS ⟨m0, 9, none⟩ w fun x29_9 =>
      sync_Sync_voteAsked.Call s x29_0 x29_1 x29_2 x29_3 x29_4 x29_5 x29_6 x29_7 x29_8_b x29_8_l x29_8_c x29_9 w fun w1 =>
      sync_Sync_Step.B2 s w1  R) (
      Bm (x25 == (2 : Int)) (
        LdI .i64 ⟨m0, 0, none⟩ w fun x34_0 =>
        LdI .i64 ⟨m0, 1, none⟩ w fun x34_1 =>
        LdI .i64 ⟨m0, 2, none⟩ w fun x34_2 =>
        LdI .i64 ⟨m0, 3, none⟩ w fun x34_3 =>
        LdI .i64 ⟨m0, 4, none⟩ w fun x34_4 =>
        LdI .i64 ⟨m0, 5, none⟩ w fun x34_5 =>
        LdI .i64 ⟨m0, 6, none⟩ w fun x34_6 =>
        LdB ⟨m0, 7, none⟩ w fun x34_7 =>
        LdL ⟨m0, 8, none⟩ w fun x34_8_b x34_8_l x34_8_c =>
        LdS ⟨m0, 9, none⟩ w fun x34_9 =>
        sync_Sync_voteCame.Call s x34_0 x34_1 x34_2 x34_3 x34_4 x34_5 x34_6 x34_7 x34_8_b x34_8_l x34_8_c x34_9 w fun w2 =>
        sync_Sync_Step.B2 s w2  R) (
        Bm (x25 == (3 : Int)) (
          LdI .i64 ⟨m0, 0, none⟩ w fun x39_0 =>
          LdI .i64 ⟨m0, 1, none⟩ w fun x39_1 =>
          LdI .i64 ⟨m0, 2, none⟩ w fun x39_2 =>
          LdI .i64 ⟨m0, 3, none⟩ w fun x39_3 =>
          LdI .i64 ⟨m0, 4, none⟩ w fun x39_4 =>
          LdI .i64 ⟨m0, 5, none⟩ w fun x39_5 =>
          LdI .i64 ⟨m0, 6, none⟩ w fun x39_6 =>
          LdB ⟨m0, 7, none⟩ w fun x39_7 =>
          LdL ⟨m0, 8, none⟩ w fun x39_8_b x39_8_l x39_8_c =>
          LdS ⟨m0, 9, none⟩ w fun x39_9 =>
          sync_Sync_entriesCame.Call s x39_0 x39_1 x39_2 x39_3 x39_4 x39_5 x39_6 x39_7 x39_8_b x39_8_l x39_8_c x39_9 w fun w3 =>
          sync_Sync_Step.B2 s w3  R) (
          Bm (x25 == (5 : Int)) (
            LdI .i64 ⟨m0, 0, none⟩ w fun x44_0 =>
            LdI .i64 ⟨m0, 1, none⟩ w fun x44_1 =>
            LdI .i64 ⟨m0, 2, none⟩ w fun x44_2 =>
            LdI .i64 ⟨m0, 3, none⟩ w fun x44_3 =>
            LdI .i64 ⟨m0, 4, none⟩ w fun x44_4 =>
            LdI .i64 ⟨m0, 5, none⟩ w fun x44_5 =>
            LdI .i64 ⟨m0, 6, none⟩ w fun x44_6 =>
            LdB ⟨m0, 7, none⟩ w fun x44_7 =>
            LdL ⟨m0, 8, none⟩ w fun x44_8_b x44_8_l x44_8_c =>
            LdS ⟨m0, 9, none⟩ w fun x44_9 =>
            sync_Sync_snapCame.Call s x44_0 x44_1 x44_2 x44_3 x44_4 x44_5 x44_6 x44_7 x44_8_b x44_8_l x44_8_c x44_9 w fun w4 =>
            sync_Sync_Step.B2 s w4  R) (
            Bm (x25 == (4 : Int)) (
              LdI .i64 ⟨m0, 0, none⟩ w fun x49_0 =>
              LdI .i64 ⟨m0, 1, none⟩ w fun x49_1 =>
              LdI .i64 ⟨m0, 2, none⟩ w fun x49_2 =>
              LdI .i64 ⟨m0, 3, none⟩ w fun x49_3 =>
              LdI .i64 ⟨m0, 4, none⟩ w fun x49_4 =>
              LdI .i64 ⟨m0, 5, none⟩ w fun x49_5 =>
              LdI .i64 ⟨m0, 6, none⟩ w fun x49_6 =>
              LdB ⟨m0, 7, none⟩ w fun x49_7 =>
              LdL ⟨m0, 8, none⟩ w fun x49_8_b x49_8_l x49_8_c =>
              LdS ⟨m0, 9, none⟩ w fun x49_9 =>
              sync_Sync_ackCame.Call s x49_0 x49_1 x49_2 x49_3 x49_4 x49_5 x49_6 x49_7 x49_8_b x49_8_l x49_8_c x49_9 w fun w5 =>
              sync_Sync_Step.B2 s w5  R) (
              sync_Sync_Step.B2 s w  R))))))
theorem sync_Sync_Step.B1_eq (s : Option Addr) (m0 : Nat) (t23 : Bool) (w : World)   (R : Option Addr → Nat → Nat → World → Prop) (sB2 : Option Addr → World → Prop) :
    (
  Bm t23 (
    R none 0 0 w) (
    LdI .i64 ⟨m0, 0, none⟩ w fun x25 =>
    Bm (x25 == (1 : Int)) (
      LdI .i64 ⟨m0, 0, none⟩ w fun x29_0 =>
      LdI .i64 ⟨m0, 1, none⟩ w fun x29_1 =>
      LdI .i64 ⟨m0, 2, none⟩ w fun x29_2 =>
      LdI .i64 ⟨m0, 3, none⟩ w fun x29_3 =>
      LdI .i64 ⟨m0, 4, none⟩ w fun x29_4 =>
      LdI .i64 ⟨m0, 5, none⟩ w fun x29_5 =>
      LdI .i64 ⟨m0, 6, none⟩ w fun x29_6 =>
      LdB ⟨m0, 7, none⟩ w fun x29_7 =>
      LdL ⟨m0, 8, none⟩ w fun x29_8_b x29_8_l x29_8_c =>
      LdS ⟨m0, 9, none⟩ w fun x29_9 =>
      sync_Sync_voteAsked.Call s x29_0 x29_1 x29_2 x29_3 x29_4 x29_5 x29_6 x29_7 x29_8_b x29_8_l x29_8_c x29_9 w fun w1 =>
      sB2 s w1) (
      Bm (x25 == (2 : Int)) (
        LdI .i64 ⟨m0, 0, none⟩ w fun x34_0 =>
        LdI .i64 ⟨m0, 1, none⟩ w fun x34_1 =>
        LdI .i64 ⟨m0, 2, none⟩ w fun x34_2 =>
        LdI .i64 ⟨m0, 3, none⟩ w fun x34_3 =>
        LdI .i64 ⟨m0, 4, none⟩ w fun x34_4 =>
        LdI .i64 ⟨m0, 5, none⟩ w fun x34_5 =>
        LdI .i64 ⟨m0, 6, none⟩ w fun x34_6 =>
        LdB ⟨m0, 7, none⟩ w fun x34_7 =>
        LdL ⟨m0, 8, none⟩ w fun x34_8_b x34_8_l x34_8_c =>
        LdS ⟨m0, 9, none⟩ w fun x34_9 =>
        sync_Sync_voteCame.Call s x34_0 x34_1 x34_2 x34_3 x34_4 x34_5 x34_6 x34_7 x34_8_b x34_8_l x34_8_c x34_9 w fun w2 =>
        sB2 s w2) (
        Bm (x25 == (3 : Int)) (
          LdI .i64 ⟨m0, 0, none⟩ w fun x39_0 =>
          LdI .i64 ⟨m0, 1, none⟩ w fun x39_1 =>
          LdI .i64 ⟨m0, 2, none⟩ w fun x39_2 =>
          LdI .i64 ⟨m0, 3, none⟩ w fun x39_3 =>
          LdI .i64 ⟨m0, 4, none⟩ w fun x39_4 =>
          LdI .i64 ⟨m0, 5, none⟩ w fun x39_5 =>
          LdI .i64 ⟨m0, 6, none⟩ w fun x39_6 =>
          LdB ⟨m0, 7, none⟩ w fun x39_7 =>
          LdL ⟨m0, 8, none⟩ w fun x39_8_b x39_8_l x39_8_c =>
          LdS ⟨m0, 9, none⟩ w fun x39_9 =>
          sync_Sync_entriesCame.Call s x39_0 x39_1 x39_2 x39_3 x39_4 x39_5 x39_6 x39_7 x39_8_b x39_8_l x39_8_c x39_9 w fun w3 =>
          sB2 s w3) (
          Bm (x25 == (5 : Int)) (
            LdI .i64 ⟨m0, 0, none⟩ w fun x44_0 =>
            LdI .i64 ⟨m0, 1, none⟩ w fun x44_1 =>
            LdI .i64 ⟨m0, 2, none⟩ w fun x44_2 =>
            LdI .i64 ⟨m0, 3, none⟩ w fun x44_3 =>
            LdI .i64 ⟨m0, 4, none⟩ w fun x44_4 =>
            LdI .i64 ⟨m0, 5, none⟩ w fun x44_5 =>
            LdI .i64 ⟨m0, 6, none⟩ w fun x44_6 =>
            LdB ⟨m0, 7, none⟩ w fun x44_7 =>
            LdL ⟨m0, 8, none⟩ w fun x44_8_b x44_8_l x44_8_c =>
            LdS ⟨m0, 9, none⟩ w fun x44_9 =>
            sync_Sync_snapCame.Call s x44_0 x44_1 x44_2 x44_3 x44_4 x44_5 x44_6 x44_7 x44_8_b x44_8_l x44_8_c x44_9 w fun w4 =>
            sB2 s w4) (
            Bm (x25 == (4 : Int)) (
              LdI .i64 ⟨m0, 0, none⟩ w fun x49_0 =>
              LdI .i64 ⟨m0, 1, none⟩ w fun x49_1 =>
              LdI .i64 ⟨m0, 2, none⟩ w fun x49_2 =>
              LdI .i64 ⟨m0, 3, none⟩ w fun x49_3 =>
              LdI .i64 ⟨m0, 4, none⟩ w fun x49_4 =>
              LdI .i64 ⟨m0, 5, none⟩ w fun x49_5 =>
              LdI .i64 ⟨m0, 6, none⟩ w fun x49_6 =>
              LdB ⟨m0, 7, none⟩ w fun x49_7 =>
              LdL ⟨m0, 8, none⟩ w fun x49_8_b x49_8_l x49_8_c =>
              LdS ⟨m0, 9, none⟩ w fun x49_9 =>
              sync_Sync_ackCame.Call s x49_0 x49_1 x49_2 x49_3 x49_4 x49_5 x49_6 x49_7 x49_8_b x49_8_l x49_8_c x49_9 w fun w5 =>
              sB2 s w5) (
              sB2 s w))))))) = kstep Tryz.prog 53 Tryz.f65.results.toList (Tryz.f65.body.getD .skip) (sync_Sync_Step.RV R) (kvc Tryz.prog 53 Tryz.f65.results.toList (Tryz.f65.body.getD .skip) (sync_Sync_Step.RV R) [([(0, [1, 1, 1, 1, 1])], fun σ w => dP (slotOf σ 0) fun s_ => sB2 s_ w)] 2000) [(0, [1, 1, 1, 0, 1]), (0, [1, 1, 1, 1])] [(0, .pointer s), (3, .pointer (some ⟨m0, 0, none⟩)), (23, .bool t23)] w := by kernel_rfl
theorem sync_Sync_Step.B1_sound {R : Option Addr → Nat → Nat → World → Prop}  (s : Option Addr) (m0 : Nat) (t23 : Bool) (w : World) (h : sync_Sync_Step.B1 s m0 t23 w   R) :
    KW Tryz.prog 65 53 (sync_Sync_Step.RV R) ([(0, [1, 1, 1, 0, 1]), (0, [1, 1, 1, 1])].map (toItem (Tryz.f65.body.getD .skip))) [(0, .pointer s), (3, .pointer (some ⟨m0, 0, none⟩)), (23, .bool t23)] w := by
  exact block_spec Tryz.func65 Tryz.mixed (stops_cons (fun σ w h => by
      obtain ⟨s_, e0, h⟩ := dP_elim h
      exact (sync_Sync_Step.B2_sound  s_ w h).weaken (Sub.cons (Sub.nil _) e0)) stops_nil) (Eq.mp (sync_Sync_Step.B1_eq s m0 t23 w   R (fun s_ w => sync_Sync_Step.B2 s_ w  R)) h)
def sync_Sync_Step.B0 (s : Option Addr) (m0_0 m0_1 m0_2 m0_3 m0_4 m0_5 m0_6 : Int) (m0_7 : Bool) (m0_8_b : Option Addr) (m0_8_l m0_8_c : Nat) (m0_9 : ByteArray) (w : World)   (R : Option Addr → Nat → Nat → World → Prop) : Prop :=
  New (.cells #[.int .i64 m0_0, .int .i64 m0_1, .int .i64 m0_2, .int .i64 m0_3, .int .i64 m0_4, .int .i64 m0_5, .int .i64 m0_6, .bool m0_7, .slice m0_8_b m0_8_l m0_8_c, .string m0_9] 40) w fun m0_ w1 =>
  LdI .i64 ⟨m0_, 0, none⟩ w1 fun x6_0 =>
  LdI .i64 ⟨m0_, 1, none⟩ w1 fun x6_1 =>
  LdI .i64 ⟨m0_, 2, none⟩ w1 fun x6_2 =>
  LdI .i64 ⟨m0_, 3, none⟩ w1 fun x6_3 =>
  LdI .i64 ⟨m0_, 4, none⟩ w1 fun x6_4 =>
  LdI .i64 ⟨m0_, 5, none⟩ w1 fun x6_5 =>
  LdI .i64 ⟨m0_, 6, none⟩ w1 fun x6_6 =>
  LdB ⟨m0_, 7, none⟩ w1 fun x6_7 =>
  LdL ⟨m0_, 8, none⟩ w1 fun x6_8_b x6_8_l x6_8_c =>
  LdS ⟨m0_, 9, none⟩ w1 fun x6_9 =>
  api_MsgOK.Call x6_0 x6_1 x6_2 x6_3 x6_4 x6_5 x6_6 x6_7 x6_8_b x6_8_l x6_8_c x6_9 w1 fun r7 w2 =>
  Bm (!r7) (
    R none 0 0 w2) (
    Pn s fun a =>
    LdP (a.add 1) w2 fun x12 =>
    elect_Elect_Id.Call x12 w2 fun r13 w3 =>
    LdI .i64 ⟨m0_, 2, none⟩ w3 fun x15 =>
    Bm (x15 != r13) (
      sync_Sync_Step.B1 s m0_ true w3  R) (
      LdI .i64 ⟨m0_, 1, none⟩ w3 fun x20 =>
      sync_Sync_Step.B1 s m0_ (x20 == r13) w3  R))
theorem sync_Sync_Step.B0_eq (s : Option Addr) (m0_0 m0_1 m0_2 m0_3 m0_4 m0_5 m0_6 : Int) (m0_7 : Bool) (m0_8_b : Option Addr) (m0_8_l m0_8_c : Nat) (m0_9 : ByteArray) (w : World)   (R : Option Addr → Nat → Nat → World → Prop) (sB1 : Option Addr → Nat → Bool → World → Prop) :
    (
  New (.cells #[.int .i64 m0_0, .int .i64 m0_1, .int .i64 m0_2, .int .i64 m0_3, .int .i64 m0_4, .int .i64 m0_5, .int .i64 m0_6, .bool m0_7, .slice m0_8_b m0_8_l m0_8_c, .string m0_9] 40) w fun m0_ w1 =>
  LdI .i64 ⟨m0_, 0, none⟩ w1 fun x6_0 =>
  LdI .i64 ⟨m0_, 1, none⟩ w1 fun x6_1 =>
  LdI .i64 ⟨m0_, 2, none⟩ w1 fun x6_2 =>
  LdI .i64 ⟨m0_, 3, none⟩ w1 fun x6_3 =>
  LdI .i64 ⟨m0_, 4, none⟩ w1 fun x6_4 =>
  LdI .i64 ⟨m0_, 5, none⟩ w1 fun x6_5 =>
  LdI .i64 ⟨m0_, 6, none⟩ w1 fun x6_6 =>
  LdB ⟨m0_, 7, none⟩ w1 fun x6_7 =>
  LdL ⟨m0_, 8, none⟩ w1 fun x6_8_b x6_8_l x6_8_c =>
  LdS ⟨m0_, 9, none⟩ w1 fun x6_9 =>
  api_MsgOK.Call x6_0 x6_1 x6_2 x6_3 x6_4 x6_5 x6_6 x6_7 x6_8_b x6_8_l x6_8_c x6_9 w1 fun r7 w2 =>
  Bm (!r7) (
    R none 0 0 w2) (
    Pn s fun a =>
    LdP (a.add 1) w2 fun x12 =>
    elect_Elect_Id.Call x12 w2 fun r13 w3 =>
    LdI .i64 ⟨m0_, 2, none⟩ w3 fun x15 =>
    Bm (x15 != r13) (
      sB1 s m0_ true w3) (
      LdI .i64 ⟨m0_, 1, none⟩ w3 fun x20 =>
      sB1 s m0_ (x20 == r13) w3))) = kstep Tryz.prog 53 Tryz.f65.results.toList (Tryz.f65.body.getD .skip) (sync_Sync_Step.RV R) (kvc Tryz.prog 53 Tryz.f65.results.toList (Tryz.f65.body.getD .skip) (sync_Sync_Step.RV R) [([(0, [1, 1, 1, 0, 1]), (0, [1, 1, 1, 1])], fun σ w => dP (slotOf σ 0) fun s_ => dK (slotOf σ 3) fun m0_ => dB (slotOf σ 23) fun t23_ => sB1 s_ m0_ t23_ w)] 2000) [(0, [])] [(0, .pointer s), (1, .agg #[.int .i64 m0_0, .int .i64 m0_1, .int .i64 m0_2, .int .i64 m0_3, .int .i64 m0_4, .int .i64 m0_5, .int .i64 m0_6, .bool m0_7, .slice m0_8_b m0_8_l m0_8_c, .string m0_9])] w := by kernel_rfl
theorem sync_Sync_Step.B0_sound {R : Option Addr → Nat → Nat → World → Prop}  (s : Option Addr) (m0_0 m0_1 m0_2 m0_3 m0_4 m0_5 m0_6 : Int) (m0_7 : Bool) (m0_8_b : Option Addr) (m0_8_l m0_8_c : Nat) (m0_9 : ByteArray) (w : World) (h : sync_Sync_Step.B0 s m0_0 m0_1 m0_2 m0_3 m0_4 m0_5 m0_6 m0_7 m0_8_b m0_8_l m0_8_c m0_9 w   R) :
    KW Tryz.prog 65 53 (sync_Sync_Step.RV R) ([(0, [])].map (toItem (Tryz.f65.body.getD .skip))) [(0, .pointer s), (1, .agg #[.int .i64 m0_0, .int .i64 m0_1, .int .i64 m0_2, .int .i64 m0_3, .int .i64 m0_4, .int .i64 m0_5, .int .i64 m0_6, .bool m0_7, .slice m0_8_b m0_8_l m0_8_c, .string m0_9])] w := by
  exact block_spec Tryz.func65 Tryz.mixed (stops_cons (fun σ w h => by
      obtain ⟨s_, e0, h⟩ := dP_elim h
      obtain ⟨m0_, e1, h⟩ := dK_elim h
      obtain ⟨t23_, e2, h⟩ := dB_elim h
      exact (sync_Sync_Step.B1_sound  s_ m0_ t23_ w h).weaken (Sub.cons (Sub.cons (Sub.cons (Sub.nil _) e2) e1) e0)) stops_nil) (Eq.mp (sync_Sync_Step.B0_eq s m0_0 m0_1 m0_2 m0_3 m0_4 m0_5 m0_6 m0_7 m0_8_b m0_8_l m0_8_c m0_9 w   R (fun s_ m0_ t23_ w => sync_Sync_Step.B1 s_ m0_ t23_ w  R)) h)
theorem sync_Sync_Step.sound (s : Option Addr) (m0_0 m0_1 m0_2 m0_3 m0_4 m0_5 m0_6 : Int) (m0_7 : Bool) (m0_8_b : Option Addr) (m0_8_l m0_8_c : Nat) (m0_9 : ByteArray) (w : World) (R : Option Addr → Nat → Nat → World → Prop) (h : sync_Sync_Step.B0 s m0_0 m0_1 m0_2 m0_3 m0_4 m0_5 m0_6 m0_7 m0_8_b m0_8_l m0_8_c m0_9 w R) : sync_Sync_Step.Call s m0_0 m0_1 m0_2 m0_3 m0_4 m0_5 m0_6 m0_7 m0_8_b m0_8_l m0_8_c m0_9 w R := by
  have hc := calls_of_block (args := #[.pointer s, .agg #[.int .i64 m0_0, .int .i64 m0_1, .int .i64 m0_2, .int .i64 m0_3, .int .i64 m0_4, .int .i64 m0_5, .int .i64 m0_6, .bool m0_7, .slice m0_8_b m0_8_l m0_8_c, .string m0_9]]) Tryz.func65 (body := (Tryz.f65.body.getD .skip)) (by kernel_rfl) (by kernel_rfl) (args_slot _) (sync_Sync_Step.B0_sound s m0_0 m0_1 m0_2 m0_3 m0_4 m0_5 m0_6 m0_7 m0_8_b m0_8_l m0_8_c m0_9 w h)
  exact hc.mono fun e w' he => by
    obtain ⟨v, rfl, hv⟩ := he
    exact sync_Sync_Step.RV_elim hv
def syncm_Sync_Step.B2 (s : Option Addr) (m0 : Nat) (p : Int) (out_b : Option Addr) (out_l out_c re : Nat) (up : Bool) (w : World)   (R : Option Addr → Nat → Nat → World → Prop) : Prop :=
  Pn s fun a =>
  LdP (a.add 1) w.drew fun x86 =>
  LdI .i64 ⟨m0, 3, none⟩ w.drew fun x89 =>
  electm_Elect_AskedVote.Call x86 p x89 up w.drew fun r91 w1 =>
  Sts [.bool r91] ⟨re, 7, none⟩ 0 w1 fun w2 =>
  syncm_Sync_persist.Call s w2 fun w3 =>
  Sts [.int .i64 (2 : Int)] ⟨re, 0, none⟩ 0 w3 fun w4 =>
  Pn s fun a_1 =>
  LdP (a_1.add 1) w4 fun x99 =>
  electm_Elect_Term.Call x99 w4 fun r100 w5 =>
  Sts [.int .i64 r100] ⟨re, 3, none⟩ 0 w5 fun w6 =>
  LdI .i64 ⟨re, 0, none⟩ w6 fun x103_0 =>
  LdI .i64 ⟨re, 1, none⟩ w6 fun x103_1 =>
  LdI .i64 ⟨re, 2, none⟩ w6 fun x103_2 =>
  LdI .i64 ⟨re, 3, none⟩ w6 fun x103_3 =>
  LdI .i64 ⟨re, 4, none⟩ w6 fun x103_4 =>
  LdI .i64 ⟨re, 5, none⟩ w6 fun x103_5 =>
  LdI .i64 ⟨re, 6, none⟩ w6 fun x103_6 =>
  LdB ⟨re, 7, none⟩ w6 fun x103_7 =>
  LdL ⟨re, 8, none⟩ w6 fun x103_8_b x103_8_l x103_8_c =>
  LdS ⟨re, 9, none⟩ w6 fun x103_9 =>
  New (.cells #[.int .i64 x103_0, .int .i64 x103_1, .int .i64 x103_2, .int .i64 x103_3, .int .i64 x103_4, .int .i64 x103_5, .int .i64 x103_6, .bool x103_7, .slice x103_8_b x103_8_l x103_8_c, .string x103_9] 40) w6 fun b104 w7 =>
  Append 40 (.agg #[.int .i64 (0 : Int), .int .i64 (0 : Int), .int .i64 (0 : Int), .int .i64 (0 : Int), .int .i64 (0 : Int), .int .i64 (0 : Int), .int .i64 (0 : Int), .bool false, .slice none 0 0, .string (ByteArray.mk #[])]) 10 104 out_b out_l out_c (some ⟨b104, 0, none⟩) 1 w7 fun b105 c105 w8 =>
  R b105 (out_l + 1) c105 w8
theorem syncm_Sync_Step.B2_eq (s : Option Addr) (m0 : Nat) (p : Int) (out_b : Option Addr) (out_l out_c re : Nat) (up : Bool) (w : World)   (R : Option Addr → Nat → Nat → World → Prop)  :
    (
  Pn s fun a =>
  LdP (a.add 1) w.drew fun x86 =>
  LdI .i64 ⟨m0, 3, none⟩ w.drew fun x89 =>
  electm_Elect_AskedVote.Call x86 p x89 up w.drew fun r91 w1 =>
  Sts [.bool r91] ⟨re, 7, none⟩ 0 w1 fun w2 =>
  syncm_Sync_persist.Call s w2 fun w3 =>
  Sts [.int .i64 (2 : Int)] ⟨re, 0, none⟩ 0 w3 fun w4 =>
  Pn s fun a_1 =>
  LdP (a_1.add 1) w4 fun x99 =>
  electm_Elect_Term.Call x99 w4 fun r100 w5 =>
  Sts [.int .i64 r100] ⟨re, 3, none⟩ 0 w5 fun w6 =>
  LdI .i64 ⟨re, 0, none⟩ w6 fun x103_0 =>
  LdI .i64 ⟨re, 1, none⟩ w6 fun x103_1 =>
  LdI .i64 ⟨re, 2, none⟩ w6 fun x103_2 =>
  LdI .i64 ⟨re, 3, none⟩ w6 fun x103_3 =>
  LdI .i64 ⟨re, 4, none⟩ w6 fun x103_4 =>
  LdI .i64 ⟨re, 5, none⟩ w6 fun x103_5 =>
  LdI .i64 ⟨re, 6, none⟩ w6 fun x103_6 =>
  LdB ⟨re, 7, none⟩ w6 fun x103_7 =>
  LdL ⟨re, 8, none⟩ w6 fun x103_8_b x103_8_l x103_8_c =>
  LdS ⟨re, 9, none⟩ w6 fun x103_9 =>
  New (.cells #[.int .i64 x103_0, .int .i64 x103_1, .int .i64 x103_2, .int .i64 x103_3, .int .i64 x103_4, .int .i64 x103_5, .int .i64 x103_6, .bool x103_7, .slice x103_8_b x103_8_l x103_8_c, .string x103_9] 40) w6 fun b104 w7 =>
  Append 40 (.agg #[.int .i64 (0 : Int), .int .i64 (0 : Int), .int .i64 (0 : Int), .int .i64 (0 : Int), .int .i64 (0 : Int), .int .i64 (0 : Int), .int .i64 (0 : Int), .bool false, .slice none 0 0, .string (ByteArray.mk #[])]) 10 104 out_b out_l out_c (some ⟨b104, 0, none⟩) 1 w7 fun b105 c105 w8 =>
  R b105 (out_l + 1) c105 w8) = kstep Tryz.prog 372 Tryz.f66.results.toList (Tryz.f66.body.getD .skip) (syncm_Sync_Step.RV R) (kvc Tryz.prog 372 Tryz.f66.results.toList (Tryz.f66.body.getD .skip) (syncm_Sync_Step.RV R) [] 2000) [(0, [1, 1, 1, 1, 1, 1, 0, 1, 0, 1, 0, 1, 1]), (1, [0]), (0, [1, 1, 1, 1, 1, 1, 1])] [(0, .pointer s), (3, .pointer (some ⟨m0, 0, none⟩)), (6, .int .i64 p), (7, .slice out_b out_l out_c), (8, .pointer (some ⟨re, 0, none⟩)), (12, .bool up)] w := by kernel_rfl
theorem syncm_Sync_Step.B2_sound {R : Option Addr → Nat → Nat → World → Prop}  (s : Option Addr) (m0 : Nat) (p : Int) (out_b : Option Addr) (out_l out_c re : Nat) (up : Bool) (w : World) (h : syncm_Sync_Step.B2 s m0 p out_b out_l out_c re up w   R) :
    KW Tryz.prog 66 372 (syncm_Sync_Step.RV R) ([(0, [1, 1, 1, 1, 1, 1, 0, 1, 0, 1, 0, 1, 1]), (1, [0]), (0, [1, 1, 1, 1, 1, 1, 1])].map (toItem (Tryz.f66.body.getD .skip))) [(0, .pointer s), (3, .pointer (some ⟨m0, 0, none⟩)), (6, .int .i64 p), (7, .slice out_b out_l out_c), (8, .pointer (some ⟨re, 0, none⟩)), (12, .bool up)] w := by
  exact block_spec Tryz.func66 Tryz.mixed stops_nil (Eq.mp (syncm_Sync_Step.B2_eq s m0 p out_b out_l out_c re up w   R ) h)
def syncm_Sync_Step.L1b (s : Option Addr) (last q : Int) (w : World)  (N1 : Option Addr → Int → Int → World → Prop) (R : Option Addr → Nat → Nat → World → Prop) : Prop :=
  Bm (decide (q < (3 : Int))) (
    Pn s fun a =>
    (0 ≤ q ∧ q < ((3 : Nat) : Int)) ∧
    Pn s fun a_1 =>
    Sts [.int .i64 (IntKind.i64.wrap (last + (1 : Int)))] (Addr.add (a.add 3) (q.toNat * 1)) 0 w.drew fun w1 =>
    (0 ≤ q ∧ q < ((3 : Nat) : Int)) ∧
    Sts [.int .i64 (0 : Int)] (Addr.add (a_1.add 6) (q.toNat * 1)) 0 w1 fun w2 =>
    N1 s last (IntKind.i64.wrap (q + (1 : Int))) w2) (
    Pn s fun a_2 =>
    LdP (a_2.add 1) w fun x140 =>
    electm_Elect_Term.Call x140 w fun r141 w3 =>
    Pn s fun a_3 =>
    LdP a_3 w3 fun x145 =>
    rlogm_Log_Append.Call x145 r141 (ByteArray.mk #[]) w3 fun r148 w4 =>
    syncm_Sync_sendAll.Call s w4 fun r150_b r150_l r150_c w5 =>
    R r150_b r150_l r150_c w5)
theorem syncm_Sync_Step.L1b_eq (s : Option Addr) (last q : Int) (w : World)  (N1 : Option Addr → Int → Int → World → Prop) (R : Option Addr → Nat → Nat → World → Prop)  :
    (
  Bm (decide (q < (3 : Int))) (
    Pn s fun a =>
    (0 ≤ q ∧ q < ((3 : Nat) : Int)) ∧
    Pn s fun a_1 =>
    Sts [.int .i64 (IntKind.i64.wrap (last + (1 : Int)))] (Addr.add (a.add 3) (q.toNat * 1)) 0 w.drew fun w1 =>
    (0 ≤ q ∧ q < ((3 : Nat) : Int)) ∧
    Sts [.int .i64 (0 : Int)] (Addr.add (a_1.add 6) (q.toNat * 1)) 0 w1 fun w2 =>
    N1 s last (IntKind.i64.wrap (q + (1 : Int))) w2) (
    Pn s fun a_2 =>
    LdP (a_2.add 1) w fun x140 =>
    electm_Elect_Term.Call x140 w fun r141 w3 =>
    Pn s fun a_3 =>
    LdP a_3 w3 fun x145 =>
    rlogm_Log_Append.Call x145 r141 (ByteArray.mk #[]) w3 fun r148 w4 =>
    syncm_Sync_sendAll.Call s w4 fun r150_b r150_l r150_c w5 =>
    R r150_b r150_l r150_c w5)) = kstep Tryz.prog 372 Tryz.f66.results.toList (Tryz.f66.body.getD .skip) (syncm_Sync_Step.RV R) (kvc Tryz.prog 372 Tryz.f66.results.toList (Tryz.f66.body.getD .skip) (syncm_Sync_Step.RV R) [([(0, [1, 1, 1, 1, 1, 1, 0, 1, 0, 1, 1, 1, 0, 1, 1, 1, 0, 0, 1, 0, 0]), (2, [1, 1, 1, 1, 1, 1, 0, 1, 0, 1, 1, 1, 0, 1, 1, 1, 0, 0, 1, 0, 0]), (1, [1]), (0, [1, 1, 1, 1, 1, 1, 0, 1, 0, 1, 1, 1, 0, 1, 1, 1, 0, 1]), (1, [0]), (0, [1, 1, 1, 1, 1, 1, 1])], fun σ w => dP (slotOf σ 0) fun s_ => dI .i64 (slotOf σ 9) fun last_ => dI .i64 (slotOf σ 14) fun q_ => N1 s_ last_ q_ w)] 2000) [(0, [1, 1, 1, 1, 1, 1, 0, 1, 0, 1, 1, 1, 0, 1, 1, 1, 0, 0, 1, 0, 0]), (2, [1, 1, 1, 1, 1, 1, 0, 1, 0, 1, 1, 1, 0, 1, 1, 1, 0, 0, 1, 0, 0]), (1, [1]), (0, [1, 1, 1, 1, 1, 1, 0, 1, 0, 1, 1, 1, 0, 1, 1, 1, 0, 1]), (1, [0]), (0, [1, 1, 1, 1, 1, 1, 1])] [(0, .pointer s), (9, .int .i64 last), (14, .int .i64 q)] w := by kernel_rfl
theorem syncm_Sync_Step.L1b_sound {R : Option Addr → Nat → Nat → World → Prop} {N1 : Option Addr → Int → Int → World → Prop} (hN1 : ∀ s last q w, N1 s last q w → KW Tryz.prog 66 372 (syncm_Sync_Step.RV R) ([(0, [1, 1, 1, 1, 1, 1, 0, 1, 0, 1, 1, 1, 0, 1, 1, 1, 0, 0, 1, 0, 0]), (2, [1, 1, 1, 1, 1, 1, 0, 1, 0, 1, 1, 1, 0, 1, 1, 1, 0, 0, 1, 0, 0]), (1, [1]), (0, [1, 1, 1, 1, 1, 1, 0, 1, 0, 1, 1, 1, 0, 1, 1, 1, 0, 1]), (1, [0]), (0, [1, 1, 1, 1, 1, 1, 1])].map (toItem (Tryz.f66.body.getD .skip))) [(0, .pointer s), (9, .int .i64 last), (14, .int .i64 q)] w) (s : Option Addr) (last q : Int) (w : World) (h : syncm_Sync_Step.L1b s last q w  N1 R) :
    KW Tryz.prog 66 372 (syncm_Sync_Step.RV R) ([(0, [1, 1, 1, 1, 1, 1, 0, 1, 0, 1, 1, 1, 0, 1, 1, 1, 0, 0, 1, 0, 0]), (2, [1, 1, 1, 1, 1, 1, 0, 1, 0, 1, 1, 1, 0, 1, 1, 1, 0, 0, 1, 0, 0]), (1, [1]), (0, [1, 1, 1, 1, 1, 1, 0, 1, 0, 1, 1, 1, 0, 1, 1, 1, 0, 1]), (1, [0]), (0, [1, 1, 1, 1, 1, 1, 1])].map (toItem (Tryz.f66.body.getD .skip))) [(0, .pointer s), (9, .int .i64 last), (14, .int .i64 q)] w := by
  exact block_spec Tryz.func66 Tryz.mixed (stops_cons (fun σ w h => by
      obtain ⟨s_, e0, h⟩ := dP_elim h
      obtain ⟨last_, e1, h⟩ := dI_elim h
      obtain ⟨q_, e2, h⟩ := dI_elim h
      exact (hN1 s_ last_ q_ w h).weaken (Sub.cons (Sub.cons (Sub.cons (Sub.nil _) e2) e1) e0)) stops_nil) (Eq.mp (syncm_Sync_Step.L1b_eq s last q w  N1 R ) h)
def syncm_Sync_Step.L1 (s : Option Addr) (last q : Int) (w : World)  (R : Option Addr → Nat → Nat → World → Prop) : Prop :=
  ∃ (I : Nat → Option Addr → Int → Int → World → Prop) (m : Nat), I m s last q w ∧ ∀ m s last q w, I m s last q w → syncm_Sync_Step.L1b s last q w  (fun s' last' q' w' => ∃ m', m' < m ∧ I m' s' last' q' w') R
theorem syncm_Sync_Step.L1_sound {R : Option Addr → Nat → Nat → World → Prop}  (s : Option Addr) (last q : Int) (w : World) (h : syncm_Sync_Step.L1 s last q w  R) :
    KW Tryz.prog 66 372 (syncm_Sync_Step.RV R) ([(0, [1, 1, 1, 1, 1, 1, 0, 1, 0, 1, 1, 1, 0, 1, 1, 1, 0, 0, 1, 0, 0]), (2, [1, 1, 1, 1, 1, 1, 0, 1, 0, 1, 1, 1, 0, 1, 1, 1, 0, 0, 1, 0, 0]), (1, [1]), (0, [1, 1, 1, 1, 1, 1, 0, 1, 0, 1, 1, 1, 0, 1, 1, 1, 0, 1]), (1, [0]), (0, [1, 1, 1, 1, 1, 1, 1])].map (toItem (Tryz.f66.body.getD .skip))) [(0, .pointer s), (9, .int .i64 last), (14, .int .i64 q)] w := by
  obtain ⟨I, m, hBase, hr⟩ := h
  refine KW.loop (fun m σ w => ∃ (s : Option Addr) (last q : Int), σ = [(0, .pointer s), (9, .int .i64 last), (14, .int .i64 q)] ∧ I m s last q w) ?_ m _ w ⟨s, last, q, rfl, hBase⟩
  rintro m ih σ w ⟨s, last, q, rfl, hI⟩
  exact syncm_Sync_Step.L1b_sound  (N1 := fun s' last' q' w' => ∃ m', m' < m ∧ I m' s' last' q' w') (fun s' last' q' w' hx => by obtain ⟨m', hlt, hI'⟩ := hx; exact ih m' hlt _ w' ⟨s', last', q', rfl, hI'⟩) s last q w (hr m s last q w hI)
def syncm_Sync_Step.B3 (s out_b : Option Addr) (out_l out_c re : Nat) (w : World)   (R : Option Addr → Nat → Nat → World → Prop) : Prop :=
  Pn s fun a =>
  LdP (a.add 1) w fun x175 =>
  electm_Elect_Term.Call x175 w fun r176 w1 =>
  Sts [.int .i64 r176] ⟨re, 3, none⟩ 0 w1 fun w2 =>
  LdI .i64 ⟨re, 0, none⟩ w2 fun x179_0 =>
  LdI .i64 ⟨re, 1, none⟩ w2 fun x179_1 =>
  LdI .i64 ⟨re, 2, none⟩ w2 fun x179_2 =>
  LdI .i64 ⟨re, 3, none⟩ w2 fun x179_3 =>
  LdI .i64 ⟨re, 4, none⟩ w2 fun x179_4 =>
  LdI .i64 ⟨re, 5, none⟩ w2 fun x179_5 =>
  LdI .i64 ⟨re, 6, none⟩ w2 fun x179_6 =>
  LdB ⟨re, 7, none⟩ w2 fun x179_7 =>
  LdL ⟨re, 8, none⟩ w2 fun x179_8_b x179_8_l x179_8_c =>
  LdS ⟨re, 9, none⟩ w2 fun x179_9 =>
  New (.cells #[.int .i64 x179_0, .int .i64 x179_1, .int .i64 x179_2, .int .i64 x179_3, .int .i64 x179_4, .int .i64 x179_5, .int .i64 x179_6, .bool x179_7, .slice x179_8_b x179_8_l x179_8_c, .string x179_9] 40) w2 fun b180 w3 =>
  Append 40 (.agg #[.int .i64 (0 : Int), .int .i64 (0 : Int), .int .i64 (0 : Int), .int .i64 (0 : Int), .int .i64 (0 : Int), .int .i64 (0 : Int), .int .i64 (0 : Int), .bool false, .slice none 0 0, .string (ByteArray.mk #[])]) 10 104 out_b out_l out_c (some ⟨b180, 0, none⟩) 1 w3 fun b181 c181 w4 =>
  R b181 (out_l + 1) c181 w4
theorem syncm_Sync_Step.B3_eq (s out_b : Option Addr) (out_l out_c re : Nat) (w : World)   (R : Option Addr → Nat → Nat → World → Prop)  :
    (
  Pn s fun a =>
  LdP (a.add 1) w fun x175 =>
  electm_Elect_Term.Call x175 w fun r176 w1 =>
  Sts [.int .i64 r176] ⟨re, 3, none⟩ 0 w1 fun w2 =>
  LdI .i64 ⟨re, 0, none⟩ w2 fun x179_0 =>
  LdI .i64 ⟨re, 1, none⟩ w2 fun x179_1 =>
  LdI .i64 ⟨re, 2, none⟩ w2 fun x179_2 =>
  LdI .i64 ⟨re, 3, none⟩ w2 fun x179_3 =>
  LdI .i64 ⟨re, 4, none⟩ w2 fun x179_4 =>
  LdI .i64 ⟨re, 5, none⟩ w2 fun x179_5 =>
  LdI .i64 ⟨re, 6, none⟩ w2 fun x179_6 =>
  LdB ⟨re, 7, none⟩ w2 fun x179_7 =>
  LdL ⟨re, 8, none⟩ w2 fun x179_8_b x179_8_l x179_8_c =>
  LdS ⟨re, 9, none⟩ w2 fun x179_9 =>
  New (.cells #[.int .i64 x179_0, .int .i64 x179_1, .int .i64 x179_2, .int .i64 x179_3, .int .i64 x179_4, .int .i64 x179_5, .int .i64 x179_6, .bool x179_7, .slice x179_8_b x179_8_l x179_8_c, .string x179_9] 40) w2 fun b180 w3 =>
  Append 40 (.agg #[.int .i64 (0 : Int), .int .i64 (0 : Int), .int .i64 (0 : Int), .int .i64 (0 : Int), .int .i64 (0 : Int), .int .i64 (0 : Int), .int .i64 (0 : Int), .bool false, .slice none 0 0, .string (ByteArray.mk #[])]) 10 104 out_b out_l out_c (some ⟨b180, 0, none⟩) 1 w3 fun b181 c181 w4 =>
  R b181 (out_l + 1) c181 w4) = kstep Tryz.prog 372 Tryz.f66.results.toList (Tryz.f66.body.getD .skip) (syncm_Sync_Step.RV R) (kvc Tryz.prog 372 Tryz.f66.results.toList (Tryz.f66.body.getD .skip) (syncm_Sync_Step.RV R) [] 2000) [(0, [1, 1, 1, 1, 1, 1, 0, 1, 0, 1, 1, 1, 1, 1, 0, 1, 1, 1]), (1, [0]), (0, [1, 1, 1, 1, 1, 1, 1])] [(0, .pointer s), (7, .slice out_b out_l out_c), (8, .pointer (some ⟨re, 0, none⟩))] w := by kernel_rfl
theorem syncm_Sync_Step.B3_sound {R : Option Addr → Nat → Nat → World → Prop}  (s out_b : Option Addr) (out_l out_c re : Nat) (w : World) (h : syncm_Sync_Step.B3 s out_b out_l out_c re w   R) :
    KW Tryz.prog 66 372 (syncm_Sync_Step.RV R) ([(0, [1, 1, 1, 1, 1, 1, 0, 1, 0, 1, 1, 1, 1, 1, 0, 1, 1, 1]), (1, [0]), (0, [1, 1, 1, 1, 1, 1, 1])].map (toItem (Tryz.f66.body.getD .skip))) [(0, .pointer s), (7, .slice out_b out_l out_c), (8, .pointer (some ⟨re, 0, none⟩))] w := by
  exact block_spec Tryz.func66 Tryz.mixed stops_nil (Eq.mp (syncm_Sync_Step.B3_eq s out_b out_l out_c re w   R ) h)
def syncm_Sync_Step.B6 (s out_b : Option Addr) (out_l out_c re : Nat) (w : World)   (R : Option Addr → Nat → Nat → World → Prop) : Prop :=
  Pn s fun a =>
  LdP (a.add 1) w fun x236 =>
  electm_Elect_Term.Call x236 w fun r237 w1 =>
  Sts [.int .i64 r237] ⟨re, 3, none⟩ 0 w1 fun w2 =>
  LdI .i64 ⟨re, 0, none⟩ w2 fun x240_0 =>
  LdI .i64 ⟨re, 1, none⟩ w2 fun x240_1 =>
  LdI .i64 ⟨re, 2, none⟩ w2 fun x240_2 =>
  LdI .i64 ⟨re, 3, none⟩ w2 fun x240_3 =>
  LdI .i64 ⟨re, 4, none⟩ w2 fun x240_4 =>
  LdI .i64 ⟨re, 5, none⟩ w2 fun x240_5 =>
  LdI .i64 ⟨re, 6, none⟩ w2 fun x240_6 =>
  LdB ⟨re, 7, none⟩ w2 fun x240_7 =>
  LdL ⟨re, 8, none⟩ w2 fun x240_8_b x240_8_l x240_8_c =>
  LdS ⟨re, 9, none⟩ w2 fun x240_9 =>
  New (.cells #[.int .i64 x240_0, .int .i64 x240_1, .int .i64 x240_2, .int .i64 x240_3, .int .i64 x240_4, .int .i64 x240_5, .int .i64 x240_6, .bool x240_7, .slice x240_8_b x240_8_l x240_8_c, .string x240_9] 40) w2 fun b241 w3 =>
  Append 40 (.agg #[.int .i64 (0 : Int), .int .i64 (0 : Int), .int .i64 (0 : Int), .int .i64 (0 : Int), .int .i64 (0 : Int), .int .i64 (0 : Int), .int .i64 (0 : Int), .bool false, .slice none 0 0, .string (ByteArray.mk #[])]) 10 104 out_b out_l out_c (some ⟨b241, 0, none⟩) 1 w3 fun b242 c242 w4 =>
  R b242 (out_l + 1) c242 w4
theorem syncm_Sync_Step.B6_eq (s out_b : Option Addr) (out_l out_c re : Nat) (w : World)   (R : Option Addr → Nat → Nat → World → Prop)  :
    (
  Pn s fun a =>
  LdP (a.add 1) w fun x236 =>
  electm_Elect_Term.Call x236 w fun r237 w1 =>
  Sts [.int .i64 r237] ⟨re, 3, none⟩ 0 w1 fun w2 =>
  LdI .i64 ⟨re, 0, none⟩ w2 fun x240_0 =>
  LdI .i64 ⟨re, 1, none⟩ w2 fun x240_1 =>
  LdI .i64 ⟨re, 2, none⟩ w2 fun x240_2 =>
  LdI .i64 ⟨re, 3, none⟩ w2 fun x240_3 =>
  LdI .i64 ⟨re, 4, none⟩ w2 fun x240_4 =>
  LdI .i64 ⟨re, 5, none⟩ w2 fun x240_5 =>
  LdI .i64 ⟨re, 6, none⟩ w2 fun x240_6 =>
  LdB ⟨re, 7, none⟩ w2 fun x240_7 =>
  LdL ⟨re, 8, none⟩ w2 fun x240_8_b x240_8_l x240_8_c =>
  LdS ⟨re, 9, none⟩ w2 fun x240_9 =>
  New (.cells #[.int .i64 x240_0, .int .i64 x240_1, .int .i64 x240_2, .int .i64 x240_3, .int .i64 x240_4, .int .i64 x240_5, .int .i64 x240_6, .bool x240_7, .slice x240_8_b x240_8_l x240_8_c, .string x240_9] 40) w2 fun b241 w3 =>
  Append 40 (.agg #[.int .i64 (0 : Int), .int .i64 (0 : Int), .int .i64 (0 : Int), .int .i64 (0 : Int), .int .i64 (0 : Int), .int .i64 (0 : Int), .int .i64 (0 : Int), .bool false, .slice none 0 0, .string (ByteArray.mk #[])]) 10 104 out_b out_l out_c (some ⟨b241, 0, none⟩) 1 w3 fun b242 c242 w4 =>
  R b242 (out_l + 1) c242 w4) = kstep Tryz.prog 372 Tryz.f66.results.toList (Tryz.f66.body.getD .skip) (syncm_Sync_Step.RV R) (kvc Tryz.prog 372 Tryz.f66.results.toList (Tryz.f66.body.getD .skip) (syncm_Sync_Step.RV R) [] 2000) [(0, [1, 1, 1, 1, 1, 1, 0, 1, 0, 1, 1, 1, 1, 1, 1, 1, 0, 1, 1, 1]), (1, [0]), (0, [1, 1, 1, 1, 1, 1, 1])] [(0, .pointer s), (7, .slice out_b out_l out_c), (8, .pointer (some ⟨re, 0, none⟩))] w := by kernel_rfl
theorem syncm_Sync_Step.B6_sound {R : Option Addr → Nat → Nat → World → Prop}  (s out_b : Option Addr) (out_l out_c re : Nat) (w : World) (h : syncm_Sync_Step.B6 s out_b out_l out_c re w   R) :
    KW Tryz.prog 66 372 (syncm_Sync_Step.RV R) ([(0, [1, 1, 1, 1, 1, 1, 0, 1, 0, 1, 1, 1, 1, 1, 1, 1, 0, 1, 1, 1]), (1, [0]), (0, [1, 1, 1, 1, 1, 1, 1])].map (toItem (Tryz.f66.body.getD .skip))) [(0, .pointer s), (7, .slice out_b out_l out_c), (8, .pointer (some ⟨re, 0, none⟩))] w := by
  exact block_spec Tryz.func66 Tryz.mixed stops_nil (Eq.mp (syncm_Sync_Step.B6_eq s out_b out_l out_c re w   R ) h)
def syncm_Sync_Step.B4 (s : Option Addr) (m0 : Nat) (out_b : Option Addr) (out_l out_c re : Nat) (ok t203 : Bool) (w : World)   (R : Option Addr → Nat → Nat → World → Prop) : Prop :=
  Bm t203 (
    Pn s fun a =>
    LdI .i64 (a.add 2) w.drew fun x207 =>
    Sts [.bool true] ⟨re, 7, none⟩ 0 w.drew fun w1 =>
    w1.cell? (a.add 2) = some (.int .i64 x207) ∧
    Sts [.int .i64 x207] ⟨re, 4, none⟩ 0 w1 fun w2 =>
    syncm_Sync_Step.B6 s out_b out_l out_c re w2  R) (
    Bm ok (
      Pn s fun a_1 =>
      LdP a_1 w.drew fun x214 =>
      LdI .i64 ⟨m0, 4, none⟩ w.drew fun x216 =>
      LdI .i64 ⟨m0, 5, none⟩ w.drew fun x218 =>
      LdS ⟨m0, 9, none⟩ w.drew fun x220 =>
      rlogm_Log_Install.Call x214 x216 x218 x220 w.drew fun r221 w3 =>
      Bm (r221 == (0 : Int)) (
        LdI .i64 ⟨m0, 4, none⟩ w3 fun x226 =>
        Pn s fun a_2 =>
        Sts [.int .i64 x226] (a_2.add 2) 0 w3 fun w4 =>
        LdI .i64 ⟨m0, 4, none⟩ w4.drew fun x230 =>
        Sts [.bool true] ⟨re, 7, none⟩ 0 w4.drew fun w5 =>
        w5.cell? ⟨m0, 4, none⟩ = some (.int .i64 x230) ∧
        Sts [.int .i64 x230] ⟨re, 4, none⟩ 0 w5 fun w6 =>
        syncm_Sync_Step.B6 s out_b out_l out_c re w6  R) (
        syncm_Sync_Step.B6 s out_b out_l out_c re w3  R)) (
      syncm_Sync_Step.B6 s out_b out_l out_c re w  R))
theorem syncm_Sync_Step.B4_eq (s : Option Addr) (m0 : Nat) (out_b : Option Addr) (out_l out_c re : Nat) (ok t203 : Bool) (w : World)   (R : Option Addr → Nat → Nat → World → Prop) (sB6 : Option Addr → Option Addr → Nat → Nat → Nat → World → Prop) :
    (
  Bm t203 (
    Pn s fun a =>
    LdI .i64 (a.add 2) w.drew fun x207 =>
    Sts [.bool true] ⟨re, 7, none⟩ 0 w.drew fun w1 =>
    w1.cell? (a.add 2) = some (.int .i64 x207) ∧
    Sts [.int .i64 x207] ⟨re, 4, none⟩ 0 w1 fun w2 =>
    sB6 s out_b out_l out_c re w2) (
    Bm ok (
      Pn s fun a_1 =>
      LdP a_1 w.drew fun x214 =>
      LdI .i64 ⟨m0, 4, none⟩ w.drew fun x216 =>
      LdI .i64 ⟨m0, 5, none⟩ w.drew fun x218 =>
      LdS ⟨m0, 9, none⟩ w.drew fun x220 =>
      rlogm_Log_Install.Call x214 x216 x218 x220 w.drew fun r221 w3 =>
      Bm (r221 == (0 : Int)) (
        LdI .i64 ⟨m0, 4, none⟩ w3 fun x226 =>
        Pn s fun a_2 =>
        Sts [.int .i64 x226] (a_2.add 2) 0 w3 fun w4 =>
        LdI .i64 ⟨m0, 4, none⟩ w4.drew fun x230 =>
        Sts [.bool true] ⟨re, 7, none⟩ 0 w4.drew fun w5 =>
        w5.cell? ⟨m0, 4, none⟩ = some (.int .i64 x230) ∧
        Sts [.int .i64 x230] ⟨re, 4, none⟩ 0 w5 fun w6 =>
        sB6 s out_b out_l out_c re w6) (
        sB6 s out_b out_l out_c re w3)) (
      sB6 s out_b out_l out_c re w))) = kstep Tryz.prog 372 Tryz.f66.results.toList (Tryz.f66.body.getD .skip) (syncm_Sync_Step.RV R) (kvc Tryz.prog 372 Tryz.f66.results.toList (Tryz.f66.body.getD .skip) (syncm_Sync_Step.RV R) [([(0, [1, 1, 1, 1, 1, 1, 0, 1, 0, 1, 1, 1, 1, 1, 1, 1, 0, 1, 1, 1]), (1, [0]), (0, [1, 1, 1, 1, 1, 1, 1])], fun σ w => dP (slotOf σ 0) fun s_ => dL (slotOf σ 7) fun out_b_ out_l_ out_c_ => dK (slotOf σ 8) fun re_ => sB6 s_ out_b_ out_l_ out_c_ re_ w)] 2000) [(0, [1, 1, 1, 1, 1, 1, 0, 1, 0, 1, 1, 1, 1, 1, 1, 1, 0, 1, 1, 0, 1]), (0, [1, 1, 1, 1, 1, 1, 0, 1, 0, 1, 1, 1, 1, 1, 1, 1, 0, 1, 1, 1]), (1, [0]), (0, [1, 1, 1, 1, 1, 1, 1])] [(0, .pointer s), (3, .pointer (some ⟨m0, 0, none⟩)), (7, .slice out_b out_l out_c), (8, .pointer (some ⟨re, 0, none⟩)), (17, .bool ok), (203, .bool t203)] w := by kernel_rfl
theorem syncm_Sync_Step.B4_sound {R : Option Addr → Nat → Nat → World → Prop}  (s : Option Addr) (m0 : Nat) (out_b : Option Addr) (out_l out_c re : Nat) (ok t203 : Bool) (w : World) (h : syncm_Sync_Step.B4 s m0 out_b out_l out_c re ok t203 w   R) :
    KW Tryz.prog 66 372 (syncm_Sync_Step.RV R) ([(0, [1, 1, 1, 1, 1, 1, 0, 1, 0, 1, 1, 1, 1, 1, 1, 1, 0, 1, 1, 0, 1]), (0, [1, 1, 1, 1, 1, 1, 0, 1, 0, 1, 1, 1, 1, 1, 1, 1, 0, 1, 1, 1]), (1, [0]), (0, [1, 1, 1, 1, 1, 1, 1])].map (toItem (Tryz.f66.body.getD .skip))) [(0, .pointer s), (3, .pointer (some ⟨m0, 0, none⟩)), (7, .slice out_b out_l out_c), (8, .pointer (some ⟨re, 0, none⟩)), (17, .bool ok), (203, .bool t203)] w := by
  exact block_spec Tryz.func66 Tryz.mixed (stops_cons (fun σ w h => by
      obtain ⟨s_, e0, h⟩ := dP_elim h
      obtain ⟨out_b_, out_l_, out_c_, e1, h⟩ := dL_elim h
      obtain ⟨re_, e2, h⟩ := dK_elim h
      exact (syncm_Sync_Step.B6_sound  s_ out_b_ out_l_ out_c_ re_ w h).weaken (Sub.cons (Sub.cons (Sub.cons (Sub.nil _) e2) e1) e0)) stops_nil) (Eq.mp (syncm_Sync_Step.B4_eq s m0 out_b out_l out_c re ok t203 w   R (fun s_ out_b_ out_l_ out_c_ re_ w => syncm_Sync_Step.B6 s_ out_b_ out_l_ out_c_ re_ w  R)) h)
def syncm_Sync_Step.B9 (s : Option Addr) (p : Int) (out_b : Option Addr) (out_l out_c : Nat) (last : Int) (w : World)   (R : Option Addr → Nat → Nat → World → Prop) : Prop :=
  syncm_Sync_advance.Call s w fun w1 =>
  Pn s fun a =>
  (0 ≤ p ∧ p < ((3 : Nat) : Int)) ∧
  LdI .i64 (Addr.add (a.add 3) (p.toNat * 1)) w1 fun x321 =>
  Bm (decide (x321 ≤ last)) (
    syncm_Sync_send.Call s p w1 fun r326_0 r326_1 r326_2 r326_3 r326_4 r326_5 r326_6 r326_7 r326_8_b r326_8_l r326_8_c r326_9 w2 =>
    New (.cells #[.int .i64 (0 : Int), .int .i64 (0 : Int), .int .i64 (0 : Int), .int .i64 (0 : Int), .int .i64 (0 : Int), .int .i64 (0 : Int), .int .i64 (0 : Int), .bool false, .slice none 0 0, .string (ByteArray.mk #[])] 40) w2 fun a_ w3 =>
    Sts [.int .i64 r326_0, .int .i64 r326_1, .int .i64 r326_2, .int .i64 r326_3, .int .i64 r326_4, .int .i64 r326_5, .int .i64 r326_6, .bool r326_7, .slice r326_8_b r326_8_l r326_8_c, .string r326_9] ⟨a_, 0, none⟩ 0 w3 fun w4 =>
    LdI .i64 ⟨a_, 0, none⟩ w4 fun x328_0 =>
    LdI .i64 ⟨a_, 1, none⟩ w4 fun x328_1 =>
    LdI .i64 ⟨a_, 2, none⟩ w4 fun x328_2 =>
    LdI .i64 ⟨a_, 3, none⟩ w4 fun x328_3 =>
    LdI .i64 ⟨a_, 4, none⟩ w4 fun x328_4 =>
    LdI .i64 ⟨a_, 5, none⟩ w4 fun x328_5 =>
    LdI .i64 ⟨a_, 6, none⟩ w4 fun x328_6 =>
    LdB ⟨a_, 7, none⟩ w4 fun x328_7 =>
    LdL ⟨a_, 8, none⟩ w4 fun x328_8_b x328_8_l x328_8_c =>
    LdS ⟨a_, 9, none⟩ w4 fun x328_9 =>
    New (.cells #[.int .i64 x328_0, .int .i64 x328_1, .int .i64 x328_2, .int .i64 x328_3, .int .i64 x328_4, .int .i64 x328_5, .int .i64 x328_6, .bool x328_7, .slice x328_8_b x328_8_l x328_8_c, .string x328_9] 40) w4 fun b329 w5 =>
    Append 40 (.agg #[.int .i64 (0 : Int), .int .i64 (0 : Int), .int .i64 (0 : Int), .int .i64 (0 : Int), .int .i64 (0 : Int), .int .i64 (0 : Int), .int .i64 (0 : Int), .bool false, .slice none 0 0, .string (ByteArray.mk #[])]) 10 104 out_b out_l out_c (some ⟨b329, 0, none⟩) 1 w5 fun b330 c330 w6 =>
    R b330 (out_l + 1) c330 w6) (
    R out_b out_l out_c w1)
theorem syncm_Sync_Step.B9_eq (s : Option Addr) (p : Int) (out_b : Option Addr) (out_l out_c : Nat) (last : Int) (w : World)   (R : Option Addr → Nat → Nat → World → Prop)  :
    (
  syncm_Sync_advance.Call s w fun w1 =>
  Pn s fun a =>
  (0 ≤ p ∧ p < ((3 : Nat) : Int)) ∧
  LdI .i64 (Addr.add (a.add 3) (p.toNat * 1)) w1 fun x321 =>
  Bm (decide (x321 ≤ last)) (
    syncm_Sync_send.Call s p w1 fun r326_0 r326_1 r326_2 r326_3 r326_4 r326_5 r326_6 r326_7 r326_8_b r326_8_l r326_8_c r326_9 w2 =>
    New (.cells #[.int .i64 (0 : Int), .int .i64 (0 : Int), .int .i64 (0 : Int), .int .i64 (0 : Int), .int .i64 (0 : Int), .int .i64 (0 : Int), .int .i64 (0 : Int), .bool false, .slice none 0 0, .string (ByteArray.mk #[])] 40) w2 fun a_ w3 =>
    Sts [.int .i64 r326_0, .int .i64 r326_1, .int .i64 r326_2, .int .i64 r326_3, .int .i64 r326_4, .int .i64 r326_5, .int .i64 r326_6, .bool r326_7, .slice r326_8_b r326_8_l r326_8_c, .string r326_9] ⟨a_, 0, none⟩ 0 w3 fun w4 =>
    LdI .i64 ⟨a_, 0, none⟩ w4 fun x328_0 =>
    LdI .i64 ⟨a_, 1, none⟩ w4 fun x328_1 =>
    LdI .i64 ⟨a_, 2, none⟩ w4 fun x328_2 =>
    LdI .i64 ⟨a_, 3, none⟩ w4 fun x328_3 =>
    LdI .i64 ⟨a_, 4, none⟩ w4 fun x328_4 =>
    LdI .i64 ⟨a_, 5, none⟩ w4 fun x328_5 =>
    LdI .i64 ⟨a_, 6, none⟩ w4 fun x328_6 =>
    LdB ⟨a_, 7, none⟩ w4 fun x328_7 =>
    LdL ⟨a_, 8, none⟩ w4 fun x328_8_b x328_8_l x328_8_c =>
    LdS ⟨a_, 9, none⟩ w4 fun x328_9 =>
    New (.cells #[.int .i64 x328_0, .int .i64 x328_1, .int .i64 x328_2, .int .i64 x328_3, .int .i64 x328_4, .int .i64 x328_5, .int .i64 x328_6, .bool x328_7, .slice x328_8_b x328_8_l x328_8_c, .string x328_9] 40) w4 fun b329 w5 =>
    Append 40 (.agg #[.int .i64 (0 : Int), .int .i64 (0 : Int), .int .i64 (0 : Int), .int .i64 (0 : Int), .int .i64 (0 : Int), .int .i64 (0 : Int), .int .i64 (0 : Int), .bool false, .slice none 0 0, .string (ByteArray.mk #[])]) 10 104 out_b out_l out_c (some ⟨b329, 0, none⟩) 1 w5 fun b330 c330 w6 =>
    R b330 (out_l + 1) c330 w6) (
    R out_b out_l out_c w1)) = kstep Tryz.prog 372 Tryz.f66.results.toList (Tryz.f66.body.getD .skip) (syncm_Sync_Step.RV R) (kvc Tryz.prog 372 Tryz.f66.results.toList (Tryz.f66.body.getD .skip) (syncm_Sync_Step.RV R) [] 2000) [(0, [1, 1, 1, 1, 1, 1, 0, 1, 0, 1, 1, 1, 1, 1, 1, 1, 1, 1, 0, 1, 1, 1, 1, 1, 0, 1, 0, 0, 1, 0, 1, 1]), (0, [1, 1, 1, 1, 1, 1, 0, 1, 0, 1, 1, 1, 1, 1, 1, 1, 1, 1, 0, 1, 1, 1, 1, 1, 0, 1, 0, 1]), (0, [1, 1, 1, 1, 1, 1, 0, 1, 0, 1, 1, 1, 1, 1, 1, 1, 1, 1, 0, 1, 1, 1, 1, 1, 1]), (1, [0]), (0, [1, 1, 1, 1, 1, 1, 1])] [(0, .pointer s), (6, .int .i64 p), (7, .slice out_b out_l out_c), (9, .int .i64 last)] w := by kernel_rfl
theorem syncm_Sync_Step.B9_sound {R : Option Addr → Nat → Nat → World → Prop}  (s : Option Addr) (p : Int) (out_b : Option Addr) (out_l out_c : Nat) (last : Int) (w : World) (h : syncm_Sync_Step.B9 s p out_b out_l out_c last w   R) :
    KW Tryz.prog 66 372 (syncm_Sync_Step.RV R) ([(0, [1, 1, 1, 1, 1, 1, 0, 1, 0, 1, 1, 1, 1, 1, 1, 1, 1, 1, 0, 1, 1, 1, 1, 1, 0, 1, 0, 0, 1, 0, 1, 1]), (0, [1, 1, 1, 1, 1, 1, 0, 1, 0, 1, 1, 1, 1, 1, 1, 1, 1, 1, 0, 1, 1, 1, 1, 1, 0, 1, 0, 1]), (0, [1, 1, 1, 1, 1, 1, 0, 1, 0, 1, 1, 1, 1, 1, 1, 1, 1, 1, 0, 1, 1, 1, 1, 1, 1]), (1, [0]), (0, [1, 1, 1, 1, 1, 1, 1])].map (toItem (Tryz.f66.body.getD .skip))) [(0, .pointer s), (6, .int .i64 p), (7, .slice out_b out_l out_c), (9, .int .i64 last)] w := by
  exact block_spec Tryz.func66 Tryz.mixed stops_nil (Eq.mp (syncm_Sync_Step.B9_eq s p out_b out_l out_c last w   R ) h)
def syncm_Sync_Step.B7 (s : Option Addr) (m0 : Nat) (p : Int) (out_b : Option Addr) (out_l out_c : Nat) (last : Int) (t289 : Bool) (w : World)   (R : Option Addr → Nat → Nat → World → Prop) : Prop :=
  Bm t289 (
    LdI .i64 ⟨m0, 4, none⟩ w.drew fun x293 =>
    Pn s fun a =>
    (0 ≤ p ∧ p < ((3 : Nat) : Int)) ∧
    Sts [.int .i64 x293] (Addr.add (a.add 6) (p.toNat * 1)) 0 w.drew fun w1 =>
    Pn s fun a_1 =>
    (0 ≤ p ∧ p < ((3 : Nat) : Int)) ∧
    LdI .i64 (Addr.add (a_1.add 3) (p.toNat * 1)) w1.drew fun x302 =>
    LdI .i64 ⟨m0, 4, none⟩ w1.drew fun x304 =>
    Bm (decide (x302 ≤ x304)) (
      LdI .i64 ⟨m0, 4, none⟩ w1.drew.drew fun x309 =>
      Pn s fun a_2 =>
      (0 ≤ p ∧ p < ((3 : Nat) : Int)) ∧
      Sts [.int .i64 (IntKind.i64.wrap (x309 + (1 : Int)))] (Addr.add (a_2.add 3) (p.toNat * 1)) 0 w1.drew.drew fun w2 =>
      syncm_Sync_Step.B9 s p out_b out_l out_c last w2  R) (
      syncm_Sync_Step.B9 s p out_b out_l out_c last w1.drew  R)) (
    R out_b out_l out_c w)
theorem syncm_Sync_Step.B7_eq (s : Option Addr) (m0 : Nat) (p : Int) (out_b : Option Addr) (out_l out_c : Nat) (last : Int) (t289 : Bool) (w : World)   (R : Option Addr → Nat → Nat → World → Prop) (sB9 : Option Addr → Int → Option Addr → Nat → Nat → Int → World → Prop) :
    (
  Bm t289 (
    LdI .i64 ⟨m0, 4, none⟩ w.drew fun x293 =>
    Pn s fun a =>
    (0 ≤ p ∧ p < ((3 : Nat) : Int)) ∧
    Sts [.int .i64 x293] (Addr.add (a.add 6) (p.toNat * 1)) 0 w.drew fun w1 =>
    Pn s fun a_1 =>
    (0 ≤ p ∧ p < ((3 : Nat) : Int)) ∧
    LdI .i64 (Addr.add (a_1.add 3) (p.toNat * 1)) w1.drew fun x302 =>
    LdI .i64 ⟨m0, 4, none⟩ w1.drew fun x304 =>
    Bm (decide (x302 ≤ x304)) (
      LdI .i64 ⟨m0, 4, none⟩ w1.drew.drew fun x309 =>
      Pn s fun a_2 =>
      (0 ≤ p ∧ p < ((3 : Nat) : Int)) ∧
      Sts [.int .i64 (IntKind.i64.wrap (x309 + (1 : Int)))] (Addr.add (a_2.add 3) (p.toNat * 1)) 0 w1.drew.drew fun w2 =>
      sB9 s p out_b out_l out_c last w2) (
      sB9 s p out_b out_l out_c last w1.drew)) (
    R out_b out_l out_c w)) = kstep Tryz.prog 372 Tryz.f66.results.toList (Tryz.f66.body.getD .skip) (syncm_Sync_Step.RV R) (kvc Tryz.prog 372 Tryz.f66.results.toList (Tryz.f66.body.getD .skip) (syncm_Sync_Step.RV R) [([(0, [1, 1, 1, 1, 1, 1, 0, 1, 0, 1, 1, 1, 1, 1, 1, 1, 1, 1, 0, 1, 1, 1, 1, 1, 0, 1, 0, 0, 1, 0, 1, 1]), (0, [1, 1, 1, 1, 1, 1, 0, 1, 0, 1, 1, 1, 1, 1, 1, 1, 1, 1, 0, 1, 1, 1, 1, 1, 0, 1, 0, 1]), (0, [1, 1, 1, 1, 1, 1, 0, 1, 0, 1, 1, 1, 1, 1, 1, 1, 1, 1, 0, 1, 1, 1, 1, 1, 1]), (1, [0]), (0, [1, 1, 1, 1, 1, 1, 1])], fun σ w => dP (slotOf σ 0) fun s_ => dI .i64 (slotOf σ 6) fun p_ => dL (slotOf σ 7) fun out_b_ out_l_ out_c_ => dI .i64 (slotOf σ 9) fun last_ => sB9 s_ p_ out_b_ out_l_ out_c_ last_ w)] 2000) [(0, [1, 1, 1, 1, 1, 1, 0, 1, 0, 1, 1, 1, 1, 1, 1, 1, 1, 1, 0, 1, 1, 1, 1, 1, 0, 1, 0, 0, 1]), (0, [1, 1, 1, 1, 1, 1, 0, 1, 0, 1, 1, 1, 1, 1, 1, 1, 1, 1, 0, 1, 1, 1, 1, 1, 0, 1, 0, 1]), (0, [1, 1, 1, 1, 1, 1, 0, 1, 0, 1, 1, 1, 1, 1, 1, 1, 1, 1, 0, 1, 1, 1, 1, 1, 1]), (1, [0]), (0, [1, 1, 1, 1, 1, 1, 1])] [(0, .pointer s), (3, .pointer (some ⟨m0, 0, none⟩)), (6, .int .i64 p), (7, .slice out_b out_l out_c), (9, .int .i64 last), (289, .bool t289)] w := by kernel_rfl
theorem syncm_Sync_Step.B7_sound {R : Option Addr → Nat → Nat → World → Prop}  (s : Option Addr) (m0 : Nat) (p : Int) (out_b : Option Addr) (out_l out_c : Nat) (last : Int) (t289 : Bool) (w : World) (h : syncm_Sync_Step.B7 s m0 p out_b out_l out_c last t289 w   R) :
    KW Tryz.prog 66 372 (syncm_Sync_Step.RV R) ([(0, [1, 1, 1, 1, 1, 1, 0, 1, 0, 1, 1, 1, 1, 1, 1, 1, 1, 1, 0, 1, 1, 1, 1, 1, 0, 1, 0, 0, 1]), (0, [1, 1, 1, 1, 1, 1, 0, 1, 0, 1, 1, 1, 1, 1, 1, 1, 1, 1, 0, 1, 1, 1, 1, 1, 0, 1, 0, 1]), (0, [1, 1, 1, 1, 1, 1, 0, 1, 0, 1, 1, 1, 1, 1, 1, 1, 1, 1, 0, 1, 1, 1, 1, 1, 1]), (1, [0]), (0, [1, 1, 1, 1, 1, 1, 1])].map (toItem (Tryz.f66.body.getD .skip))) [(0, .pointer s), (3, .pointer (some ⟨m0, 0, none⟩)), (6, .int .i64 p), (7, .slice out_b out_l out_c), (9, .int .i64 last), (289, .bool t289)] w := by
  exact block_spec Tryz.func66 Tryz.mixed (stops_cons (fun σ w h => by
      obtain ⟨s_, e0, h⟩ := dP_elim h
      obtain ⟨p_, e1, h⟩ := dI_elim h
      obtain ⟨out_b_, out_l_, out_c_, e2, h⟩ := dL_elim h
      obtain ⟨last_, e3, h⟩ := dI_elim h
      exact (syncm_Sync_Step.B9_sound  s_ p_ out_b_ out_l_ out_c_ last_ w h).weaken (Sub.cons (Sub.cons (Sub.cons (Sub.cons (Sub.nil _) e3) e2) e1) e0)) stops_nil) (Eq.mp (syncm_Sync_Step.B7_eq s m0 p out_b out_l out_c last t289 w   R (fun s_ p_ out_b_ out_l_ out_c_ last_ w => syncm_Sync_Step.B9 s_ p_ out_b_ out_l_ out_c_ last_ w  R)) h)
def syncm_Sync_Step.B8 (s : Option Addr) (p : Int) (out_b : Option Addr) (out_l out_c : Nat) (n : Int) (w : World)   (R : Option Addr → Nat → Nat → World → Prop) : Prop :=
  Pn s fun a =>
  (0 ≤ p ∧ p < ((3 : Nat) : Int)) ∧
  LdI .i64 (Addr.add (a.add 3) (p.toNat * 1)) w fun x356 =>
  Bm (decide (n < x356)) (
    Pn s fun a_1 =>
    (0 ≤ p ∧ p < ((3 : Nat) : Int)) ∧
    Sts [.int .i64 n] (Addr.add (a_1.add 3) (p.toNat * 1)) 0 w fun w1 =>
    syncm_Sync_send.Call s p w1 fun r366_0 r366_1 r366_2 r366_3 r366_4 r366_5 r366_6 r366_7 r366_8_b r366_8_l r366_8_c r366_9 w2 =>
    New (.cells #[.int .i64 (0 : Int), .int .i64 (0 : Int), .int .i64 (0 : Int), .int .i64 (0 : Int), .int .i64 (0 : Int), .int .i64 (0 : Int), .int .i64 (0 : Int), .bool false, .slice none 0 0, .string (ByteArray.mk #[])] 40) w2 fun a_ w3 =>
    Sts [.int .i64 r366_0, .int .i64 r366_1, .int .i64 r366_2, .int .i64 r366_3, .int .i64 r366_4, .int .i64 r366_5, .int .i64 r366_6, .bool r366_7, .slice r366_8_b r366_8_l r366_8_c, .string r366_9] ⟨a_, 0, none⟩ 0 w3 fun w4 =>
    LdI .i64 ⟨a_, 0, none⟩ w4 fun x368_0 =>
    LdI .i64 ⟨a_, 1, none⟩ w4 fun x368_1 =>
    LdI .i64 ⟨a_, 2, none⟩ w4 fun x368_2 =>
    LdI .i64 ⟨a_, 3, none⟩ w4 fun x368_3 =>
    LdI .i64 ⟨a_, 4, none⟩ w4 fun x368_4 =>
    LdI .i64 ⟨a_, 5, none⟩ w4 fun x368_5 =>
    LdI .i64 ⟨a_, 6, none⟩ w4 fun x368_6 =>
    LdB ⟨a_, 7, none⟩ w4 fun x368_7 =>
    LdL ⟨a_, 8, none⟩ w4 fun x368_8_b x368_8_l x368_8_c =>
    LdS ⟨a_, 9, none⟩ w4 fun x368_9 =>
    New (.cells #[.int .i64 x368_0, .int .i64 x368_1, .int .i64 x368_2, .int .i64 x368_3, .int .i64 x368_4, .int .i64 x368_5, .int .i64 x368_6, .bool x368_7, .slice x368_8_b x368_8_l x368_8_c, .string x368_9] 40) w4 fun b369 w5 =>
    Append 40 (.agg #[.int .i64 (0 : Int), .int .i64 (0 : Int), .int .i64 (0 : Int), .int .i64 (0 : Int), .int .i64 (0 : Int), .int .i64 (0 : Int), .int .i64 (0 : Int), .bool false, .slice none 0 0, .string (ByteArray.mk #[])]) 10 104 out_b out_l out_c (some ⟨b369, 0, none⟩) 1 w5 fun b370 c370 w6 =>
    R b370 (out_l + 1) c370 w6) (
    R out_b out_l out_c w)
theorem syncm_Sync_Step.B8_eq (s : Option Addr) (p : Int) (out_b : Option Addr) (out_l out_c : Nat) (n : Int) (w : World)   (R : Option Addr → Nat → Nat → World → Prop)  :
    (
  Pn s fun a =>
  (0 ≤ p ∧ p < ((3 : Nat) : Int)) ∧
  LdI .i64 (Addr.add (a.add 3) (p.toNat * 1)) w fun x356 =>
  Bm (decide (n < x356)) (
    Pn s fun a_1 =>
    (0 ≤ p ∧ p < ((3 : Nat) : Int)) ∧
    Sts [.int .i64 n] (Addr.add (a_1.add 3) (p.toNat * 1)) 0 w fun w1 =>
    syncm_Sync_send.Call s p w1 fun r366_0 r366_1 r366_2 r366_3 r366_4 r366_5 r366_6 r366_7 r366_8_b r366_8_l r366_8_c r366_9 w2 =>
    New (.cells #[.int .i64 (0 : Int), .int .i64 (0 : Int), .int .i64 (0 : Int), .int .i64 (0 : Int), .int .i64 (0 : Int), .int .i64 (0 : Int), .int .i64 (0 : Int), .bool false, .slice none 0 0, .string (ByteArray.mk #[])] 40) w2 fun a_ w3 =>
    Sts [.int .i64 r366_0, .int .i64 r366_1, .int .i64 r366_2, .int .i64 r366_3, .int .i64 r366_4, .int .i64 r366_5, .int .i64 r366_6, .bool r366_7, .slice r366_8_b r366_8_l r366_8_c, .string r366_9] ⟨a_, 0, none⟩ 0 w3 fun w4 =>
    LdI .i64 ⟨a_, 0, none⟩ w4 fun x368_0 =>
    LdI .i64 ⟨a_, 1, none⟩ w4 fun x368_1 =>
    LdI .i64 ⟨a_, 2, none⟩ w4 fun x368_2 =>
    LdI .i64 ⟨a_, 3, none⟩ w4 fun x368_3 =>
    LdI .i64 ⟨a_, 4, none⟩ w4 fun x368_4 =>
    LdI .i64 ⟨a_, 5, none⟩ w4 fun x368_5 =>
    LdI .i64 ⟨a_, 6, none⟩ w4 fun x368_6 =>
    LdB ⟨a_, 7, none⟩ w4 fun x368_7 =>
    LdL ⟨a_, 8, none⟩ w4 fun x368_8_b x368_8_l x368_8_c =>
    LdS ⟨a_, 9, none⟩ w4 fun x368_9 =>
    New (.cells #[.int .i64 x368_0, .int .i64 x368_1, .int .i64 x368_2, .int .i64 x368_3, .int .i64 x368_4, .int .i64 x368_5, .int .i64 x368_6, .bool x368_7, .slice x368_8_b x368_8_l x368_8_c, .string x368_9] 40) w4 fun b369 w5 =>
    Append 40 (.agg #[.int .i64 (0 : Int), .int .i64 (0 : Int), .int .i64 (0 : Int), .int .i64 (0 : Int), .int .i64 (0 : Int), .int .i64 (0 : Int), .int .i64 (0 : Int), .bool false, .slice none 0 0, .string (ByteArray.mk #[])]) 10 104 out_b out_l out_c (some ⟨b369, 0, none⟩) 1 w5 fun b370 c370 w6 =>
    R b370 (out_l + 1) c370 w6) (
    R out_b out_l out_c w)) = kstep Tryz.prog 372 Tryz.f66.results.toList (Tryz.f66.body.getD .skip) (syncm_Sync_Step.RV R) (kvc Tryz.prog 372 Tryz.f66.results.toList (Tryz.f66.body.getD .skip) (syncm_Sync_Step.RV R) [] 2000) [(0, [1, 1, 1, 1, 1, 1, 0, 1, 0, 1, 1, 1, 1, 1, 1, 1, 1, 1, 0, 1, 1, 1, 1, 1, 1, 1, 1]), (1, [0]), (0, [1, 1, 1, 1, 1, 1, 1])] [(0, .pointer s), (6, .int .i64 p), (7, .slice out_b out_l out_c), (23, .int .i64 n)] w := by kernel_rfl
theorem syncm_Sync_Step.B8_sound {R : Option Addr → Nat → Nat → World → Prop}  (s : Option Addr) (p : Int) (out_b : Option Addr) (out_l out_c : Nat) (n : Int) (w : World) (h : syncm_Sync_Step.B8 s p out_b out_l out_c n w   R) :
    KW Tryz.prog 66 372 (syncm_Sync_Step.RV R) ([(0, [1, 1, 1, 1, 1, 1, 0, 1, 0, 1, 1, 1, 1, 1, 1, 1, 1, 1, 0, 1, 1, 1, 1, 1, 1, 1, 1]), (1, [0]), (0, [1, 1, 1, 1, 1, 1, 1])].map (toItem (Tryz.f66.body.getD .skip))) [(0, .pointer s), (6, .int .i64 p), (7, .slice out_b out_l out_c), (23, .int .i64 n)] w := by
  exact block_spec Tryz.func66 Tryz.mixed stops_nil (Eq.mp (syncm_Sync_Step.B8_eq s p out_b out_l out_c n w   R ) h)
def syncm_Sync_Step.B5 (s : Option Addr) (m0 : Nat) (p : Int) (out_b : Option Addr) (out_l out_c : Nat) (last : Int) (t272 : Bool) (w : World)   (R : Option Addr → Nat → Nat → World → Prop) : Prop :=
  Bm t272 (
    R none 0 0 w) (
    LdB ⟨m0, 7, none⟩ w fun x274 =>
    Bm x274 (
      LdI .i64 ⟨m0, 4, none⟩ w.drew fun x276 =>
      Pn s fun a =>
      (0 ≤ p ∧ p < ((3 : Nat) : Int)) ∧
      LdI .i64 (Addr.add (a.add 6) (p.toNat * 1)) w.drew fun x282 =>
      Bm (decide (x276 > x282)) (
        LdI .i64 ⟨m0, 4, none⟩ w.drew fun x286 =>
        syncm_Sync_Step.B7 s m0 p out_b out_l out_c last (decide (x286 ≤ last)) w.drew  R) (
        syncm_Sync_Step.B7 s m0 p out_b out_l out_c last false w.drew  R)) (
      LdI .i64 ⟨m0, 4, none⟩ w fun x333 =>
      Pn s fun a_1 =>
      (0 ≤ p ∧ p < ((3 : Nat) : Int)) ∧
      LdI .i64 (Addr.add (a_1.add 6) (p.toNat * 1)) w fun x341 =>
      Bm (decide ((IntKind.i64.wrap (x333 + (1 : Int))) ≤ x341)) (
        Pn s fun a_2 =>
        (0 ≤ p ∧ p < ((3 : Nat) : Int)) ∧
        LdI .i64 (Addr.add (a_2.add 6) (p.toNat * 1)) w fun x348 =>
        syncm_Sync_Step.B8 s p out_b out_l out_c (IntKind.i64.wrap (x348 + (1 : Int))) w  R) (
        syncm_Sync_Step.B8 s p out_b out_l out_c (IntKind.i64.wrap (x333 + (1 : Int))) w  R)))
theorem syncm_Sync_Step.B5_eq (s : Option Addr) (m0 : Nat) (p : Int) (out_b : Option Addr) (out_l out_c : Nat) (last : Int) (t272 : Bool) (w : World)   (R : Option Addr → Nat → Nat → World → Prop) (sB7 : Option Addr → Nat → Int → Option Addr → Nat → Nat → Int → Bool → World → Prop) (sB8 : Option Addr → Int → Option Addr → Nat → Nat → Int → World → Prop) :
    (
  Bm t272 (
    R none 0 0 w) (
    LdB ⟨m0, 7, none⟩ w fun x274 =>
    Bm x274 (
      LdI .i64 ⟨m0, 4, none⟩ w.drew fun x276 =>
      Pn s fun a =>
      (0 ≤ p ∧ p < ((3 : Nat) : Int)) ∧
      LdI .i64 (Addr.add (a.add 6) (p.toNat * 1)) w.drew fun x282 =>
      Bm (decide (x276 > x282)) (
        LdI .i64 ⟨m0, 4, none⟩ w.drew fun x286 =>
        sB7 s m0 p out_b out_l out_c last (decide (x286 ≤ last)) w.drew) (
        sB7 s m0 p out_b out_l out_c last false w.drew)) (
      LdI .i64 ⟨m0, 4, none⟩ w fun x333 =>
      Pn s fun a_1 =>
      (0 ≤ p ∧ p < ((3 : Nat) : Int)) ∧
      LdI .i64 (Addr.add (a_1.add 6) (p.toNat * 1)) w fun x341 =>
      Bm (decide ((IntKind.i64.wrap (x333 + (1 : Int))) ≤ x341)) (
        Pn s fun a_2 =>
        (0 ≤ p ∧ p < ((3 : Nat) : Int)) ∧
        LdI .i64 (Addr.add (a_2.add 6) (p.toNat * 1)) w fun x348 =>
        sB8 s p out_b out_l out_c (IntKind.i64.wrap (x348 + (1 : Int))) w) (
        sB8 s p out_b out_l out_c (IntKind.i64.wrap (x333 + (1 : Int))) w)))) = kstep Tryz.prog 372 Tryz.f66.results.toList (Tryz.f66.body.getD .skip) (syncm_Sync_Step.RV R) (kvc Tryz.prog 372 Tryz.f66.results.toList (Tryz.f66.body.getD .skip) (syncm_Sync_Step.RV R) [([(0, [1, 1, 1, 1, 1, 1, 0, 1, 0, 1, 1, 1, 1, 1, 1, 1, 1, 1, 0, 1, 1, 1, 1, 1, 0, 1, 0, 0, 1]), (0, [1, 1, 1, 1, 1, 1, 0, 1, 0, 1, 1, 1, 1, 1, 1, 1, 1, 1, 0, 1, 1, 1, 1, 1, 0, 1, 0, 1]), (0, [1, 1, 1, 1, 1, 1, 0, 1, 0, 1, 1, 1, 1, 1, 1, 1, 1, 1, 0, 1, 1, 1, 1, 1, 1]), (1, [0]), (0, [1, 1, 1, 1, 1, 1, 1])], fun σ w => dP (slotOf σ 0) fun s_ => dK (slotOf σ 3) fun m0_ => dI .i64 (slotOf σ 6) fun p_ => dL (slotOf σ 7) fun out_b_ out_l_ out_c_ => dI .i64 (slotOf σ 9) fun last_ => dB (slotOf σ 289) fun t289_ => sB7 s_ m0_ p_ out_b_ out_l_ out_c_ last_ t289_ w),
    ([(0, [1, 1, 1, 1, 1, 1, 0, 1, 0, 1, 1, 1, 1, 1, 1, 1, 1, 1, 0, 1, 1, 1, 1, 1, 1, 1, 1]), (1, [0]), (0, [1, 1, 1, 1, 1, 1, 1])], fun σ w => dP (slotOf σ 0) fun s_ => dI .i64 (slotOf σ 6) fun p_ => dL (slotOf σ 7) fun out_b_ out_l_ out_c_ => dI .i64 (slotOf σ 23) fun n_ => sB8 s_ p_ out_b_ out_l_ out_c_ n_ w)] 2000) [(0, [1, 1, 1, 1, 1, 1, 0, 1, 0, 1, 1, 1, 1, 1, 1, 1, 1, 1, 0, 1, 1, 1, 1, 0, 1]), (0, [1, 1, 1, 1, 1, 1, 0, 1, 0, 1, 1, 1, 1, 1, 1, 1, 1, 1, 0, 1, 1, 1, 1, 1]), (1, [0]), (0, [1, 1, 1, 1, 1, 1, 1])] [(0, .pointer s), (3, .pointer (some ⟨m0, 0, none⟩)), (6, .int .i64 p), (7, .slice out_b out_l out_c), (9, .int .i64 last), (272, .bool t272)] w := by kernel_rfl
theorem syncm_Sync_Step.B5_sound {R : Option Addr → Nat → Nat → World → Prop}  (s : Option Addr) (m0 : Nat) (p : Int) (out_b : Option Addr) (out_l out_c : Nat) (last : Int) (t272 : Bool) (w : World) (h : syncm_Sync_Step.B5 s m0 p out_b out_l out_c last t272 w   R) :
    KW Tryz.prog 66 372 (syncm_Sync_Step.RV R) ([(0, [1, 1, 1, 1, 1, 1, 0, 1, 0, 1, 1, 1, 1, 1, 1, 1, 1, 1, 0, 1, 1, 1, 1, 0, 1]), (0, [1, 1, 1, 1, 1, 1, 0, 1, 0, 1, 1, 1, 1, 1, 1, 1, 1, 1, 0, 1, 1, 1, 1, 1]), (1, [0]), (0, [1, 1, 1, 1, 1, 1, 1])].map (toItem (Tryz.f66.body.getD .skip))) [(0, .pointer s), (3, .pointer (some ⟨m0, 0, none⟩)), (6, .int .i64 p), (7, .slice out_b out_l out_c), (9, .int .i64 last), (272, .bool t272)] w := by
  exact block_spec Tryz.func66 Tryz.mixed (stops_cons (fun σ w h => by
      obtain ⟨s_, e0, h⟩ := dP_elim h
      obtain ⟨m0_, e1, h⟩ := dK_elim h
      obtain ⟨p_, e2, h⟩ := dI_elim h
      obtain ⟨out_b_, out_l_, out_c_, e3, h⟩ := dL_elim h
      obtain ⟨last_, e4, h⟩ := dI_elim h
      obtain ⟨t289_, e5, h⟩ := dB_elim h
      exact (syncm_Sync_Step.B7_sound  s_ m0_ p_ out_b_ out_l_ out_c_ last_ t289_ w h).weaken (Sub.cons (Sub.cons (Sub.cons (Sub.cons (Sub.cons (Sub.cons (Sub.nil _) e5) e4) e3) e2) e1) e0)) (stops_cons (fun σ w h => by
      obtain ⟨s_, e0, h⟩ := dP_elim h
      obtain ⟨p_, e1, h⟩ := dI_elim h
      obtain ⟨out_b_, out_l_, out_c_, e2, h⟩ := dL_elim h
      obtain ⟨n_, e3, h⟩ := dI_elim h
      exact (syncm_Sync_Step.B8_sound  s_ p_ out_b_ out_l_ out_c_ n_ w h).weaken (Sub.cons (Sub.cons (Sub.cons (Sub.cons (Sub.nil _) e3) e2) e1) e0)) stops_nil)) (Eq.mp (syncm_Sync_Step.B5_eq s m0 p out_b out_l out_c last t272 w   R (fun s_ m0_ p_ out_b_ out_l_ out_c_ last_ t289_ w => syncm_Sync_Step.B7 s_ m0_ p_ out_b_ out_l_ out_c_ last_ t289_ w  R) (fun s_ p_ out_b_ out_l_ out_c_ n_ w => syncm_Sync_Step.B8 s_ p_ out_b_ out_l_ out_c_ n_ w  R)) h)
def syncm_Sync_Step.B1 (s : Option Addr) (m0 : Nat) (id0 p : Int) (t45 : Bool) (w : World)   (R : Option Addr → Nat → Nat → World → Prop) : Prop :=
  Bm t45 (
    R none 0 0 w) (
    New (.cells #[.int .i64 (0 : Int), .int .i64 (0 : Int), .int .i64 (0 : Int), .int .i64 (0 : Int), .int .i64 (0 : Int), .int .i64 (0 : Int), .int .i64 (0 : Int), .bool false, .slice none 0 0, .string (ByteArray.mk #[])] 40) w fun re_ w1 =>
    Sts [.int .i64 (4 : Int), .int .i64 id0, .int .i64 p, .int .i64 (0 : Int), .int .i64 (0 : Int), .int .i64 (0 : Int), .int .i64 (0 : Int), .bool false, .slice none 0 0, .string (ByteArray.mk #[])] ⟨re_, 0, none⟩ 0 w1 fun w2 =>
    Pn s fun a =>
    LdP a w2 fun x52 =>
    rlogm_Log_Last.Call x52 w2 fun r53 w3 =>
    LdI .i64 ⟨m0, 0, none⟩ w3 fun x55 =>
    Bm (x55 == (1 : Int)) (
      Pn s fun a_1 =>
      LdP a_1 w3 fun x62 =>
      rlogm_Log_TermAt.Call x62 r53 w3 fun r64_0 r64_1 w4 =>
      LdI .i64 ⟨m0, 5, none⟩ w4 fun x68 =>
      Bm (decide (x68 > r64_0)) (
        syncm_Sync_Step.B2 s m0 p none 0 0 re_ true w4  R) (
        LdI .i64 ⟨m0, 5, none⟩ w4 fun x73 =>
        Bm (x73 == r64_0) (
          LdI .i64 ⟨m0, 4, none⟩ w4 fun x78 =>
          syncm_Sync_Step.B2 s m0 p none 0 0 re_ (decide (x78 ≥ r53)) w4  R) (
          syncm_Sync_Step.B2 s m0 p none 0 0 re_ false w4  R))) (
      Bm (x55 == (2 : Int)) (
        Pn s fun a_2 =>
        LdP (a_2.add 1) w3.drew fun x111 =>
        LdI .i64 ⟨m0, 3, none⟩ w3.drew fun x114 =>
        LdB ⟨m0, 7, none⟩ w3.drew fun x116 =>
        electm_Elect_GotVote.Call x111 p x114 x116 w3.drew fun r117 w5 =>
        syncm_Sync_persist.Call s w5 fun w6 =>
        Bm r117 (
          syncm_Sync_Step.L1 s r53 (0 : Int) w6  R) (
          R none 0 0 w6)) (
        Bm (x55 == (3 : Int)) (
          Pn s fun a_3 =>
          LdP (a_3.add 1) w3.drew fun x156 =>
          LdI .i64 ⟨m0, 3, none⟩ w3.drew fun x159 =>
          electm_Elect_Heard.Call x156 p x159 w3.drew fun r160 w7 =>
          syncm_Sync_persist.Call s w7 fun w8 =>
          Bm r160 (
            LdI .i64 ⟨m0, 0, none⟩ w8 fun x166_0 =>
            LdI .i64 ⟨m0, 1, none⟩ w8 fun x166_1 =>
            LdI .i64 ⟨m0, 2, none⟩ w8 fun x166_2 =>
            LdI .i64 ⟨m0, 3, none⟩ w8 fun x166_3 =>
            LdI .i64 ⟨m0, 4, none⟩ w8 fun x166_4 =>
            LdI .i64 ⟨m0, 5, none⟩ w8 fun x166_5 =>
            LdI .i64 ⟨m0, 6, none⟩ w8 fun x166_6 =>
            LdB ⟨m0, 7, none⟩ w8 fun x166_7 =>
            LdL ⟨m0, 8, none⟩ w8 fun x166_8_b x166_8_l x166_8_c =>
            LdS ⟨m0, 9, none⟩ w8 fun x166_9 =>
            syncm_Sync_accept.Call s x166_0 x166_1 x166_2 x166_3 x166_4 x166_5 x166_6 x166_7 x166_8_b x166_8_l x166_8_c x166_9 w8 fun r167_0 r167_1 w9 =>
            Sts [.bool r167_0] ⟨re_, 7, none⟩ 0 w9 fun w10 =>
            Sts [.int .i64 r167_1] ⟨re_, 4, none⟩ 0 w10 fun w11 =>
            syncm_Sync_Step.B3 s none 0 0 re_ w11  R) (
            syncm_Sync_Step.B3 s none 0 0 re_ w8  R)) (
          Bm (x55 == (5 : Int)) (
            Pn s fun a_4 =>
            LdP (a_4.add 1) w3.drew fun x187 =>
            LdI .i64 ⟨m0, 3, none⟩ w3.drew fun x190 =>
            electm_Elect_Heard.Call x187 p x190 w3.drew fun r191 w12 =>
            syncm_Sync_persist.Call s w12 fun w13 =>
            Bm r191 (
              LdI .i64 ⟨m0, 4, none⟩ w13.drew fun x197 =>
              Pn s fun a_5 =>
              LdI .i64 (a_5.add 2) w13.drew fun x201 =>
              syncm_Sync_Step.B4 s m0 none 0 0 re_ r191 (decide (x197 ≤ x201)) w13.drew  R) (
              syncm_Sync_Step.B4 s m0 none 0 0 re_ r191 false w13.drew  R)) (
            Bm (x55 == (4 : Int)) (
              Pn s fun a_6 =>
              LdP (a_6.add 1) w3.drew fun x248 =>
              LdI .i64 ⟨m0, 3, none⟩ w3.drew fun x250 =>
              electm_Elect_See.Call x248 x250 w3.drew fun r251 w14 =>
              Bm r251 (
                syncm_Sync_persist.Call s w14 fun w15 =>
                R none 0 0 w15) (
                Pn s fun a_7 =>
                LdP (a_7.add 1) w14 fun x258 =>
                electm_Elect_Role.Call x258 w14 fun r259 w16 =>
                Pn s fun a_8 =>
                LdP (a_8.add 1) w16 fun x263 =>
                electm_Elect_Term.Call x263 w16 fun r264 w17 =>
                Bm (r259 != (2 : Int)) (
                  syncm_Sync_Step.B5 s m0 p none 0 0 r53 true w17  R) (
                  LdI .i64 ⟨m0, 3, none⟩ w17 fun x269 =>
                  syncm_Sync_Step.B5 s m0 p none 0 0 r53 (x269 != r264) w17  R))) (
              R none 0 0 w3))))))
theorem syncm_Sync_Step.B1_eq (s : Option Addr) (m0 : Nat) (id0 p : Int) (t45 : Bool) (w : World)   (R : Option Addr → Nat → Nat → World → Prop) (sB2 : Option Addr → Nat → Int → Option Addr → Nat → Nat → Nat → Bool → World → Prop) (sL1 : Option Addr → Int → Int → World → Prop) (sB3 : Option Addr → Option Addr → Nat → Nat → Nat → World → Prop) (sB4 : Option Addr → Nat → Option Addr → Nat → Nat → Nat → Bool → Bool → World → Prop) (sB5 : Option Addr → Nat → Int → Option Addr → Nat → Nat → Int → Bool → World → Prop) :
    (
  Bm t45 (
    R none 0 0 w) (
    New (.cells #[.int .i64 (0 : Int), .int .i64 (0 : Int), .int .i64 (0 : Int), .int .i64 (0 : Int), .int .i64 (0 : Int), .int .i64 (0 : Int), .int .i64 (0 : Int), .bool false, .slice none 0 0, .string (ByteArray.mk #[])] 40) w fun re_ w1 =>
    Sts [.int .i64 (4 : Int), .int .i64 id0, .int .i64 p, .int .i64 (0 : Int), .int .i64 (0 : Int), .int .i64 (0 : Int), .int .i64 (0 : Int), .bool false, .slice none 0 0, .string (ByteArray.mk #[])] ⟨re_, 0, none⟩ 0 w1 fun w2 =>
    Pn s fun a =>
    LdP a w2 fun x52 =>
    rlogm_Log_Last.Call x52 w2 fun r53 w3 =>
    LdI .i64 ⟨m0, 0, none⟩ w3 fun x55 =>
    Bm (x55 == (1 : Int)) (
      Pn s fun a_1 =>
      LdP a_1 w3 fun x62 =>
      rlogm_Log_TermAt.Call x62 r53 w3 fun r64_0 r64_1 w4 =>
      LdI .i64 ⟨m0, 5, none⟩ w4 fun x68 =>
      Bm (decide (x68 > r64_0)) (
        sB2 s m0 p none 0 0 re_ true w4) (
        LdI .i64 ⟨m0, 5, none⟩ w4 fun x73 =>
        Bm (x73 == r64_0) (
          LdI .i64 ⟨m0, 4, none⟩ w4 fun x78 =>
          sB2 s m0 p none 0 0 re_ (decide (x78 ≥ r53)) w4) (
          sB2 s m0 p none 0 0 re_ false w4))) (
      Bm (x55 == (2 : Int)) (
        Pn s fun a_2 =>
        LdP (a_2.add 1) w3.drew fun x111 =>
        LdI .i64 ⟨m0, 3, none⟩ w3.drew fun x114 =>
        LdB ⟨m0, 7, none⟩ w3.drew fun x116 =>
        electm_Elect_GotVote.Call x111 p x114 x116 w3.drew fun r117 w5 =>
        syncm_Sync_persist.Call s w5 fun w6 =>
        Bm r117 (
          sL1 s r53 (0 : Int) w6) (
          R none 0 0 w6)) (
        Bm (x55 == (3 : Int)) (
          Pn s fun a_3 =>
          LdP (a_3.add 1) w3.drew fun x156 =>
          LdI .i64 ⟨m0, 3, none⟩ w3.drew fun x159 =>
          electm_Elect_Heard.Call x156 p x159 w3.drew fun r160 w7 =>
          syncm_Sync_persist.Call s w7 fun w8 =>
          Bm r160 (
            LdI .i64 ⟨m0, 0, none⟩ w8 fun x166_0 =>
            LdI .i64 ⟨m0, 1, none⟩ w8 fun x166_1 =>
            LdI .i64 ⟨m0, 2, none⟩ w8 fun x166_2 =>
            LdI .i64 ⟨m0, 3, none⟩ w8 fun x166_3 =>
            LdI .i64 ⟨m0, 4, none⟩ w8 fun x166_4 =>
            LdI .i64 ⟨m0, 5, none⟩ w8 fun x166_5 =>
            LdI .i64 ⟨m0, 6, none⟩ w8 fun x166_6 =>
            LdB ⟨m0, 7, none⟩ w8 fun x166_7 =>
            LdL ⟨m0, 8, none⟩ w8 fun x166_8_b x166_8_l x166_8_c =>
            LdS ⟨m0, 9, none⟩ w8 fun x166_9 =>
            syncm_Sync_accept.Call s x166_0 x166_1 x166_2 x166_3 x166_4 x166_5 x166_6 x166_7 x166_8_b x166_8_l x166_8_c x166_9 w8 fun r167_0 r167_1 w9 =>
            Sts [.bool r167_0] ⟨re_, 7, none⟩ 0 w9 fun w10 =>
            Sts [.int .i64 r167_1] ⟨re_, 4, none⟩ 0 w10 fun w11 =>
            sB3 s none 0 0 re_ w11) (
            sB3 s none 0 0 re_ w8)) (
          Bm (x55 == (5 : Int)) (
            Pn s fun a_4 =>
            LdP (a_4.add 1) w3.drew fun x187 =>
            LdI .i64 ⟨m0, 3, none⟩ w3.drew fun x190 =>
            electm_Elect_Heard.Call x187 p x190 w3.drew fun r191 w12 =>
            syncm_Sync_persist.Call s w12 fun w13 =>
            Bm r191 (
              LdI .i64 ⟨m0, 4, none⟩ w13.drew fun x197 =>
              Pn s fun a_5 =>
              LdI .i64 (a_5.add 2) w13.drew fun x201 =>
              sB4 s m0 none 0 0 re_ r191 (decide (x197 ≤ x201)) w13.drew) (
              sB4 s m0 none 0 0 re_ r191 false w13.drew)) (
            Bm (x55 == (4 : Int)) (
              Pn s fun a_6 =>
              LdP (a_6.add 1) w3.drew fun x248 =>
              LdI .i64 ⟨m0, 3, none⟩ w3.drew fun x250 =>
              electm_Elect_See.Call x248 x250 w3.drew fun r251 w14 =>
              Bm r251 (
                syncm_Sync_persist.Call s w14 fun w15 =>
                R none 0 0 w15) (
                Pn s fun a_7 =>
                LdP (a_7.add 1) w14 fun x258 =>
                electm_Elect_Role.Call x258 w14 fun r259 w16 =>
                Pn s fun a_8 =>
                LdP (a_8.add 1) w16 fun x263 =>
                electm_Elect_Term.Call x263 w16 fun r264 w17 =>
                Bm (r259 != (2 : Int)) (
                  sB5 s m0 p none 0 0 r53 true w17) (
                  LdI .i64 ⟨m0, 3, none⟩ w17 fun x269 =>
                  sB5 s m0 p none 0 0 r53 (x269 != r264) w17))) (
              R none 0 0 w3))))))) = kstep Tryz.prog 372 Tryz.f66.results.toList (Tryz.f66.body.getD .skip) (syncm_Sync_Step.RV R) (kvc Tryz.prog 372 Tryz.f66.results.toList (Tryz.f66.body.getD .skip) (syncm_Sync_Step.RV R) [([(0, [1, 1, 1, 1, 1, 1, 0, 1, 0, 1, 0, 1, 1]), (1, [0]), (0, [1, 1, 1, 1, 1, 1, 1])], fun σ w => dP (slotOf σ 0) fun s_ => dK (slotOf σ 3) fun m0_ => dI .i64 (slotOf σ 6) fun p_ => dL (slotOf σ 7) fun out_b_ out_l_ out_c_ => dK (slotOf σ 8) fun re_ => dB (slotOf σ 12) fun up_ => sB2 s_ m0_ p_ out_b_ out_l_ out_c_ re_ up_ w),
    ([(0, [1, 1, 1, 1, 1, 1, 0, 1, 0, 1, 1, 1, 0, 1, 1, 1, 0, 0, 1, 0, 0]), (2, [1, 1, 1, 1, 1, 1, 0, 1, 0, 1, 1, 1, 0, 1, 1, 1, 0, 0, 1, 0, 0]), (1, [1]), (0, [1, 1, 1, 1, 1, 1, 0, 1, 0, 1, 1, 1, 0, 1, 1, 1, 0, 1]), (1, [0]), (0, [1, 1, 1, 1, 1, 1, 1])], fun σ w => dP (slotOf σ 0) fun s_ => dI .i64 (slotOf σ 9) fun last_ => dI .i64 (slotOf σ 14) fun q_ => sL1 s_ last_ q_ w),
    ([(0, [1, 1, 1, 1, 1, 1, 0, 1, 0, 1, 1, 1, 1, 1, 0, 1, 1, 1]), (1, [0]), (0, [1, 1, 1, 1, 1, 1, 1])], fun σ w => dP (slotOf σ 0) fun s_ => dL (slotOf σ 7) fun out_b_ out_l_ out_c_ => dK (slotOf σ 8) fun re_ => sB3 s_ out_b_ out_l_ out_c_ re_ w),
    ([(0, [1, 1, 1, 1, 1, 1, 0, 1, 0, 1, 1, 1, 1, 1, 1, 1, 0, 1, 1, 0, 1]), (0, [1, 1, 1, 1, 1, 1, 0, 1, 0, 1, 1, 1, 1, 1, 1, 1, 0, 1, 1, 1]), (1, [0]), (0, [1, 1, 1, 1, 1, 1, 1])], fun σ w => dP (slotOf σ 0) fun s_ => dK (slotOf σ 3) fun m0_ => dL (slotOf σ 7) fun out_b_ out_l_ out_c_ => dK (slotOf σ 8) fun re_ => dB (slotOf σ 17) fun ok_ => dB (slotOf σ 203) fun t203_ => sB4 s_ m0_ out_b_ out_l_ out_c_ re_ ok_ t203_ w),
    ([(0, [1, 1, 1, 1, 1, 1, 0, 1, 0, 1, 1, 1, 1, 1, 1, 1, 1, 1, 0, 1, 1, 1, 1, 0, 1]), (0, [1, 1, 1, 1, 1, 1, 0, 1, 0, 1, 1, 1, 1, 1, 1, 1, 1, 1, 0, 1, 1, 1, 1, 1]), (1, [0]), (0, [1, 1, 1, 1, 1, 1, 1])], fun σ w => dP (slotOf σ 0) fun s_ => dK (slotOf σ 3) fun m0_ => dI .i64 (slotOf σ 6) fun p_ => dL (slotOf σ 7) fun out_b_ out_l_ out_c_ => dI .i64 (slotOf σ 9) fun last_ => dB (slotOf σ 272) fun t272_ => sB5 s_ m0_ p_ out_b_ out_l_ out_c_ last_ t272_ w)] 2000) [(0, [1, 1, 0, 1]), (0, [1, 1, 1])] [(0, .pointer s), (3, .pointer (some ⟨m0, 0, none⟩)), (5, .int .i64 id0), (6, .int .i64 p), (45, .bool t45)] w := by kernel_rfl
theorem syncm_Sync_Step.B1_sound {R : Option Addr → Nat → Nat → World → Prop}  (s : Option Addr) (m0 : Nat) (id0 p : Int) (t45 : Bool) (w : World) (h : syncm_Sync_Step.B1 s m0 id0 p t45 w   R) :
    KW Tryz.prog 66 372 (syncm_Sync_Step.RV R) ([(0, [1, 1, 0, 1]), (0, [1, 1, 1])].map (toItem (Tryz.f66.body.getD .skip))) [(0, .pointer s), (3, .pointer (some ⟨m0, 0, none⟩)), (5, .int .i64 id0), (6, .int .i64 p), (45, .bool t45)] w := by
  exact block_spec Tryz.func66 Tryz.mixed (stops_cons (fun σ w h => by
      obtain ⟨s_, e0, h⟩ := dP_elim h
      obtain ⟨m0_, e1, h⟩ := dK_elim h
      obtain ⟨p_, e2, h⟩ := dI_elim h
      obtain ⟨out_b_, out_l_, out_c_, e3, h⟩ := dL_elim h
      obtain ⟨re_, e4, h⟩ := dK_elim h
      obtain ⟨up_, e5, h⟩ := dB_elim h
      exact (syncm_Sync_Step.B2_sound  s_ m0_ p_ out_b_ out_l_ out_c_ re_ up_ w h).weaken (Sub.cons (Sub.cons (Sub.cons (Sub.cons (Sub.cons (Sub.cons (Sub.nil _) e5) e4) e3) e2) e1) e0)) (stops_cons (fun σ w h => by
      obtain ⟨s_, e0, h⟩ := dP_elim h
      obtain ⟨last_, e1, h⟩ := dI_elim h
      obtain ⟨q_, e2, h⟩ := dI_elim h
      exact (syncm_Sync_Step.L1_sound  s_ last_ q_ w h).weaken (Sub.cons (Sub.cons (Sub.cons (Sub.nil _) e2) e1) e0)) (stops_cons (fun σ w h => by
      obtain ⟨s_, e0, h⟩ := dP_elim h
      obtain ⟨out_b_, out_l_, out_c_, e1, h⟩ := dL_elim h
      obtain ⟨re_, e2, h⟩ := dK_elim h
      exact (syncm_Sync_Step.B3_sound  s_ out_b_ out_l_ out_c_ re_ w h).weaken (Sub.cons (Sub.cons (Sub.cons (Sub.nil _) e2) e1) e0)) (stops_cons (fun σ w h => by
      obtain ⟨s_, e0, h⟩ := dP_elim h
      obtain ⟨m0_, e1, h⟩ := dK_elim h
      obtain ⟨out_b_, out_l_, out_c_, e2, h⟩ := dL_elim h
      obtain ⟨re_, e3, h⟩ := dK_elim h
      obtain ⟨ok_, e4, h⟩ := dB_elim h
      obtain ⟨t203_, e5, h⟩ := dB_elim h
      exact (syncm_Sync_Step.B4_sound  s_ m0_ out_b_ out_l_ out_c_ re_ ok_ t203_ w h).weaken (Sub.cons (Sub.cons (Sub.cons (Sub.cons (Sub.cons (Sub.cons (Sub.nil _) e5) e4) e3) e2) e1) e0)) (stops_cons (fun σ w h => by
      obtain ⟨s_, e0, h⟩ := dP_elim h
      obtain ⟨m0_, e1, h⟩ := dK_elim h
      obtain ⟨p_, e2, h⟩ := dI_elim h
      obtain ⟨out_b_, out_l_, out_c_, e3, h⟩ := dL_elim h
      obtain ⟨last_, e4, h⟩ := dI_elim h
      obtain ⟨t272_, e5, h⟩ := dB_elim h
      exact (syncm_Sync_Step.B5_sound  s_ m0_ p_ out_b_ out_l_ out_c_ last_ t272_ w h).weaken (Sub.cons (Sub.cons (Sub.cons (Sub.cons (Sub.cons (Sub.cons (Sub.nil _) e5) e4) e3) e2) e1) e0)) stops_nil))))) (Eq.mp (syncm_Sync_Step.B1_eq s m0 id0 p t45 w   R (fun s_ m0_ p_ out_b_ out_l_ out_c_ re_ up_ w => syncm_Sync_Step.B2 s_ m0_ p_ out_b_ out_l_ out_c_ re_ up_ w  R) (fun s_ last_ q_ w => syncm_Sync_Step.L1 s_ last_ q_ w  R) (fun s_ out_b_ out_l_ out_c_ re_ w => syncm_Sync_Step.B3 s_ out_b_ out_l_ out_c_ re_ w  R) (fun s_ m0_ out_b_ out_l_ out_c_ re_ ok_ t203_ w => syncm_Sync_Step.B4 s_ m0_ out_b_ out_l_ out_c_ re_ ok_ t203_ w  R) (fun s_ m0_ p_ out_b_ out_l_ out_c_ last_ t272_ w => syncm_Sync_Step.B5 s_ m0_ p_ out_b_ out_l_ out_c_ last_ t272_ w  R)) h)
def syncm_Sync_Step.B0 (s : Option Addr) (m0_0 m0_1 m0_2 m0_3 m0_4 m0_5 m0_6 : Int) (m0_7 : Bool) (m0_8_b : Option Addr) (m0_8_l m0_8_c : Nat) (m0_9 : ByteArray) (w : World)   (R : Option Addr → Nat → Nat → World → Prop) : Prop :=
  New (.cells #[.int .i64 m0_0, .int .i64 m0_1, .int .i64 m0_2, .int .i64 m0_3, .int .i64 m0_4, .int .i64 m0_5, .int .i64 m0_6, .bool m0_7, .slice m0_8_b m0_8_l m0_8_c, .string m0_9] 40) w fun m0_ w1 =>
  Pn s fun a =>
  LdP (a.add 1) w1.drew fun x28 =>
  LdI .i64 ⟨m0_, 1, none⟩ w1.drew fun x31 =>
  electm_Elect_Id.Call x28 w1.drew fun r29 w2 =>
  w2.cell? ⟨m0_, 1, none⟩ = some (.int .i64 x31) ∧
  LdI .i64 ⟨m0_, 0, none⟩ w2 fun x32_0 =>
  LdI .i64 ⟨m0_, 1, none⟩ w2 fun x32_1 =>
  LdI .i64 ⟨m0_, 2, none⟩ w2 fun x32_2 =>
  LdI .i64 ⟨m0_, 3, none⟩ w2 fun x32_3 =>
  LdI .i64 ⟨m0_, 4, none⟩ w2 fun x32_4 =>
  LdI .i64 ⟨m0_, 5, none⟩ w2 fun x32_5 =>
  LdI .i64 ⟨m0_, 6, none⟩ w2 fun x32_6 =>
  LdB ⟨m0_, 7, none⟩ w2 fun x32_7 =>
  LdL ⟨m0_, 8, none⟩ w2 fun x32_8_b x32_8_l x32_8_c =>
  LdS ⟨m0_, 9, none⟩ w2 fun x32_9 =>
  api_MsgOK.Call x32_0 x32_1 x32_2 x32_3 x32_4 x32_5 x32_6 x32_7 x32_8_b x32_8_l x32_8_c x32_9 w2 fun r33 w3 =>
  Bm (!r33) (
    syncm_Sync_Step.B1 s m0_ r29 x31 true w3  R) (
    LdI .i64 ⟨m0_, 2, none⟩ w3 fun x37 =>
    Bm (x37 != r29) (
      syncm_Sync_Step.B1 s m0_ r29 x31 true w3  R) (
      syncm_Sync_Step.B1 s m0_ r29 x31 (x31 == r29) w3  R))
theorem syncm_Sync_Step.B0_eq (s : Option Addr) (m0_0 m0_1 m0_2 m0_3 m0_4 m0_5 m0_6 : Int) (m0_7 : Bool) (m0_8_b : Option Addr) (m0_8_l m0_8_c : Nat) (m0_9 : ByteArray) (w : World)   (R : Option Addr → Nat → Nat → World → Prop) (sB1 : Option Addr → Nat → Int → Int → Bool → World → Prop) :
    (
  New (.cells #[.int .i64 m0_0, .int .i64 m0_1, .int .i64 m0_2, .int .i64 m0_3, .int .i64 m0_4, .int .i64 m0_5, .int .i64 m0_6, .bool m0_7, .slice m0_8_b m0_8_l m0_8_c, .string m0_9] 40) w fun m0_ w1 =>
  Pn s fun a =>
  LdP (a.add 1) w1.drew fun x28 =>
  LdI .i64 ⟨m0_, 1, none⟩ w1.drew fun x31 =>
  electm_Elect_Id.Call x28 w1.drew fun r29 w2 =>
  w2.cell? ⟨m0_, 1, none⟩ = some (.int .i64 x31) ∧
  LdI .i64 ⟨m0_, 0, none⟩ w2 fun x32_0 =>
  LdI .i64 ⟨m0_, 1, none⟩ w2 fun x32_1 =>
  LdI .i64 ⟨m0_, 2, none⟩ w2 fun x32_2 =>
  LdI .i64 ⟨m0_, 3, none⟩ w2 fun x32_3 =>
  LdI .i64 ⟨m0_, 4, none⟩ w2 fun x32_4 =>
  LdI .i64 ⟨m0_, 5, none⟩ w2 fun x32_5 =>
  LdI .i64 ⟨m0_, 6, none⟩ w2 fun x32_6 =>
  LdB ⟨m0_, 7, none⟩ w2 fun x32_7 =>
  LdL ⟨m0_, 8, none⟩ w2 fun x32_8_b x32_8_l x32_8_c =>
  LdS ⟨m0_, 9, none⟩ w2 fun x32_9 =>
  api_MsgOK.Call x32_0 x32_1 x32_2 x32_3 x32_4 x32_5 x32_6 x32_7 x32_8_b x32_8_l x32_8_c x32_9 w2 fun r33 w3 =>
  Bm (!r33) (
    sB1 s m0_ r29 x31 true w3) (
    LdI .i64 ⟨m0_, 2, none⟩ w3 fun x37 =>
    Bm (x37 != r29) (
      sB1 s m0_ r29 x31 true w3) (
      sB1 s m0_ r29 x31 (x31 == r29) w3))) = kstep Tryz.prog 372 Tryz.f66.results.toList (Tryz.f66.body.getD .skip) (syncm_Sync_Step.RV R) (kvc Tryz.prog 372 Tryz.f66.results.toList (Tryz.f66.body.getD .skip) (syncm_Sync_Step.RV R) [([(0, [1, 1, 0, 1]), (0, [1, 1, 1])], fun σ w => dP (slotOf σ 0) fun s_ => dK (slotOf σ 3) fun m0_ => dI .i64 (slotOf σ 5) fun id0_ => dI .i64 (slotOf σ 6) fun p_ => dB (slotOf σ 45) fun t45_ => sB1 s_ m0_ id0_ p_ t45_ w)] 2000) [(0, [])] [(0, .pointer s), (1, .agg #[.int .i64 m0_0, .int .i64 m0_1, .int .i64 m0_2, .int .i64 m0_3, .int .i64 m0_4, .int .i64 m0_5, .int .i64 m0_6, .bool m0_7, .slice m0_8_b m0_8_l m0_8_c, .string m0_9])] w := by kernel_rfl
theorem syncm_Sync_Step.B0_sound {R : Option Addr → Nat → Nat → World → Prop}  (s : Option Addr) (m0_0 m0_1 m0_2 m0_3 m0_4 m0_5 m0_6 : Int) (m0_7 : Bool) (m0_8_b : Option Addr) (m0_8_l m0_8_c : Nat) (m0_9 : ByteArray) (w : World) (h : syncm_Sync_Step.B0 s m0_0 m0_1 m0_2 m0_3 m0_4 m0_5 m0_6 m0_7 m0_8_b m0_8_l m0_8_c m0_9 w   R) :
    KW Tryz.prog 66 372 (syncm_Sync_Step.RV R) ([(0, [])].map (toItem (Tryz.f66.body.getD .skip))) [(0, .pointer s), (1, .agg #[.int .i64 m0_0, .int .i64 m0_1, .int .i64 m0_2, .int .i64 m0_3, .int .i64 m0_4, .int .i64 m0_5, .int .i64 m0_6, .bool m0_7, .slice m0_8_b m0_8_l m0_8_c, .string m0_9])] w := by
  exact block_spec Tryz.func66 Tryz.mixed (stops_cons (fun σ w h => by
      obtain ⟨s_, e0, h⟩ := dP_elim h
      obtain ⟨m0_, e1, h⟩ := dK_elim h
      obtain ⟨id0_, e2, h⟩ := dI_elim h
      obtain ⟨p_, e3, h⟩ := dI_elim h
      obtain ⟨t45_, e4, h⟩ := dB_elim h
      exact (syncm_Sync_Step.B1_sound  s_ m0_ id0_ p_ t45_ w h).weaken (Sub.cons (Sub.cons (Sub.cons (Sub.cons (Sub.cons (Sub.nil _) e4) e3) e2) e1) e0)) stops_nil) (Eq.mp (syncm_Sync_Step.B0_eq s m0_0 m0_1 m0_2 m0_3 m0_4 m0_5 m0_6 m0_7 m0_8_b m0_8_l m0_8_c m0_9 w   R (fun s_ m0_ id0_ p_ t45_ w => syncm_Sync_Step.B1 s_ m0_ id0_ p_ t45_ w  R)) h)
theorem syncm_Sync_Step.sound (s : Option Addr) (m0_0 m0_1 m0_2 m0_3 m0_4 m0_5 m0_6 : Int) (m0_7 : Bool) (m0_8_b : Option Addr) (m0_8_l m0_8_c : Nat) (m0_9 : ByteArray) (w : World) (R : Option Addr → Nat → Nat → World → Prop) (h : syncm_Sync_Step.B0 s m0_0 m0_1 m0_2 m0_3 m0_4 m0_5 m0_6 m0_7 m0_8_b m0_8_l m0_8_c m0_9 w R) : syncm_Sync_Step.Call s m0_0 m0_1 m0_2 m0_3 m0_4 m0_5 m0_6 m0_7 m0_8_b m0_8_l m0_8_c m0_9 w R := by
  have hc := calls_of_block (args := #[.pointer s, .agg #[.int .i64 m0_0, .int .i64 m0_1, .int .i64 m0_2, .int .i64 m0_3, .int .i64 m0_4, .int .i64 m0_5, .int .i64 m0_6, .bool m0_7, .slice m0_8_b m0_8_l m0_8_c, .string m0_9]]) Tryz.func66 (body := (Tryz.f66.body.getD .skip)) (by kernel_rfl) (by kernel_rfl) (args_slot _) (syncm_Sync_Step.B0_sound s m0_0 m0_1 m0_2 m0_3 m0_4 m0_5 m0_6 m0_7 m0_8_b m0_8_l m0_8_c m0_9 w h)
  exact hc.mono fun e w' he => by
    obtain ⟨v, rfl, hv⟩ := he
    exact syncm_Sync_Step.RV_elim hv
end Go.Proofs.Qxb6500433aGreat
