import Derived.Test.Qxb6500430aGreatSig
set_option maxRecDepth 100000
set_option linter.unusedVariables false
open Go.Vc
namespace Go.Proofs.Qxb6500430aGreat
def sync_Sync_Step.B2 (s : Option Addr) (w : World)   (R : Option Addr → Nat → Nat → World → Prop) : Prop :=
  sync_Sync_flush.Call s w fun r52_b r52_l r52_c w1 =>
  R r52_b r52_l r52_c w1
theorem sync_Sync_Step.B2_eq (s : Option Addr) (w : World)   (R : Option Addr → Nat → Nat → World → Prop)  :
    (
  sync_Sync_flush.Call s w fun r52_b r52_l r52_c w1 =>
  R r52_b r52_l r52_c w1) = kstep Tryz.prog 53 Tryz.f76.results.toList (Tryz.f76.body.getD .skip) (sync_Sync_Step.RV R) (kvc Tryz.prog 53 Tryz.f76.results.toList (Tryz.f76.body.getD .skip) (sync_Sync_Step.RV R) [] 2000) [(0, [1, 1, 1, 1, 1])] [(0, .pointer s)] w := by kernel_rfl
theorem sync_Sync_Step.B2_sound {R : Option Addr → Nat → Nat → World → Prop}  (s : Option Addr) (w : World) (h : sync_Sync_Step.B2 s w   R) :
    KW Tryz.prog 76 53 (sync_Sync_Step.RV R) ([(0, [1, 1, 1, 1, 1])].map (toItem (Tryz.f76.body.getD .skip))) [(0, .pointer s)] w := by
  exact block_spec Tryz.func76 Tryz.mixed stops_nil (Eq.mp (sync_Sync_Step.B2_eq s w   R ) h)
def sync_Sync_Step.B1 (s : Option Addr) (m0 : Nat) (t23 : Bool) (w : World)   (R : Option Addr → Nat → Nat → World → Prop) : Prop :=
  Bm t23 (
    R none 0 0 w) (
    LdI .i64 ⟨m0, 0, none⟩ w fun x25 =>
    Bm (x25 == (1 : Int)) (
      LdI .i64 ⟨m0, 0, none⟩ w fun x29_0 =>
      LdI .i64 ⟨m0, 1, none⟩ w fun x29_1 =>
      LdI .i64 ⟨m0, 2, none⟩ w fun x29_2 =>
      LdI .i64 ⟨m0, 3, none⟩ w fun x29_3 =>
      LdI .i64 ⟨m0, 4, none⟩ w fun x29_4 =>
      LdI .i64 ⟨m0, 5, none⟩ w fun x29_5 =>
      LdI .i64 ⟨m0, 6, none⟩ w fun x29_6 =>
      LdB ⟨m0, 7, none⟩ w fun x29_7 =>
      LdL ⟨m0, 8, none⟩ w fun x29_8_b x29_8_l x29_8_c =>
      LdS ⟨m0, 9, none⟩ w fun x29_9 =>
      sync_Sync_voteAsked.Call s x29_0 x29_1 x29_2 x29_3 x29_4 x29_5 x29_6 x29_7 x29_8_b x29_8_l x29_8_c x29_9 w fun w1 =>
      sync_Sync_Step.B2 s w1  R) (
      Bm (x25 == (2 : Int)) (
        LdI .i64 ⟨m0, 0, none⟩ w fun x34_0 =>
        LdI .i64 ⟨m0, 1, none⟩ w fun x34_1 =>
        LdI .i64 ⟨m0, 2, none⟩ w fun x34_2 =>
        LdI .i64 ⟨m0, 3, none⟩ w fun x34_3 =>
        LdI .i64 ⟨m0, 4, none⟩ w fun x34_4 =>
        LdI .i64 ⟨m0, 5, none⟩ w fun x34_5 =>
        LdI .i64 ⟨m0, 6, none⟩ w fun x34_6 =>
        LdB ⟨m0, 7, none⟩ w fun x34_7 =>
        LdL ⟨m0, 8, none⟩ w fun x34_8_b x34_8_l x34_8_c =>
        LdS ⟨m0, 9, none⟩ w fun x34_9 =>
        sync_Sync_voteCame.Call s x34_0 x34_1 x34_2 x34_3 x34_4 x34_5 x34_6 x34_7 x34_8_b x34_8_l x34_8_c x34_9 w fun w2 =>
        sync_Sync_Step.B2 s w2  R) (
        Bm (x25 == (3 : Int)) (
          LdI .i64 ⟨m0, 0, none⟩ w fun x39_0 =>
          LdI .i64 ⟨m0, 1, none⟩ w fun x39_1 =>
          LdI .i64 ⟨m0, 2, none⟩ w fun x39_2 =>
          LdI .i64 ⟨m0, 3, none⟩ w fun x39_3 =>
          LdI .i64 ⟨m0, 4, none⟩ w fun x39_4 =>
          LdI .i64 ⟨m0, 5, none⟩ w fun x39_5 =>
          LdI .i64 ⟨m0, 6, none⟩ w fun x39_6 =>
          LdB ⟨m0, 7, none⟩ w fun x39_7 =>
          LdL ⟨m0, 8, none⟩ w fun x39_8_b x39_8_l x39_8_c =>
          LdS ⟨m0, 9, none⟩ w fun x39_9 =>
          sync_Sync_entriesCame.Call s x39_0 x39_1 x39_2 x39_3 x39_4 x39_5 x39_6 x39_7 x39_8_b x39_8_l x39_8_c x39_9 w fun w3 =>
          sync_Sync_Step.B2 s w3  R) (
          Bm (x25 == (5 : Int)) (
            LdI .i64 ⟨m0, 0, none⟩ w fun x44_0 =>
            LdI .i64 ⟨m0, 1, none⟩ w fun x44_1 =>
            LdI .i64 ⟨m0, 2, none⟩ w fun x44_2 =>
            LdI .i64 ⟨m0, 3, none⟩ w fun x44_3 =>
            LdI .i64 ⟨m0, 4, none⟩ w fun x44_4 =>
            LdI .i64 ⟨m0, 5, none⟩ w fun x44_5 =>
            LdI .i64 ⟨m0, 6, none⟩ w fun x44_6 =>
            LdB ⟨m0, 7, none⟩ w fun x44_7 =>
            LdL ⟨m0, 8, none⟩ w fun x44_8_b x44_8_l x44_8_c =>
            LdS ⟨m0, 9, none⟩ w fun x44_9 =>
            sync_Sync_snapCame.Call s x44_0 x44_1 x44_2 x44_3 x44_4 x44_5 x44_6 x44_7 x44_8_b x44_8_l x44_8_c x44_9 w fun w4 =>
            sync_Sync_Step.B2 s w4  R) (
            Bm (x25 == (4 : Int)) (
              LdI .i64 ⟨m0, 0, none⟩ w fun x49_0 =>
              LdI .i64 ⟨m0, 1, none⟩ w fun x49_1 =>
              LdI .i64 ⟨m0, 2, none⟩ w fun x49_2 =>
              LdI .i64 ⟨m0, 3, none⟩ w fun x49_3 =>
              LdI .i64 ⟨m0, 4, none⟩ w fun x49_4 =>
              LdI .i64 ⟨m0, 5, none⟩ w fun x49_5 =>
              LdI .i64 ⟨m0, 6, none⟩ w fun x49_6 =>
              LdB ⟨m0, 7, none⟩ w fun x49_7 =>
              LdL ⟨m0, 8, none⟩ w fun x49_8_b x49_8_l x49_8_c =>
              LdS ⟨m0, 9, none⟩ w fun x49_9 =>
              sync_Sync_ackCame.Call s x49_0 x49_1 x49_2 x49_3 x49_4 x49_5 x49_6 x49_7 x49_8_b x49_8_l x49_8_c x49_9 w fun w5 =>
              sync_Sync_Step.B2 s w5  R) (
              sync_Sync_Step.B2 s w  R))))))
theorem sync_Sync_Step.B1_eq (s : Option Addr) (m0 : Nat) (t23 : Bool) (w : World)   (R : Option Addr → Nat → Nat → World → Prop) (sB2 : Option Addr → World → Prop) :
    (
  Bm t23 (
    R none 0 0 w) (
    LdI .i64 ⟨m0, 0, none⟩ w fun x25 =>
    Bm (x25 == (1 : Int)) (
      LdI .i64 ⟨m0, 0, none⟩ w fun x29_0 =>
      LdI .i64 ⟨m0, 1, none⟩ w fun x29_1 =>
      LdI .i64 ⟨m0, 2, none⟩ w fun x29_2 =>
      LdI .i64 ⟨m0, 3, none⟩ w fun x29_3 =>
      LdI .i64 ⟨m0, 4, none⟩ w fun x29_4 =>
      LdI .i64 ⟨m0, 5, none⟩ w fun x29_5 =>
      LdI .i64 ⟨m0, 6, none⟩ w fun x29_6 =>
      LdB ⟨m0, 7, none⟩ w fun x29_7 =>
      LdL ⟨m0, 8, none⟩ w fun x29_8_b x29_8_l x29_8_c =>
      LdS ⟨m0, 9, none⟩ w fun x29_9 =>
      sync_Sync_voteAsked.Call s x29_0 x29_1 x29_2 x29_3 x29_4 x29_5 x29_6 x29_7 x29_8_b x29_8_l x29_8_c x29_9 w fun w1 =>
      sB2 s w1) (
      Bm (x25 == (2 : Int)) (
        LdI .i64 ⟨m0, 0, none⟩ w fun x34_0 =>
        LdI .i64 ⟨m0, 1, none⟩ w fun x34_1 =>
        LdI .i64 ⟨m0, 2, none⟩ w fun x34_2 =>
        LdI .i64 ⟨m0, 3, none⟩ w fun x34_3 =>
        LdI .i64 ⟨m0, 4, none⟩ w fun x34_4 =>
        LdI .i64 ⟨m0, 5, none⟩ w fun x34_5 =>
        LdI .i64 ⟨m0, 6, none⟩ w fun x34_6 =>
        LdB ⟨m0, 7, none⟩ w fun x34_7 =>
        LdL ⟨m0, 8, none⟩ w fun x34_8_b x34_8_l x34_8_c =>
        LdS ⟨m0, 9, none⟩ w fun x34_9 =>
        sync_Sync_voteCame.Call s x34_0 x34_1 x34_2 x34_3 x34_4 x34_5 x34_6 x34_7 x34_8_b x34_8_l x34_8_c x34_9 w fun w2 =>
        sB2 s w2) (
        Bm (x25 == (3 : Int)) (
          LdI .i64 ⟨m0, 0, none⟩ w fun x39_0 =>
          LdI .i64 ⟨m0, 1, none⟩ w fun x39_1 =>
          LdI .i64 ⟨m0, 2, none⟩ w fun x39_2 =>
          LdI .i64 ⟨m0, 3, none⟩ w fun x39_3 =>
          LdI .i64 ⟨m0, 4, none⟩ w fun x39_4 =>
          LdI .i64 ⟨m0, 5, none⟩ w fun x39_5 =>
          LdI .i64 ⟨m0, 6, none⟩ w fun x39_6 =>
          LdB ⟨m0, 7, none⟩ w fun x39_7 =>
          LdL ⟨m0, 8, none⟩ w fun x39_8_b x39_8_l x39_8_c =>
          LdS ⟨m0, 9, none⟩ w fun x39_9 =>
          sync_Sync_entriesCame.Call s x39_0 x39_1 x39_2 x39_3 x39_4 x39_5 x39_6 x39_7 x39_8_b x39_8_l x39_8_c x39_9 w fun w3 =>
          sB2 s w3) (
          Bm (x25 == (5 : Int)) (
            LdI .i64 ⟨m0, 0, none⟩ w fun x44_0 =>
            LdI .i64 ⟨m0, 1, none⟩ w fun x44_1 =>
            LdI .i64 ⟨m0, 2, none⟩ w fun x44_2 =>
            LdI .i64 ⟨m0, 3, none⟩ w fun x44_3 =>
            LdI .i64 ⟨m0, 4, none⟩ w fun x44_4 =>
            LdI .i64 ⟨m0, 5, none⟩ w fun x44_5 =>
            LdI .i64 ⟨m0, 6, none⟩ w fun x44_6 =>
            LdB ⟨m0, 7, none⟩ w fun x44_7 =>
            LdL ⟨m0, 8, none⟩ w fun x44_8_b x44_8_l x44_8_c =>
            LdS ⟨m0, 9, none⟩ w fun x44_9 =>
            sync_Sync_snapCame.Call s x44_0 x44_1 x44_2 x44_3 x44_4 x44_5 x44_6 x44_7 x44_8_b x44_8_l x44_8_c x44_9 w fun w4 =>
            sB2 s w4) (
            Bm (x25 == (4 : Int)) (
              LdI .i64 ⟨m0, 0, none⟩ w fun x49_0 =>
              LdI .i64 ⟨m0, 1, none⟩ w fun x49_1 =>
              LdI .i64 ⟨m0, 2, none⟩ w fun x49_2 =>
              LdI .i64 ⟨m0, 3, none⟩ w fun x49_3 =>
              LdI .i64 ⟨m0, 4, none⟩ w fun x49_4 =>
              LdI .i64 ⟨m0, 5, none⟩ w fun x49_5 =>
              LdI .i64 ⟨m0, 6, none⟩ w fun x49_6 =>
              LdB ⟨m0, 7, none⟩ w fun x49_7 =>
              LdL ⟨m0, 8, none⟩ w fun x49_8_b x49_8_l x49_8_c =>
              LdS ⟨m0, 9, none⟩ w fun x49_9 =>
              sync_Sync_ackCame.Call s x49_0 x49_1 x49_2 x49_3 x49_4 x49_5 x49_6 x49_7 x49_8_b x49_8_l x49_8_c x49_9 w fun w5 =>
              sB2 s w5) (
              sB2 s w))))))) = kstep Tryz.prog 53 Tryz.f76.results.toList (Tryz.f76.body.getD .skip) (sync_Sync_Step.RV R) (kvc Tryz.prog 53 Tryz.f76.results.toList (Tryz.f76.body.getD .skip) (sync_Sync_Step.RV R) [([(0, [1, 1, 1, 1, 1])], fun σ w => dP (slotOf σ 0) fun s_ => sB2 s_ w)] 2000) [(0, [1, 1, 1, 0, 1]), (0, [1, 1, 1, 1])] [(0, .pointer s), (3, .pointer (some ⟨m0, 0, none⟩)), (23, .bool t23)] w := by kernel_rfl
theorem sync_Sync_Step.B1_sound {R : Option Addr → Nat → Nat → World → Prop}  (s : Option Addr) (m0 : Nat) (t23 : Bool) (w : World) (h : sync_Sync_Step.B1 s m0 t23 w   R) :
    KW Tryz.prog 76 53 (sync_Sync_Step.RV R) ([(0, [1, 1, 1, 0, 1]), (0, [1, 1, 1, 1])].map (toItem (Tryz.f76.body.getD .skip))) [(0, .pointer s), (3, .pointer (some ⟨m0, 0, none⟩)), (23, .bool t23)] w := by
  exact block_spec Tryz.func76 Tryz.mixed (stops_cons (fun σ w h => by
      obtain ⟨s_, e0, h⟩ := dP_elim h
      exact (sync_Sync_Step.B2_sound  s_ w h).weaken (Sub.cons (Sub.nil _) e0)) stops_nil) (Eq.mp (sync_Sync_Step.B1_eq s m0 t23 w   R (fun s_ w => sync_Sync_Step.B2 s_ w  R)) h)
def sync_Sync_Step.B0 (s : Option Addr) (m0_0 m0_1 m0_2 m0_3 m0_4 m0_5 m0_6 : Int) (m0_7 : Bool) (m0_8_b : Option Addr) (m0_8_l m0_8_c : Nat) (m0_9 : ByteArray) (w : World)   (R : Option Addr → Nat → Nat → World → Prop) : Prop :=
  New (.cells #[.int .i64 m0_0, .int .i64 m0_1, .int .i64 m0_2, .int .i64 m0_3, .int .i64 m0_4, .int .i64 m0_5, .int .i64 m0_6, .bool m0_7, .slice m0_8_b m0_8_l m0_8_c, .string m0_9] 101) w fun m0_ w1 =>
  LdI .i64 ⟨m0_, 0, none⟩ w1 fun x6_0 =>
  LdI .i64 ⟨m0_, 1, none⟩ w1 fun x6_1 =>
  LdI .i64 ⟨m0_, 2, none⟩ w1 fun x6_2 =>
  LdI .i64 ⟨m0_, 3, none⟩ w1 fun x6_3 =>
  LdI .i64 ⟨m0_, 4, none⟩ w1 fun x6_4 =>
  LdI .i64 ⟨m0_, 5, none⟩ w1 fun x6_5 =>
  LdI .i64 ⟨m0_, 6, none⟩ w1 fun x6_6 =>
  LdB ⟨m0_, 7, none⟩ w1 fun x6_7 =>
  LdL ⟨m0_, 8, none⟩ w1 fun x6_8_b x6_8_l x6_8_c =>
  LdS ⟨m0_, 9, none⟩ w1 fun x6_9 =>
  api_MsgOK.Call x6_0 x6_1 x6_2 x6_3 x6_4 x6_5 x6_6 x6_7 x6_8_b x6_8_l x6_8_c x6_9 w1 fun r7 w2 =>
  Bm (!r7) (
    R none 0 0 w2) (
    Pn s fun a =>
    LdP (a.add 1) w2 fun x12 =>
    elect_Elect_Id.Call x12 w2 fun r13 w3 =>
    LdI .i64 ⟨m0_, 2, none⟩ w3 fun x15 =>
    Bm (x15 != r13) (
      sync_Sync_Step.B1 s m0_ true w3  R) (
      LdI .i64 ⟨m0_, 1, none⟩ w3 fun x20 =>
      sync_Sync_Step.B1 s m0_ (x20 == r13) w3  R))
theorem sync_Sync_Step.B0_eq (s : Option Addr) (m0_0 m0_1 m0_2 m0_3 m0_4 m0_5 m0_6 : Int) (m0_7 : Bool) (m0_8_b : Option Addr) (m0_8_l m0_8_c : Nat) (m0_9 : ByteArray) (w : World)   (R : Option Addr → Nat → Nat → World → Prop) (sB1 : Option Addr → Nat → Bool → World → Prop) :
    (
  New (.cells #[.int .i64 m0_0, .int .i64 m0_1, .int .i64 m0_2, .int .i64 m0_3, .int .i64 m0_4, .int .i64 m0_5, .int .i64 m0_6, .bool m0_7, .slice m0_8_b m0_8_l m0_8_c, .string m0_9] 101) w fun m0_ w1 =>
  LdI .i64 ⟨m0_, 0, none⟩ w1 fun x6_0 =>
  LdI .i64 ⟨m0_, 1, none⟩ w1 fun x6_1 =>
  LdI .i64 ⟨m0_, 2, none⟩ w1 fun x6_2 =>
  LdI .i64 ⟨m0_, 3, none⟩ w1 fun x6_3 =>
  LdI .i64 ⟨m0_, 4, none⟩ w1 fun x6_4 =>
  LdI .i64 ⟨m0_, 5, none⟩ w1 fun x6_5 =>
  LdI .i64 ⟨m0_, 6, none⟩ w1 fun x6_6 =>
  LdB ⟨m0_, 7, none⟩ w1 fun x6_7 =>
  LdL ⟨m0_, 8, none⟩ w1 fun x6_8_b x6_8_l x6_8_c =>
  LdS ⟨m0_, 9, none⟩ w1 fun x6_9 =>
  api_MsgOK.Call x6_0 x6_1 x6_2 x6_3 x6_4 x6_5 x6_6 x6_7 x6_8_b x6_8_l x6_8_c x6_9 w1 fun r7 w2 =>
  Bm (!r7) (
    R none 0 0 w2) (
    Pn s fun a =>
    LdP (a.add 1) w2 fun x12 =>
    elect_Elect_Id.Call x12 w2 fun r13 w3 =>
    LdI .i64 ⟨m0_, 2, none⟩ w3 fun x15 =>
    Bm (x15 != r13) (
      sB1 s m0_ true w3) (
      LdI .i64 ⟨m0_, 1, none⟩ w3 fun x20 =>
      sB1 s m0_ (x20 == r13) w3))) = kstep Tryz.prog 53 Tryz.f76.results.toList (Tryz.f76.body.getD .skip) (sync_Sync_Step.RV R) (kvc Tryz.prog 53 Tryz.f76.results.toList (Tryz.f76.body.getD .skip) (sync_Sync_Step.RV R) [([(0, [1, 1, 1, 0, 1]), (0, [1, 1, 1, 1])], fun σ w => dP (slotOf σ 0) fun s_ => dK (slotOf σ 3) fun m0_ => dB (slotOf σ 23) fun t23_ => sB1 s_ m0_ t23_ w)] 2000) [(0, [])] [(0, .pointer s), (1, .agg #[.int .i64 m0_0, .int .i64 m0_1, .int .i64 m0_2, .int .i64 m0_3, .int .i64 m0_4, .int .i64 m0_5, .int .i64 m0_6, .bool m0_7, .slice m0_8_b m0_8_l m0_8_c, .string m0_9])] w := by kernel_rfl
theorem sync_Sync_Step.B0_sound {R : Option Addr → Nat → Nat → World → Prop}  (s : Option Addr) (m0_0 m0_1 m0_2 m0_3 m0_4 m0_5 m0_6 : Int) (m0_7 : Bool) (m0_8_b : Option Addr) (m0_8_l m0_8_c : Nat) (m0_9 : ByteArray) (w : World) (h : sync_Sync_Step.B0 s m0_0 m0_1 m0_2 m0_3 m0_4 m0_5 m0_6 m0_7 m0_8_b m0_8_l m0_8_c m0_9 w   R) :
    KW Tryz.prog 76 53 (sync_Sync_Step.RV R) ([(0, [])].map (toItem (Tryz.f76.body.getD .skip))) [(0, .pointer s), (1, .agg #[.int .i64 m0_0, .int .i64 m0_1, .int .i64 m0_2, .int .i64 m0_3, .int .i64 m0_4, .int .i64 m0_5, .int .i64 m0_6, .bool m0_7, .slice m0_8_b m0_8_l m0_8_c, .string m0_9])] w := by
  exact block_spec Tryz.func76 Tryz.mixed (stops_cons (fun σ w h => by
      obtain ⟨s_, e0, h⟩ := dP_elim h
      obtain ⟨m0_, e1, h⟩ := dK_elim h
      obtain ⟨t23_, e2, h⟩ := dB_elim h
      exact (sync_Sync_Step.B1_sound  s_ m0_ t23_ w h).weaken (Sub.cons (Sub.cons (Sub.cons (Sub.nil _) e2) e1) e0)) stops_nil) (Eq.mp (sync_Sync_Step.B0_eq s m0_0 m0_1 m0_2 m0_3 m0_4 m0_5 m0_6 m0_7 m0_8_b m0_8_l m0_8_c m0_9 w   R (fun s_ m0_ t23_ w => sync_Sync_Step.B1 s_ m0_ t23_ w  R)) h)
theorem sync_Sync_Step.sound (s : Option Addr) (m0_0 m0_1 m0_2 m0_3 m0_4 m0_5 m0_6 : Int) (m0_7 : Bool) (m0_8_b : Option Addr) (m0_8_l m0_8_c : Nat) (m0_9 : ByteArray) (w : World) (R : Option Addr → Nat → Nat → World → Prop) (h : sync_Sync_Step.B0 s m0_0 m0_1 m0_2 m0_3 m0_4 m0_5 m0_6 m0_7 m0_8_b m0_8_l m0_8_c m0_9 w R) : sync_Sync_Step.Call s m0_0 m0_1 m0_2 m0_3 m0_4 m0_5 m0_6 m0_7 m0_8_b m0_8_l m0_8_c m0_9 w R := by
  have hc := calls_of_block (args := #[.pointer s, .agg #[.int .i64 m0_0, .int .i64 m0_1, .int .i64 m0_2, .int .i64 m0_3, .int .i64 m0_4, .int .i64 m0_5, .int .i64 m0_6, .bool m0_7, .slice m0_8_b m0_8_l m0_8_c, .string m0_9]]) Tryz.func76 (body := (Tryz.f76.body.getD .skip)) (by kernel_rfl) (by kernel_rfl) (args_slot _) (sync_Sync_Step.B0_sound s m0_0 m0_1 m0_2 m0_3 m0_4 m0_5 m0_6 m0_7 m0_8_b m0_8_l m0_8_c m0_9 w h)
  exact hc.mono fun e w' he => by
    obtain ⟨v, rfl, hv⟩ := he
    exact sync_Sync_Step.RV_elim hv
def nodelaw_SplitBar.L1b (t : ByteArray) (i : Int) (w : World)  (N1 : ByteArray → Int → World → Prop) (R : ByteArray → ByteArray → World → Prop) : Prop :=
  Bm (decide (i < ((t.size : Nat) : Int))) (
    (0 ≤ i ∧ i < ((t.size : Nat) : Int)) ∧
    Bm ((byteAt t i) == (124 : Int)) (
      (0 ≤ i ∧ i ≤ ((t.size : Nat) : Int)) ∧
      (0 ≤ (IntKind.i64.wrap (i + (1 : Int))) ∧ (IntKind.i64.wrap (i + (1 : Int))) ≤ ((t.size : Nat) : Int)) ∧
      R (t.extract ((0 : Nat) : Int).toNat i.toNat) (t.extract (IntKind.i64.wrap (i + (1 : Int))).toNat ((t.size : Nat) : Int).toNat) w.drew) (
      N1 t (IntKind.i64.wrap (i + (1 : Int))) w)) (
    R t (ByteArray.mk #[]) w)
theorem nodelaw_SplitBar.L1b_eq (t : ByteArray) (i : Int) (w : World)  (N1 : ByteArray → Int → World → Prop) (R : ByteArray → ByteArray → World → Prop)  :
    (
  Bm (decide (i < ((t.size : Nat) : Int))) (
    (0 ≤ i ∧ i < ((t.size : Nat) : Int)) ∧
    Bm ((byteAt t i) == (124 : Int)) (
      (0 ≤ i ∧ i ≤ ((t.size : Nat) : Int)) ∧
      (0 ≤ (IntKind.i64.wrap (i + (1 : Int))) ∧ (IntKind.i64.wrap (i + (1 : Int))) ≤ ((t.size : Nat) : Int)) ∧
      R (t.extract ((0 : Nat) : Int).toNat i.toNat) (t.extract (IntKind.i64.wrap (i + (1 : Int))).toNat ((t.size : Nat) : Int).toNat) w.drew) (
      N1 t (IntKind.i64.wrap (i + (1 : Int))) w)) (
    R t (ByteArray.mk #[]) w)) = kstep Tryz.prog 23 Tryz.f77.results.toList (Tryz.f77.body.getD .skip) (nodelaw_SplitBar.RV R) (kvc Tryz.prog 23 Tryz.f77.results.toList (Tryz.f77.body.getD .skip) (nodelaw_SplitBar.RV R) [([(0, [1, 0, 1, 0, 0]), (2, [1, 0, 1, 0, 0]), (1, [0]), (0, [1, 1])], fun σ w => dS (slotOf σ 0) fun t_ => dI .i64 (slotOf σ 4) fun i_ => N1 t_ i_ w)] 2000) [(0, [1, 0, 1, 0, 0]), (2, [1, 0, 1, 0, 0]), (1, [0]), (0, [1, 1])] [(0, .string t), (4, .int .i64 i)] w := by kernel_rfl
theorem nodelaw_SplitBar.L1b_sound {R : ByteArray → ByteArray → World → Prop} {N1 : ByteArray → Int → World → Prop} (hN1 : ∀ t i w, N1 t i w → KW Tryz.prog 77 23 (nodelaw_SplitBar.RV R) ([(0, [1, 0, 1, 0, 0]), (2, [1, 0, 1, 0, 0]), (1, [0]), (0, [1, 1])].map (toItem (Tryz.f77.body.getD .skip))) [(0, .string t), (4, .int .i64 i)] w) (t : ByteArray) (i : Int) (w : World) (h : nodelaw_SplitBar.L1b t i w  N1 R) :
    KW Tryz.prog 77 23 (nodelaw_SplitBar.RV R) ([(0, [1, 0, 1, 0, 0]), (2, [1, 0, 1, 0, 0]), (1, [0]), (0, [1, 1])].map (toItem (Tryz.f77.body.getD .skip))) [(0, .string t), (4, .int .i64 i)] w := by
  exact block_spec Tryz.func77 Tryz.mixed (stops_cons (fun σ w h => by
      obtain ⟨t_, e0, h⟩ := dS_elim h
      obtain ⟨i_, e1, h⟩ := dI_elim h
      exact (hN1 t_ i_ w h).weaken (Sub.cons (Sub.cons (Sub.nil _) e1) e0)) stops_nil) (Eq.mp (nodelaw_SplitBar.L1b_eq t i w  N1 R ) h)
def nodelaw_SplitBar.L1 (t : ByteArray) (i : Int) (w : World)  (R : ByteArray → ByteArray → World → Prop) : Prop :=
  ∃ (I : Nat → ByteArray → Int → World → Prop) (m : Nat), I m t i w ∧ ∀ m t i w, I m t i w → nodelaw_SplitBar.L1b t i w  (fun t' i' w' => ∃ m', m' < m ∧ I m' t' i' w') R
theorem nodelaw_SplitBar.L1_sound {R : ByteArray → ByteArray → World → Prop}  (t : ByteArray) (i : Int) (w : World) (h : nodelaw_SplitBar.L1 t i w  R) :
    KW Tryz.prog 77 23 (nodelaw_SplitBar.RV R) ([(0, [1, 0, 1, 0, 0]), (2, [1, 0, 1, 0, 0]), (1, [0]), (0, [1, 1])].map (toItem (Tryz.f77.body.getD .skip))) [(0, .string t), (4, .int .i64 i)] w := by
  obtain ⟨I, m, hBase, hr⟩ := h
  refine KW.loop (fun m σ w => ∃ (t : ByteArray) (i : Int), σ = [(0, .string t), (4, .int .i64 i)] ∧ I m t i w) ?_ m _ w ⟨t, i, rfl, hBase⟩
  rintro m ih σ w ⟨t, i, rfl, hI⟩
  exact nodelaw_SplitBar.L1b_sound  (N1 := fun t' i' w' => ∃ m', m' < m ∧ I m' t' i' w') (fun t' i' w' hx => by obtain ⟨m', hlt, hI'⟩ := hx; exact ih m' hlt _ w' ⟨t', i', rfl, hI'⟩) t i w (hr m t i w hI)
def nodelaw_SplitBar.B0 (t : ByteArray) (w : World)   (R : ByteArray → ByteArray → World → Prop) : Prop :=
  nodelaw_SplitBar.L1 t (0 : Int) w  R
theorem nodelaw_SplitBar.B0_eq (t : ByteArray) (w : World)   (R : ByteArray → ByteArray → World → Prop) (sL1 : ByteArray → Int → World → Prop) :
    (
  sL1 t (0 : Int) w) = kstep Tryz.prog 23 Tryz.f77.results.toList (Tryz.f77.body.getD .skip) (nodelaw_SplitBar.RV R) (kvc Tryz.prog 23 Tryz.f77.results.toList (Tryz.f77.body.getD .skip) (nodelaw_SplitBar.RV R) [([(0, [1, 0, 1, 0, 0]), (2, [1, 0, 1, 0, 0]), (1, [0]), (0, [1, 1])], fun σ w => dS (slotOf σ 0) fun t_ => dI .i64 (slotOf σ 4) fun i_ => sL1 t_ i_ w)] 2000) [(0, [])] [(0, .string t)] w := by kernel_rfl
theorem nodelaw_SplitBar.B0_sound {R : ByteArray → ByteArray → World → Prop}  (t : ByteArray) (w : World) (h : nodelaw_SplitBar.B0 t w   R) :
    KW Tryz.prog 77 23 (nodelaw_SplitBar.RV R) ([(0, [])].map (toItem (Tryz.f77.body.getD .skip))) [(0, .string t)] w := by
  exact block_spec Tryz.func77 Tryz.mixed (stops_cons (fun σ w h => by
      obtain ⟨t_, e0, h⟩ := dS_elim h
      obtain ⟨i_, e1, h⟩ := dI_elim h
      exact (nodelaw_SplitBar.L1_sound  t_ i_ w h).weaken (Sub.cons (Sub.cons (Sub.nil _) e1) e0)) stops_nil) (Eq.mp (nodelaw_SplitBar.B0_eq t w   R (fun t_ i_ w => nodelaw_SplitBar.L1 t_ i_ w  R)) h)
theorem nodelaw_SplitBar.sound (t : ByteArray) (w : World) (R : ByteArray → ByteArray → World → Prop) (h : nodelaw_SplitBar.B0 t w R) : nodelaw_SplitBar.Call t w R := by
  have hc := calls_of_block (args := #[.string t]) Tryz.func77 (body := (Tryz.f77.body.getD .skip)) (by kernel_rfl) (by kernel_rfl) (args_slot _) (nodelaw_SplitBar.B0_sound t w h)
  exact hc.mono fun e w' he => by
    obtain ⟨v, rfl, hv⟩ := he
    exact nodelaw_SplitBar.RV_elim hv
def api_CmdOK.B3 (c : Nat) (t65 : Bool) (w : World)   (R : Bool → World → Prop) : Prop :=
  Bm t65 (
    R false w) (
    LdI .i64 ⟨c, 0, none⟩ w fun x67 =>
    Bm (x67 == (4 : Int)) (
      R true w) (
      LdS ⟨c, 5, none⟩ w fun x71 =>
      R (x71.toList == (ByteArray.mk #[]).toList) w))
theorem api_CmdOK.B3_eq (c : Nat) (t65 : Bool) (w : World)   (R : Bool → World → Prop)  :
    (
  Bm t65 (
    R false w) (
    LdI .i64 ⟨c, 0, none⟩ w fun x67 =>
    Bm (x67 == (4 : Int)) (
      R true w) (
      LdS ⟨c, 5, none⟩ w fun x71 =>
      R (x71.toList == (ByteArray.mk #[]).toList) w))) = kstep Tryz.prog 74 Tryz.f78.results.toList (Tryz.f78.body.getD .skip) (api_CmdOK.RV R) (kvc Tryz.prog 74 Tryz.f78.results.toList (Tryz.f78.body.getD .skip) (api_CmdOK.RV R) [] 2000) [(0, [1, 1, 1, 0, 1]), (0, [1, 1, 1, 1])] [(1, .pointer (some ⟨c, 0, none⟩)), (65, .bool t65)] w := by kernel_rfl
theorem api_CmdOK.B3_sound {R : Bool → World → Prop}  (c : Nat) (t65 : Bool) (w : World) (h : api_CmdOK.B3 c t65 w   R) :
    KW Tryz.prog 78 74 (api_CmdOK.RV R) ([(0, [1, 1, 1, 0, 1]), (0, [1, 1, 1, 1])].map (toItem (Tryz.f78.body.getD .skip))) [(1, .pointer (some ⟨c, 0, none⟩)), (65, .bool t65)] w := by
  exact block_spec Tryz.func78 Tryz.mixed stops_nil (Eq.mp (api_CmdOK.B3_eq c t65 w   R ) h)
def api_CmdOK.B2 (c : Nat) (t52 : Bool) (w : World)   (R : Bool → World → Prop) : Prop :=
  Bm t52 (
    R false w) (
    LdI .i64 ⟨c, 0, none⟩ w fun x54 =>
    Bm (x54 == (2 : Int)) (
      LdS ⟨c, 4, none⟩ w fun x63 =>
      api_CmdOK.B3 c (!(x63.toList == (ByteArray.mk #[]).toList)) w  R) (
      LdI .i64 ⟨c, 0, none⟩ w fun x58 =>
      Bm (x58 == (3 : Int)) (
        LdS ⟨c, 4, none⟩ w fun x63_1 =>
        api_CmdOK.B3 c (!(x63_1.toList == (ByteArray.mk #[]).toList)) w  R) (
        api_CmdOK.B3 c false w  R)))
theorem api_CmdOK.B2_eq (c : Nat) (t52 : Bool) (w : World)   (R : Bool → World → Prop) (sB3 : Nat → Bool → World → Prop) :
    (
  Bm t52 (
    R false w) (
    LdI .i64 ⟨c, 0, none⟩ w fun x54 =>
    Bm (x54 == (2 : Int)) (
      LdS ⟨c, 4, none⟩ w fun x63 =>
      sB3 c (!(x63.toList == (ByteArray.mk #[]).toList)) w) (
      LdI .i64 ⟨c, 0, none⟩ w fun x58 =>
      Bm (x58 == (3 : Int)) (
        LdS ⟨c, 4, none⟩ w fun x63_1 =>
        sB3 c (!(x63_1.toList == (ByteArray.mk #[]).toList)) w) (
        sB3 c false w)))) = kstep Tryz.prog 74 Tryz.f78.results.toList (Tryz.f78.body.getD .skip) (api_CmdOK.RV R) (kvc Tryz.prog 74 Tryz.f78.results.toList (Tryz.f78.body.getD .skip) (api_CmdOK.RV R) [([(0, [1, 1, 1, 0, 1]), (0, [1, 1, 1, 1])], fun σ w => dK (slotOf σ 1) fun c_ => dB (slotOf σ 65) fun t65_ => sB3 c_ t65_ w)] 2000) [(0, [1, 1, 0, 1]), (0, [1, 1, 1])] [(1, .pointer (some ⟨c, 0, none⟩)), (52, .bool t52)] w := by kernel_rfl
theorem api_CmdOK.B2_sound {R : Bool → World → Prop}  (c : Nat) (t52 : Bool) (w : World) (h : api_CmdOK.B2 c t52 w   R) :
    KW Tryz.prog 78 74 (api_CmdOK.RV R) ([(0, [1, 1, 0, 1]), (0, [1, 1, 1])].map (toItem (Tryz.f78.body.getD .skip))) [(1, .pointer (some ⟨c, 0, none⟩)), (52, .bool t52)] w := by
  exact block_spec Tryz.func78 Tryz.mixed (stops_cons (fun σ w h => by
      obtain ⟨c_, e0, h⟩ := dK_elim h
      obtain ⟨t65_, e1, h⟩ := dB_elim h
      exact (api_CmdOK.B3_sound  c_ t65_ w h).weaken (Sub.cons (Sub.cons (Sub.nil _) e1) e0)) stops_nil) (Eq.mp (api_CmdOK.B2_eq c t52 w   R (fun c_ t65_ w => api_CmdOK.B3 c_ t65_ w  R)) h)
def api_CmdOK.B1 (c : Nat) (t30 : Bool) (w : World)   (R : Bool → World → Prop) : Prop :=
  Bm t30 (
    R false w) (
    LdS ⟨c, 3, none⟩ w fun x32 =>
    Bm (decide (((x32.size : Nat) : Int) < (1 : Int))) (
      api_CmdOK.B2 c true w  R) (
      LdS ⟨c, 3, none⟩ w fun x37 =>
      Bm (decide (((x37.size : Nat) : Int) > (2 : Int))) (
        api_CmdOK.B2 c true w  R) (
        LdS ⟨c, 4, none⟩ w fun x43 =>
        Bm (decide (((x43.size : Nat) : Int) > (3 : Int))) (
          api_CmdOK.B2 c true w  R) (
          LdS ⟨c, 5, none⟩ w fun x49 =>
          api_CmdOK.B2 c (decide (((x49.size : Nat) : Int) > (3 : Int))) w  R))))
theorem api_CmdOK.B1_eq (c : Nat) (t30 : Bool) (w : World)   (R : Bool → World → Prop) (sB2 : Nat → Bool → World → Prop) :
    (
  Bm t30 (
    R false w) (
    LdS ⟨c, 3, none⟩ w fun x32 =>
    Bm (decide (((x32.size : Nat) : Int) < (1 : Int))) (
      sB2 c true w) (
      LdS ⟨c, 3, none⟩ w fun x37 =>
      Bm (decide (((x37.size : Nat) : Int) > (2 : Int))) (
        sB2 c true w) (
        LdS ⟨c, 4, none⟩ w fun x43 =>
        Bm (decide (((x43.size : Nat) : Int) > (3 : Int))) (
          sB2 c true w) (
          LdS ⟨c, 5, none⟩ w fun x49 =>
          sB2 c (decide (((x49.size : Nat) : Int) > (3 : Int))) w))))) = kstep Tryz.prog 74 Tryz.f78.results.toList (Tryz.f78.body.getD .skip) (api_CmdOK.RV R) (kvc Tryz.prog 74 Tryz.f78.results.toList (Tryz.f78.body.getD .skip) (api_CmdOK.RV R) [([(0, [1, 1, 0, 1]), (0, [1, 1, 1])], fun σ w => dK (slotOf σ 1) fun c_ => dB (slotOf σ 52) fun t52_ => sB2 c_ t52_ w)] 2000) [(0, [1, 0, 1]), (0, [1, 1])] [(1, .pointer (some ⟨c, 0, none⟩)), (30, .bool t30)] w := by kernel_rfl
theorem api_CmdOK.B1_sound {R : Bool → World → Prop}  (c : Nat) (t30 : Bool) (w : World) (h : api_CmdOK.B1 c t30 w   R) :
    KW Tryz.prog 78 74 (api_CmdOK.RV R) ([(0, [1, 0, 1]), (0, [1, 1])].map (toItem (Tryz.f78.body.getD .skip))) [(1, .pointer (some ⟨c, 0, none⟩)), (30, .bool t30)] w := by
  exact block_spec Tryz.func78 Tryz.mixed (stops_cons (fun σ w h => by
      obtain ⟨c_, e0, h⟩ := dK_elim h
      obtain ⟨t52_, e1, h⟩ := dB_elim h
      exact (api_CmdOK.B2_sound  c_ t52_ w h).weaken (Sub.cons (Sub.cons (Sub.nil _) e1) e0)) stops_nil) (Eq.mp (api_CmdOK.B1_eq c t30 w   R (fun c_ t52_ w => api_CmdOK.B2 c_ t52_ w  R)) h)
def api_CmdOK.B0 (c_0 c_1 c_2 : Int) (c_3 c_4 c_5 : ByteArray) (w : World)   (R : Bool → World → Prop) : Prop :=
  New (.cells #[.int .i64 c_0, .int .i64 c_1, .int .i64 c_2, .string c_3, .string c_4, .string c_5] 87) w fun c_ w1 =>
  LdI .i64 ⟨c_, 0, none⟩ w1 fun x4 =>
  Bm (decide (x4 < (1 : Int))) (
    api_CmdOK.B1 c_ true w1  R) (
    LdI .i64 ⟨c_, 0, none⟩ w1 fun x8 =>
    Bm (decide (x8 > (4 : Int))) (
      api_CmdOK.B1 c_ true w1  R) (
      LdI .i64 ⟨c_, 1, none⟩ w1 fun x13 =>
      Bm (decide (x13 < (0 : Int))) (
        api_CmdOK.B1 c_ true w1  R) (
        LdI .i64 ⟨c_, 1, none⟩ w1 fun x18 =>
        Bm (decide (x18 ≥ (3 : Int))) (
          api_CmdOK.B1 c_ true w1  R) (
          LdI .i64 ⟨c_, 2, none⟩ w1 fun x23 =>
          Bm (decide (x23 < (1 : Int))) (
            api_CmdOK.B1 c_ true w1  R) (
            LdI .i64 ⟨c_, 2, none⟩ w1 fun x28 =>
            api_CmdOK.B1 c_ (decide (x28 > (72057594037927936 : Int))) w1  R)))))
theorem api_CmdOK.B0_eq (c_0 c_1 c_2 : Int) (c_3 c_4 c_5 : ByteArray) (w : World)   (R : Bool → World → Prop) (sB1 : Nat → Bool → World → Prop) :
    (
  New (.cells #[.int .i64 c_0, .int .i64 c_1, .int .i64 c_2, .string c_3, .string c_4, .string c_5] 87) w fun c_ w1 =>
  LdI .i64 ⟨c_, 0, none⟩ w1 fun x4 =>
  Bm (decide (x4 < (1 : Int))) (
    sB1 c_ true w1) (
    LdI .i64 ⟨c_, 0, none⟩ w1 fun x8 =>
    Bm (decide (x8 > (4 : Int))) (
      sB1 c_ true w1) (
      LdI .i64 ⟨c_, 1, none⟩ w1 fun x13 =>
      Bm (decide (x13 < (0 : Int))) (
        sB1 c_ true w1) (
        LdI .i64 ⟨c_, 1, none⟩ w1 fun x18 =>
        Bm (decide (x18 ≥ (3 : Int))) (
          sB1 c_ true w1) (
          LdI .i64 ⟨c_, 2, none⟩ w1 fun x23 =>
          Bm (decide (x23 < (1 : Int))) (
            sB1 c_ true w1) (
            LdI .i64 ⟨c_, 2, none⟩ w1 fun x28 =>
            sB1 c_ (decide (x28 > (72057594037927936 : Int))) w1)))))) = kstep Tryz.prog 74 Tryz.f78.results.toList (Tryz.f78.body.getD .skip) (api_CmdOK.RV R) (kvc Tryz.prog 74 Tryz.f78.results.toList (Tryz.f78.body.getD .skip) (api_CmdOK.RV R) [([(0, [1, 0, 1]), (0, [1, 1])], fun σ w => dK (slotOf σ 1) fun c_ => dB (slotOf σ 30) fun t30_ => sB1 c_ t30_ w)] 2000) [(0, [])] [(0, .agg #[.int .i64 c_0, .int .i64 c_1, .int .i64 c_2, .string c_3, .string c_4, .string c_5])] w := by kernel_rfl
theorem api_CmdOK.B0_sound {R : Bool → World → Prop}  (c_0 c_1 c_2 : Int) (c_3 c_4 c_5 : ByteArray) (w : World) (h : api_CmdOK.B0 c_0 c_1 c_2 c_3 c_4 c_5 w   R) :
    KW Tryz.prog 78 74 (api_CmdOK.RV R) ([(0, [])].map (toItem (Tryz.f78.body.getD .skip))) [(0, .agg #[.int .i64 c_0, .int .i64 c_1, .int .i64 c_2, .string c_3, .string c_4, .string c_5])] w := by
  exact block_spec Tryz.func78 Tryz.mixed (stops_cons (fun σ w h => by
      obtain ⟨c_, e0, h⟩ := dK_elim h
      obtain ⟨t30_, e1, h⟩ := dB_elim h
      exact (api_CmdOK.B1_sound  c_ t30_ w h).weaken (Sub.cons (Sub.cons (Sub.nil _) e1) e0)) stops_nil) (Eq.mp (api_CmdOK.B0_eq c_0 c_1 c_2 c_3 c_4 c_5 w   R (fun c_ t30_ w => api_CmdOK.B1 c_ t30_ w  R)) h)
theorem api_CmdOK.sound (c_0 c_1 c_2 : Int) (c_3 c_4 c_5 : ByteArray) (w : World) (R : Bool → World → Prop) (h : api_CmdOK.B0 c_0 c_1 c_2 c_3 c_4 c_5 w R) : api_CmdOK.Call c_0 c_1 c_2 c_3 c_4 c_5 w R := by
  have hc := calls_of_block (args := #[.agg #[.int .i64 c_0, .int .i64 c_1, .int .i64 c_2, .string c_3, .string c_4, .string c_5]]) Tryz.func78 (body := (Tryz.f78.body.getD .skip)) (by kernel_rfl) (by kernel_rfl) (args_slot _) (api_CmdOK.B0_sound c_0 c_1 c_2 c_3 c_4 c_5 w h)
  exact hc.mono fun e w' he => by
    obtain ⟨v, rfl, hv⟩ := he
    exact api_CmdOK.RV_elim hv
def api_EncodeCmd.B0 (c_0 c_1 c_2 : Int) (c_3 c_4 c_5 : ByteArray) (w : World)   (R : ByteArray → World → Prop) : Prop :=
  New (.cells #[.int .i64 c_0, .int .i64 c_1, .int .i64 c_2, .string c_3, .string c_4, .string c_5] 87) w fun c_ w1 =>
  LdI .i64 ⟨c_, 0, none⟩ w1 fun x4_0 =>
  LdI .i64 ⟨c_, 1, none⟩ w1 fun x4_1 =>
  LdI .i64 ⟨c_, 2, none⟩ w1 fun x4_2 =>
  LdS ⟨c_, 3, none⟩ w1 fun x4_3 =>
  LdS ⟨c_, 4, none⟩ w1 fun x4_4 =>
  LdS ⟨c_, 5, none⟩ w1 fun x4_5 =>
  api_CmdOK.Call x4_0 x4_1 x4_2 x4_3 x4_4 x4_5 w1 fun r5 w2 =>
  Bm (!r5) (
    R (ByteArray.mk #[0]) w2) (
    Make 5 (.int .u8 (0 : Int)) 1 1 (0 : Int) (24 : Int) w2 fun b7 w3 =>
    LdI .i64 ⟨c_, 0, none⟩ w3 fun x10 =>
    LdI .i64 ⟨c_, 1, none⟩ w3 fun x13 =>
    New (.cells #[.int .u8 (IntKind.u8.wrap x10), .int .u8 (IntKind.u8.wrap x13)] 5) w3 fun b15 w4 =>
    Append 5 (.int .u8 (0 : Int)) 1 1 (some ⟨b7, 0, none⟩) 0 24 (some ⟨b15, 0, none⟩) 2 w4 fun b16 c16 w5 =>
    LdI .i64 ⟨c_, 2, none⟩ w5 fun x19 =>
    api_PutU64.Call b16 (0 + 2) c16 x19 w5 fun r20_b r20_l r20_c w6 =>
    LdS ⟨c_, 3, none⟩ w6 fun x23 =>
    api_putStr.Call r20_b r20_l r20_c x23 w6 fun r24_b r24_l r24_c w7 =>
    LdS ⟨c_, 4, none⟩ w7 fun x27 =>
    api_putStr.Call r24_b r24_l r24_c x27 w7 fun r28_b r28_l r28_c w8 =>
    LdS ⟨c_, 5, none⟩ w8 fun x31 =>
    api_putStr.Call r28_b r28_l r28_c x31 w8 fun r32_b r32_l r32_c w9 =>
    ToStr r32_b r32_l w9 fun s34 =>
    R s34 w9)
theorem api_EncodeCmd.B0_eq (c_0 c_1 c_2 : Int) (c_3 c_4 c_5 : ByteArray) (w : World)   (R : ByteArray → World → Prop)  :
    (
  New (.cells #[.int .i64 c_0, .int .i64 c_1, .int .i64 c_2, .string c_3, .string c_4, .string c_5] 87) w fun c_ w1 =>
  LdI .i64 ⟨c_, 0, none⟩ w1 fun x4_0 =>
  LdI .i64 ⟨c_, 1, none⟩ w1 fun x4_1 =>
  LdI .i64 ⟨c_, 2, none⟩ w1 fun x4_2 =>
  LdS ⟨c_, 3, none⟩ w1 fun x4_3 =>
  LdS ⟨c_, 4, none⟩ w1 fun x4_4 =>
  LdS ⟨c_, 5, none⟩ w1 fun x4_5 =>
  api_CmdOK.Call x4_0 x4_1 x4_2 x4_3 x4_4 x4_5 w1 fun r5 w2 =>
  Bm (!r5) (
    R (ByteArray.mk #[0]) w2) (
    Make 5 (.int .u8 (0 : Int)) 1 1 (0 : Int) (24 : Int) w2 fun b7 w3 =>
    LdI .i64 ⟨c_, 0, none⟩ w3 fun x10 =>
    LdI .i64 ⟨c_, 1, none⟩ w3 fun x13 =>
    New (.cells #[.int .u8 (IntKind.u8.wrap x10), .int .u8 (IntKind.u8.wrap x13)] 5) w3 fun b15 w4 =>
    Append 5 (.int .u8 (0 : Int)) 1 1 (some ⟨b7, 0, none⟩) 0 24 (some ⟨b15, 0, none⟩) 2 w4 fun b16 c16 w5 =>
    LdI .i64 ⟨c_, 2, none⟩ w5 fun x19 =>
    api_PutU64.Call b16 (0 + 2) c16 x19 w5 fun r20_b r20_l r20_c w6 =>
    LdS ⟨c_, 3, none⟩ w6 fun x23 =>
    api_putStr.Call r20_b r20_l r20_c x23 w6 fun r24_b r24_l r24_c w7 =>
    LdS ⟨c_, 4, none⟩ w7 fun x27 =>
    api_putStr.Call r24_b r24_l r24_c x27 w7 fun r28_b r28_l r28_c w8 =>
    LdS ⟨c_, 5, none⟩ w8 fun x31 =>
    api_putStr.Call r28_b r28_l r28_c x31 w8 fun r32_b r32_l r32_c w9 =>
    ToStr r32_b r32_l w9 fun s34 =>
    R s34 w9)) = kstep Tryz.prog 35 Tryz.f79.results.toList (Tryz.f79.body.getD .skip) (api_EncodeCmd.RV R) (kvc Tryz.prog 35 Tryz.f79.results.toList (Tryz.f79.body.getD .skip) (api_EncodeCmd.RV R) [] 2000) [(0, [])] [(0, .agg #[.int .i64 c_0, .int .i64 c_1, .int .i64 c_2, .string c_3, .string c_4, .string c_5])] w := by kernel_rfl
theorem api_EncodeCmd.B0_sound {R : ByteArray → World → Prop}  (c_0 c_1 c_2 : Int) (c_3 c_4 c_5 : ByteArray) (w : World) (h : api_EncodeCmd.B0 c_0 c_1 c_2 c_3 c_4 c_5 w   R) :
    KW Tryz.prog 79 35 (api_EncodeCmd.RV R) ([(0, [])].map (toItem (Tryz.f79.body.getD .skip))) [(0, .agg #[.int .i64 c_0, .int .i64 c_1, .int .i64 c_2, .string c_3, .string c_4, .string c_5])] w := by
  exact block_spec Tryz.func79 Tryz.mixed stops_nil (Eq.mp (api_EncodeCmd.B0_eq c_0 c_1 c_2 c_3 c_4 c_5 w   R ) h)
theorem api_EncodeCmd.sound (c_0 c_1 c_2 : Int) (c_3 c_4 c_5 : ByteArray) (w : World) (R : ByteArray → World → Prop) (h : api_EncodeCmd.B0 c_0 c_1 c_2 c_3 c_4 c_5 w R) : api_EncodeCmd.Call c_0 c_1 c_2 c_3 c_4 c_5 w R := by
  have hc := calls_of_block (args := #[.agg #[.int .i64 c_0, .int .i64 c_1, .int .i64 c_2, .string c_3, .string c_4, .string c_5]]) Tryz.func79 (body := (Tryz.f79.body.getD .skip)) (by kernel_rfl) (by kernel_rfl) (args_slot _) (api_EncodeCmd.B0_sound c_0 c_1 c_2 c_3 c_4 c_5 w h)
  exact hc.mono fun e w' he => by
    obtain ⟨v, rfl, hv⟩ := he
    exact api_EncodeCmd.RV_elim hv
def sync_Sync_Propose.B0 (s : Option Addr) (data : ByteArray) (w : World)   (R : Int → Int → World → Prop) : Prop :=
  Pn s fun a =>
  LdP (a.add 1) w fun x12 =>
  elect_Elect_Role.Call x12 w fun r13 w1 =>
  Bm (r13 != (2 : Int)) (
    R (0 : Int) (8 : Int) w1) (
    Bm (decide (((data.size : Nat) : Int) > (24 : Int))) (
      R (0 : Int) (5 : Int) w1) (
      Pn s fun a_1 =>
      LdP (a_1.add 1) w1 fun x22 =>
      elect_Elect_Term.Call x22 w1 fun r23 w2 =>
      sync_Sync_grow.Call s r23 data w2 fun r28 w3 =>
      Bm (r28 != (0 : Int)) (
        R (0 : Int) (6 : Int) w3) (
        Pn s fun a_2 =>
        LdI .i64 (a_2.add 9) w3 fun x34 =>
        R x34 (0 : Int) w3)))
theorem sync_Sync_Propose.B0_eq (s : Option Addr) (data : ByteArray) (w : World)   (R : Int → Int → World → Prop)  :
    (
  Pn s fun a =>
  LdP (a.add 1) w fun x12 =>
  elect_Elect_Role.Call x12 w fun r13 w1 =>
  Bm (r13 != (2 : Int)) (
    R (0 : Int) (8 : Int) w1) (
    Bm (decide (((data.size : Nat) : Int) > (24 : Int))) (
      R (0 : Int) (5 : Int) w1) (
      Pn s fun a_1 =>
      LdP (a_1.add 1) w1 fun x22 =>
      elect_Elect_Term.Call x22 w1 fun r23 w2 =>
      sync_Sync_grow.Call s r23 data w2 fun r28 w3 =>
      Bm (r28 != (0 : Int)) (
        R (0 : Int) (6 : Int) w3) (
        Pn s fun a_2 =>
        LdI .i64 (a_2.add 9) w3 fun x34 =>
        R x34 (0 : Int) w3)))) = kstep Tryz.prog 35 Tryz.f80.results.toList (Tryz.f80.body.getD .skip) (sync_Sync_Propose.RV R) (kvc Tryz.prog 35 Tryz.f80.results.toList (Tryz.f80.body.getD .skip) (sync_Sync_Propose.RV R) [] 2000) [(0, [])] [(0, .pointer s), (1, .string data)] w := by kernel_rfl
theorem sync_Sync_Propose.B0_sound {R : Int → Int → World → Prop}  (s : Option Addr) (data : ByteArray) (w : World) (h : sync_Sync_Propose.B0 s data w   R) :
    KW Tryz.prog 80 35 (sync_Sync_Propose.RV R) ([(0, [])].map (toItem (Tryz.f80.body.getD .skip))) [(0, .pointer s), (1, .string data)] w := by
  exact block_spec Tryz.func80 Tryz.mixed stops_nil (Eq.mp (sync_Sync_Propose.B0_eq s data w   R ) h)
theorem sync_Sync_Propose.sound (s : Option Addr) (data : ByteArray) (w : World) (R : Int → Int → World → Prop) (h : sync_Sync_Propose.B0 s data w R) : sync_Sync_Propose.Call s data w R := by
  have hc := calls_of_block (args := #[.pointer s, .string data]) Tryz.func80 (body := (Tryz.f80.body.getD .skip)) (by kernel_rfl) (by kernel_rfl) (args_slot _) (sync_Sync_Propose.B0_sound s data w h)
  exact hc.mono fun e w' he => by
    obtain ⟨v, rfl, hv⟩ := he
    exact sync_Sync_Propose.RV_elim hv
def syncm_Sync_Tick.B1 (out_b : Option Addr) (out_l out_c : Nat) (id0 term last lt p : Int) (w : World) (N1 : Option Addr → Nat → Nat → Int → Int → Int → Int → Int → World → Prop)  (R : Option Addr → Nat → Nat → World → Prop) : Prop :=
  N1 out_b out_l out_c id0 term last lt (IntKind.i64.wrap (p + (1 : Int))) w
theorem syncm_Sync_Tick.B1_eq (out_b : Option Addr) (out_l out_c : Nat) (id0 term last lt p : Int) (w : World) (N1 : Option Addr → Nat → Nat → Int → Int → Int → Int → Int → World → Prop)  (R : Option Addr → Nat → Nat → World → Prop)  :
    (
  N1 out_b out_l out_c id0 term last lt (IntKind.i64.wrap (p + (1 : Int))) w) = kstep Tryz.prog 65 Tryz.f81.results.toList (Tryz.f81.body.getD .skip) (syncm_Sync_Tick.RV R) (kvc Tryz.prog 65 Tryz.f81.results.toList (Tryz.f81.body.getD .skip) (syncm_Sync_Tick.RV R) [([(0, [1, 1, 1, 1, 1, 0, 1, 0, 1, 1, 1, 1, 1, 0, 0]), (2, [1, 1, 1, 1, 1, 0, 1, 0, 1, 1, 1, 1, 1, 0, 0]), (1, [0]), (0, [1, 1, 1, 1, 1, 1])], fun σ w => dL (slotOf σ 4) fun out_b_ out_l_ out_c_ => dI .i64 (slotOf σ 5) fun id0_ => dI .i64 (slotOf σ 6) fun term_ => dI .i64 (slotOf σ 7) fun last_ => dI .i64 (slotOf σ 8) fun lt_ => dI .i64 (slotOf σ 10) fun p_ => N1 out_b_ out_l_ out_c_ id0_ term_ last_ lt_ p_ w)] 2000) [(0, [1, 1, 1, 1, 1, 0, 1, 0, 1, 1, 1, 1, 1, 0, 0, 1, 1]), (2, [1, 1, 1, 1, 1, 0, 1, 0, 1, 1, 1, 1, 1, 0, 0]), (1, [0]), (0, [1, 1, 1, 1, 1, 1])] [(4, .slice out_b out_l out_c), (5, .int .i64 id0), (6, .int .i64 term), (7, .int .i64 last), (8, .int .i64 lt), (10, .int .i64 p)] w := by kernel_rfl
theorem syncm_Sync_Tick.B1_sound {R : Option Addr → Nat → Nat → World → Prop} {N1 : Option Addr → Nat → Nat → Int → Int → Int → Int → Int → World → Prop} (hN1 : ∀ out_b out_l out_c id0 term last lt p w, N1 out_b out_l out_c id0 term last lt p w → KW Tryz.prog 81 65 (syncm_Sync_Tick.RV R) ([(0, [1, 1, 1, 1, 1, 0, 1, 0, 1, 1, 1, 1, 1, 0, 0]), (2, [1, 1, 1, 1, 1, 0, 1, 0, 1, 1, 1, 1, 1, 0, 0]), (1, [0]), (0, [1, 1, 1, 1, 1, 1])].map (toItem (Tryz.f81.body.getD .skip))) [(4, .slice out_b out_l out_c), (5, .int .i64 id0), (6, .int .i64 term), (7, .int .i64 last), (8, .int .i64 lt), (10, .int .i64 p)] w) (out_b : Option Addr) (out_l out_c : Nat) (id0 term last lt p : Int) (w : World) (h : syncm_Sync_Tick.B1 out_b out_l out_c id0 term last lt p w N1  R) :
    KW Tryz.prog 81 65 (syncm_Sync_Tick.RV R) ([(0, [1, 1, 1, 1, 1, 0, 1, 0, 1, 1, 1, 1, 1, 0, 0, 1, 1]), (2, [1, 1, 1, 1, 1, 0, 1, 0, 1, 1, 1, 1, 1, 0, 0]), (1, [0]), (0, [1, 1, 1, 1, 1, 1])].map (toItem (Tryz.f81.body.getD .skip))) [(4, .slice out_b out_l out_c), (5, .int .i64 id0), (6, .int .i64 term), (7, .int .i64 last), (8, .int .i64 lt), (10, .int .i64 p)] w := by
  exact block_spec Tryz.func81 Tryz.mixed (stops_cons (fun σ w h => by
      obtain ⟨out_b_, out_l_, out_c_, e0, h⟩ := dL_elim h
      obtain ⟨id0_, e1, h⟩ := dI_elim h
      obtain ⟨term_, e2, h⟩ := dI_elim h
      obtain ⟨last_, e3, h⟩ := dI_elim h
      obtain ⟨lt_, e4, h⟩ := dI_elim h
      obtain ⟨p_, e5, h⟩ := dI_elim h
      exact (hN1 out_b_ out_l_ out_c_ id0_ term_ last_ lt_ p_ w h).weaken (Sub.cons (Sub.cons (Sub.cons (Sub.cons (Sub.cons (Sub.cons (Sub.nil _) e5) e4) e3) e2) e1) e0)) stops_nil) (Eq.mp (syncm_Sync_Tick.B1_eq out_b out_l out_c id0 term last lt p w N1  R ) h)
def syncm_Sync_Tick.L1b (out_b : Option Addr) (out_l out_c : Nat) (id0 term last lt p : Int) (w : World)  (N1 : Option Addr → Nat → Nat → Int → Int → Int → Int → Int → World → Prop) (R : Option Addr → Nat → Nat → World → Prop) : Prop :=
  Bm (decide (p < (3 : Int))) (
    Bm (p != id0) (
      New (.cells #[.int .i64 (1 : Int), .int .i64 id0, .int .i64 p, .int .i64 term, .int .i64 last, .int .i64 lt, .int .i64 (0 : Int), .bool false, .slice none 0 0, .string (ByteArray.mk #[])] 101) w fun b62 w1 =>
      Append 101 (.agg #[.int .i64 (0 : Int), .int .i64 (0 : Int), .int .i64 (0 : Int), .int .i64 (0 : Int), .int .i64 (0 : Int), .int .i64 (0 : Int), .int .i64 (0 : Int), .bool false, .slice none 0 0, .string (ByteArray.mk #[])]) 10 104 out_b out_l out_c (some ⟨b62, 0, none⟩) 1 w1 fun b63 c63 w2 =>
      syncm_Sync_Tick.B1 b63 (out_l + 1) c63 id0 term last lt p w2 N1 R) (
      syncm_Sync_Tick.B1 out_b out_l out_c id0 term last lt p w N1 R)) (
    R out_b out_l out_c w)
theorem syncm_Sync_Tick.L1b_eq (out_b : Option Addr) (out_l out_c : Nat) (id0 term last lt p : Int) (w : World)  (N1 : Option Addr → Nat → Nat → Int → Int → Int → Int → Int → World → Prop) (R : Option Addr → Nat → Nat → World → Prop) (sB1 : Option Addr → Nat → Nat → Int → Int → Int → Int → Int → World → Prop) :
    (
  Bm (decide (p < (3 : Int))) (
    Bm (p != id0) (
      New (.cells #[.int .i64 (1 : Int), .int .i64 id0, .int .i64 p, .int .i64 term, .int .i64 last, .int .i64 lt, .int .i64 (0 : Int), .bool false, .slice none 0 0, .string (ByteArray.mk #[])] 101) w fun b62 w1 =>
      Append 101 (.agg #[.int .i64 (0 : Int), .int .i64 (0 : Int), .int .i64 (0 : Int), .int .i64 (0 : Int), .int .i64 (0 : Int), .int .i64 (0 : Int), .int .i64 (0 : Int), .bool false, .slice none 0 0, .string (ByteArray.mk #[])]) 10 104 out_b out_l out_c (some ⟨b62, 0, none⟩) 1 w1 fun b63 c63 w2 =>
      sB1 b63 (out_l + 1) c63 id0 term last lt p w2) (
      sB1 out_b out_l out_c id0 term last lt p w)) (
    R out_b out_l out_c w)) = kstep Tryz.prog 65 Tryz.f81.results.toList (Tryz.f81.body.getD .skip) (syncm_Sync_Tick.RV R) (kvc Tryz.prog 65 Tryz.f81.results.toList (Tryz.f81.body.getD .skip) (syncm_Sync_Tick.RV R) [([(0, [1, 1, 1, 1, 1, 0, 1, 0, 1, 1, 1, 1, 1, 0, 0, 1, 1]), (2, [1, 1, 1, 1, 1, 0, 1, 0, 1, 1, 1, 1, 1, 0, 0]), (1, [0]), (0, [1, 1, 1, 1, 1, 1])], fun σ w => dL (slotOf σ 4) fun out_b_ out_l_ out_c_ => dI .i64 (slotOf σ 5) fun id0_ => dI .i64 (slotOf σ 6) fun term_ => dI .i64 (slotOf σ 7) fun last_ => dI .i64 (slotOf σ 8) fun lt_ => dI .i64 (slotOf σ 10) fun p_ => sB1 out_b_ out_l_ out_c_ id0_ term_ last_ lt_ p_ w)] 2000) [(0, [1, 1, 1, 1, 1, 0, 1, 0, 1, 1, 1, 1, 1, 0, 0]), (2, [1, 1, 1, 1, 1, 0, 1, 0, 1, 1, 1, 1, 1, 0, 0]), (1, [0]), (0, [1, 1, 1, 1, 1, 1])] [(4, .slice out_b out_l out_c), (5, .int .i64 id0), (6, .int .i64 term), (7, .int .i64 last), (8, .int .i64 lt), (10, .int .i64 p)] w := by kernel_rfl
theorem syncm_Sync_Tick.L1b_sound {R : Option Addr → Nat → Nat → World → Prop} {N1 : Option Addr → Nat → Nat → Int → Int → Int → Int → Int → World → Prop} (hN1 : ∀ out_b out_l out_c id0 term last lt p w, N1 out_b out_l out_c id0 term last lt p w → KW Tryz.prog 81 65 (syncm_Sync_Tick.RV R) ([(0, [1, 1, 1, 1, 1, 0, 1, 0, 1, 1, 1, 1, 1, 0, 0]), (2, [1, 1, 1, 1, 1, 0, 1, 0, 1, 1, 1, 1, 1, 0, 0]), (1, [0]), (0, [1, 1, 1, 1, 1, 1])].map (toItem (Tryz.f81.body.getD .skip))) [(4, .slice out_b out_l out_c), (5, .int .i64 id0), (6, .int .i64 term), (7, .int .i64 last), (8, .int .i64 lt), (10, .int .i64 p)] w) (out_b : Option Addr) (out_l out_c : Nat) (id0 term last lt p : Int) (w : World) (h : syncm_Sync_Tick.L1b out_b out_l out_c id0 term last lt p w  N1 R) :
    KW Tryz.prog 81 65 (syncm_Sync_Tick.RV R) ([(0, [1, 1, 1, 1, 1, 0, 1, 0, 1, 1, 1, 1, 1, 0, 0]), (2, [1, 1, 1, 1, 1, 0, 1, 0, 1, 1, 1, 1, 1, 0, 0]), (1, [0]), (0, [1, 1, 1, 1, 1, 1])].map (toItem (Tryz.f81.body.getD .skip))) [(4, .slice out_b out_l out_c), (5, .int .i64 id0), (6, .int .i64 term), (7, .int .i64 last), (8, .int .i64 lt), (10, .int .i64 p)] w := by
  exact block_spec Tryz.func81 Tryz.mixed (stops_cons (fun σ w h => by
      obtain ⟨out_b_, out_l_, out_c_, e0, h⟩ := dL_elim h
      obtain ⟨id0_, e1, h⟩ := dI_elim h
      obtain ⟨term_, e2, h⟩ := dI_elim h
      obtain ⟨last_, e3, h⟩ := dI_elim h
      obtain ⟨lt_, e4, h⟩ := dI_elim h
      obtain ⟨p_, e5, h⟩ := dI_elim h
      exact (syncm_Sync_Tick.B1_sound hN1 out_b_ out_l_ out_c_ id0_ term_ last_ lt_ p_ w h).weaken (Sub.cons (Sub.cons (Sub.cons (Sub.cons (Sub.cons (Sub.cons (Sub.nil _) e5) e4) e3) e2) e1) e0)) stops_nil) (Eq.mp (syncm_Sync_Tick.L1b_eq out_b out_l out_c id0 term last lt p w  N1 R (fun out_b_ out_l_ out_c_ id0_ term_ last_ lt_ p_ w => syncm_Sync_Tick.B1 out_b_ out_l_ out_c_ id0_ term_ last_ lt_ p_ w N1 R)) h)
def syncm_Sync_Tick.L1 (out_b : Option Addr) (out_l out_c : Nat) (id0 term last lt p : Int) (w : World)  (R : Option Addr → Nat → Nat → World → Prop) : Prop :=
  ∃ (I : Nat → Option Addr → Nat → Nat → Int → Int → Int → Int → Int → World → Prop) (m : Nat), I m out_b out_l out_c id0 term last lt p w ∧ ∀ m out_b out_l out_c id0 term last lt p w, I m out_b out_l out_c id0 term last lt p w → syncm_Sync_Tick.L1b out_b out_l out_c id0 term last lt p w  (fun out_b' out_l' out_c' id0' term' last' lt' p' w' => ∃ m', m' < m ∧ I m' out_b' out_l' out_c' id0' term' last' lt' p' w') R
theorem syncm_Sync_Tick.L1_sound {R : Option Addr → Nat → Nat → World → Prop}  (out_b : Option Addr) (out_l out_c : Nat) (id0 term last lt p : Int) (w : World) (h : syncm_Sync_Tick.L1 out_b out_l out_c id0 term last lt p w  R) :
    KW Tryz.prog 81 65 (syncm_Sync_Tick.RV R) ([(0, [1, 1, 1, 1, 1, 0, 1, 0, 1, 1, 1, 1, 1, 0, 0]), (2, [1, 1, 1, 1, 1, 0, 1, 0, 1, 1, 1, 1, 1, 0, 0]), (1, [0]), (0, [1, 1, 1, 1, 1, 1])].map (toItem (Tryz.f81.body.getD .skip))) [(4, .slice out_b out_l out_c), (5, .int .i64 id0), (6, .int .i64 term), (7, .int .i64 last), (8, .int .i64 lt), (10, .int .i64 p)] w := by
  obtain ⟨I, m, hBase, hr⟩ := h
  refine KW.loop (fun m σ w => ∃ (out_b : Option Addr) (out_l out_c : Nat) (id0 term last lt p : Int), σ = [(4, .slice out_b out_l out_c), (5, .int .i64 id0), (6, .int .i64 term), (7, .int .i64 last), (8, .int .i64 lt), (10, .int .i64 p)] ∧ I m out_b out_l out_c id0 term last lt p w) ?_ m _ w ⟨out_b, out_l, out_c, id0, term, last, lt, p, rfl, hBase⟩
  rintro m ih σ w ⟨out_b, out_l, out_c, id0, term, last, lt, p, rfl, hI⟩
  exact syncm_Sync_Tick.L1b_sound  (N1 := fun out_b' out_l' out_c' id0' term' last' lt' p' w' => ∃ m', m' < m ∧ I m' out_b' out_l' out_c' id0' term' last' lt' p' w') (fun out_b' out_l' out_c' id0' term' last' lt' p' w' hx => by obtain ⟨m', hlt, hI'⟩ := hx; exact ih m' hlt _ w' ⟨out_b', out_l', out_c', id0', term', last', lt', p', rfl, hI'⟩) out_b out_l out_c id0 term last lt p w (hr m out_b out_l out_c id0 term last lt p w hI)
def syncm_Sync_Tick.B0 (s : Option Addr) (w : World)   (R : Option Addr → Nat → Nat → World → Prop) : Prop :=
  Pn s fun a =>
  LdP (a.add 1) w fun x14 =>
  electm_Elect_Tick.Call x14 w fun r15 w1 =>
  syncm_Sync_persist.Call s w1 fun w2 =>
  Bm (r15 == (2 : Int)) (
    syncm_Sync_sendAll.Call s w2 fun r21_b r21_l r21_c w3 =>
    R r21_b r21_l r21_c w3) (
    Bm (r15 == (1 : Int)) (
      Pn s fun a_1 =>
      LdP (a_1.add 1) w2 fun x27 =>
      electm_Elect_Id.Call x27 w2 fun r28 w4 =>
      Pn s fun a_2 =>
      LdP (a_2.add 1) w4 fun x32 =>
      electm_Elect_Term.Call x32 w4 fun r33 w5 =>
      Pn s fun a_3 =>
      LdP a_3 w5 fun x37 =>
      rlogm_Log_Last.Call x37 w5 fun r38 w6 =>
      Pn s fun a_4 =>
      LdP a_4 w6 fun x43 =>
      rlogm_Log_TermAt.Call x43 r38 w6 fun r45_0 r45_1 w7 =>
      syncm_Sync_Tick.L1 none 0 0 r28 r33 r38 r45_0 (0 : Int) w7  R) (
      R none 0 0 w2))
theorem syncm_Sync_Tick.B0_eq (s : Option Addr) (w : World)   (R : Option Addr → Nat → Nat → World → Prop) (sL1 : Option Addr → Nat → Nat → Int → Int → Int → Int → Int → World → Prop) :
    (
  Pn s fun a =>
  LdP (a.add 1) w fun x14 =>
  electm_Elect_Tick.Call x14 w fun r15 w1 =>
  syncm_Sync_persist.Call s w1 fun w2 =>
  Bm (r15 == (2 : Int)) (
    syncm_Sync_sendAll.Call s w2 fun r21_b r21_l r21_c w3 =>
    R r21_b r21_l r21_c w3) (
    Bm (r15 == (1 : Int)) (
      Pn s fun a_1 =>
      LdP (a_1.add 1) w2 fun x27 =>
      electm_Elect_Id.Call x27 w2 fun r28 w4 =>
      Pn s fun a_2 =>
      LdP (a_2.add 1) w4 fun x32 =>
      electm_Elect_Term.Call x32 w4 fun r33 w5 =>
      Pn s fun a_3 =>
      LdP a_3 w5 fun x37 =>
      rlogm_Log_Last.Call x37 w5 fun r38 w6 =>
      Pn s fun a_4 =>
      LdP a_4 w6 fun x43 =>
      rlogm_Log_TermAt.Call x43 r38 w6 fun r45_0 r45_1 w7 =>
      sL1 none 0 0 r28 r33 r38 r45_0 (0 : Int) w7) (
      R none 0 0 w2))) = kstep Tryz.prog 65 Tryz.f81.results.toList (Tryz.f81.body.getD .skip) (syncm_Sync_Tick.RV R) (kvc Tryz.prog 65 Tryz.f81.results.toList (Tryz.f81.body.getD .skip) (syncm_Sync_Tick.RV R) [([(0, [1, 1, 1, 1, 1, 0, 1, 0, 1, 1, 1, 1, 1, 0, 0]), (2, [1, 1, 1, 1, 1, 0, 1, 0, 1, 1, 1, 1, 1, 0, 0]), (1, [0]), (0, [1, 1, 1, 1, 1, 1])], fun σ w => dL (slotOf σ 4) fun out_b_ out_l_ out_c_ => dI .i64 (slotOf σ 5) fun id0_ => dI .i64 (slotOf σ 6) fun term_ => dI .i64 (slotOf σ 7) fun last_ => dI .i64 (slotOf σ 8) fun lt_ => dI .i64 (slotOf σ 10) fun p_ => sL1 out_b_ out_l_ out_c_ id0_ term_ last_ lt_ p_ w)] 2000) [(0, [])] [(0, .pointer s)] w := by kernel_rfl
theorem syncm_Sync_Tick.B0_sound {R : Option Addr → Nat → Nat → World → Prop}  (s : Option Addr) (w : World) (h : syncm_Sync_Tick.B0 s w   R) :
    KW Tryz.prog 81 65 (syncm_Sync_Tick.RV R) ([(0, [])].map (toItem (Tryz.f81.body.getD .skip))) [(0, .pointer s)] w := by
  exact block_spec Tryz.func81 Tryz.mixed (stops_cons (fun σ w h => by
      obtain ⟨out_b_, out_l_, out_c_, e0, h⟩ := dL_elim h
      obtain ⟨id0_, e1, h⟩ := dI_elim h
      obtain ⟨term_, e2, h⟩ := dI_elim h
      obtain ⟨last_, e3, h⟩ := dI_elim h
      obtain ⟨lt_, e4, h⟩ := dI_elim h
      obtain ⟨p_, e5, h⟩ := dI_elim h
      exact (syncm_Sync_Tick.L1_sound  out_b_ out_l_ out_c_ id0_ term_ last_ lt_ p_ w h).weaken (Sub.cons (Sub.cons (Sub.cons (Sub.cons (Sub.cons (Sub.cons (Sub.nil _) e5) e4) e3) e2) e1) e0)) stops_nil) (Eq.mp (syncm_Sync_Tick.B0_eq s w   R (fun out_b_ out_l_ out_c_ id0_ term_ last_ lt_ p_ w => syncm_Sync_Tick.L1 out_b_ out_l_ out_c_ id0_ term_ last_ lt_ p_ w  R)) h)
theorem syncm_Sync_Tick.sound (s : Option Addr) (w : World) (R : Option Addr → Nat → Nat → World → Prop) (h : syncm_Sync_Tick.B0 s w R) : syncm_Sync_Tick.Call s w R := by
  have hc := calls_of_block (args := #[.pointer s]) Tryz.func81 (body := (Tryz.f81.body.getD .skip)) (by kernel_rfl) (by kernel_rfl) (args_slot _) (syncm_Sync_Tick.B0_sound s w h)
  exact hc.mono fun e w' he => by
    obtain ⟨v, rfl, hv⟩ := he
    exact syncm_Sync_Tick.RV_elim hv
def nodem_Node_after.B6 (n msgs_b : Option Addr) (msgs_l msgs_c t4 d : Nat) (v : Option Addr) (a c : Nat) (t137 : Bool) (w : World) (N1 : Option Addr → Option Addr → Nat → Nat → Nat → Nat → Option Addr → World → Prop)  (R : Int → Option Addr → Nat → Nat → Option Addr → Nat → Nat → World → Prop) : Prop :=
  Bm t137 (
    LdL ⟨d, 2, none⟩ w fun x139_b x139_l x139_c =>
    LdI .i64 ⟨c, 1, none⟩ w fun x141 =>
    LdI .i64 ⟨c, 2, none⟩ w fun x143 =>
    LdI .i64 ⟨a, 0, none⟩ w fun x144_0 =>
    LdS ⟨a, 1, none⟩ w fun x144_1 =>
    New (.cells #[.int .i64 x141, .int .i64 x143, .int .i64 x144_0, .string x144_1] 95) w fun b146 w1 =>
    Append 95 (.agg #[.int .i64 (0 : Int), .int .i64 (0 : Int), .int .i64 (0 : Int), .string (ByteArray.mk #[])]) 4 40 x139_b x139_l x139_c (some ⟨b146, 0, none⟩) 1 w1 fun b147 c147 w2 =>
    Sts [.slice b147 (x139_l + 1) c147] ⟨d, 2, none⟩ 0 w2 fun w3 =>
    LdI .i64 ⟨c, 1, none⟩ w3.drew fun x151 =>
    LdI .i64 ⟨c, 1, none⟩ w3.drew fun x154 =>
    LdI .i64 ⟨c, 1, none⟩ w3.drew fun x157 =>
    Pn n fun a_1 =>
    (0 ≤ x151 ∧ x151 < ((3 : Nat) : Int)) ∧
    Pn n fun a_2 =>
    Pn n fun a_3 =>
    Sts [.bool false] (Addr.add (a_1.add 3) (x151.toNat * 1)) 0 w3.drew fun w4 =>
    w4.cell? ⟨c, 1, none⟩ = some (.int .i64 x157) ∧
    w4.cell? ⟨c, 1, none⟩ = some (.int .i64 x154) ∧
    (0 ≤ x154 ∧ x154 < ((3 : Nat) : Int)) ∧
    Sts [.int .i64 (0 : Int)] (Addr.add (a_2.add 6) (x154.toNat * 1)) 0 w4 fun w5 =>
    w5.cell? ⟨c, 1, none⟩ = some (.int .i64 x157) ∧
    (0 ≤ x157 ∧ x157 < ((3 : Nat) : Int)) ∧
    Sts [.int .i64 (0 : Int)] (Addr.add (a_3.add 9) (x157.toNat * 1)) 0 w5 fun w6 =>
    N1 n msgs_b msgs_l msgs_c t4 d v w6) (
    N1 n msgs_b msgs_l msgs_c t4 d v w)
theorem nodem_Node_after.B6_eq (n msgs_b : Option Addr) (msgs_l msgs_c t4 d : Nat) (v : Option Addr) (a c : Nat) (t137 : Bool) (w : World) (N1 : Option Addr → Option Addr → Nat → Nat → Nat → Nat → Option Addr → World → Prop)  (R : Int → Option Addr → Nat → Nat → Option Addr → Nat → Nat → World → Prop)  :
    (
  Bm t137 (
    LdL ⟨d, 2, none⟩ w fun x139_b x139_l x139_c =>
    LdI .i64 ⟨c, 1, none⟩ w fun x141 =>
    LdI .i64 ⟨c, 2, none⟩ w fun x143 =>
    LdI .i64 ⟨a, 0, none⟩ w fun x144_0 =>
    LdS ⟨a, 1, none⟩ w fun x144_1 =>
    New (.cells #[.int .i64 x141, .int .i64 x143, .int .i64 x144_0, .string x144_1] 95) w fun b146 w1 =>
    Append 95 (.agg #[.int .i64 (0 : Int), .int .i64 (0 : Int), .int .i64 (0 : Int), .string (ByteArray.mk #[])]) 4 40 x139_b x139_l x139_c (some ⟨b146, 0, none⟩) 1 w1 fun b147 c147 w2 =>
    Sts [.slice b147 (x139_l + 1) c147] ⟨d, 2, none⟩ 0 w2 fun w3 =>
    LdI .i64 ⟨c, 1, none⟩ w3.drew fun x151 =>
    LdI .i64 ⟨c, 1, none⟩ w3.drew fun x154 =>
    LdI .i64 ⟨c, 1, none⟩ w3.drew fun x157 =>
    Pn n fun a_1 =>
    (0 ≤ x151 ∧ x151 < ((3 : Nat) : Int)) ∧
    Pn n fun a_2 =>
    Pn n fun a_3 =>
    Sts [.bool false] (Addr.add (a_1.add 3) (x151.toNat * 1)) 0 w3.drew fun w4 =>
    w4.cell? ⟨c, 1, none⟩ = some (.int .i64 x157) ∧
    w4.cell? ⟨c, 1, none⟩ = some (.int .i64 x154) ∧
    (0 ≤ x154 ∧ x154 < ((3 : Nat) : Int)) ∧
    Sts [.int .i64 (0 : Int)] (Addr.add (a_2.add 6) (x154.toNat * 1)) 0 w4 fun w5 =>
    w5.cell? ⟨c, 1, none⟩ = some (.int .i64 x157) ∧
    (0 ≤ x157 ∧ x157 < ((3 : Nat) : Int)) ∧
    Sts [.int .i64 (0 : Int)] (Addr.add (a_3.add 9) (x157.toNat * 1)) 0 w5 fun w6 =>
    N1 n msgs_b msgs_l msgs_c t4 d v w6) (
    N1 n msgs_b msgs_l msgs_c t4 d v w)) = kstep Tryz.prog 250 Tryz.f82.results.toList (Tryz.f82.body.getD .skip) (nodem_Node_after.RV R) (kvc Tryz.prog 250 Tryz.f82.results.toList (Tryz.f82.body.getD .skip) (nodem_Node_after.RV R) [([(0, [1, 1, 1, 1, 1, 0, 0, 0]), (2, [1, 1, 1, 1, 1, 0, 0, 0]), (1, [0]), (0, [1, 1, 1, 1, 1, 1])], fun σ w => dP (slotOf σ 0) fun n_ => dL (slotOf σ 1) fun msgs_b_ msgs_l_ msgs_c_ => dK (slotOf σ 4) fun t4_ => dK (slotOf σ 5) fun d_ => dP (slotOf σ 6) fun v_ => N1 n_ msgs_b_ msgs_l_ msgs_c_ t4_ d_ v_ w)] 2000) [(0, [1, 1, 1, 1, 1, 0, 0, 0, 1, 0, 1, 1, 1, 1, 1, 1]), (1, [1]), (2, [1, 1, 1, 1, 1, 0, 0, 0]), (1, [0]), (0, [1, 1, 1, 1, 1, 1])] [(0, .pointer n), (1, .slice msgs_b msgs_l msgs_c), (4, .pointer (some ⟨t4, 0, none⟩)), (5, .pointer (some ⟨d, 0, none⟩)), (6, .pointer v), (10, .pointer (some ⟨a, 0, none⟩)), (11, .pointer (some ⟨c, 0, none⟩)), (137, .bool t137)] w := by kernel_rfl
theorem nodem_Node_after.B6_sound {R : Int → Option Addr → Nat → Nat → Option Addr → Nat → Nat → World → Prop} {N1 : Option Addr → Option Addr → Nat → Nat → Nat → Nat → Option Addr → World → Prop} (hN1 : ∀ n msgs_b msgs_l msgs_c t4 d v w, N1 n msgs_b msgs_l msgs_c t4 d v w → KW Tryz.prog 82 250 (nodem_Node_after.RV R) ([(0, [1, 1, 1, 1, 1, 0, 0, 0]), (2, [1, 1, 1, 1, 1, 0, 0, 0]), (1, [0]), (0, [1, 1, 1, 1, 1, 1])].map (toItem (Tryz.f82.body.getD .skip))) [(0, .pointer n), (1, .slice msgs_b msgs_l msgs_c), (4, .pointer (some ⟨t4, 0, none⟩)), (5, .pointer (some ⟨d, 0, none⟩)), (6, .pointer v)] w) (n msgs_b : Option Addr) (msgs_l msgs_c t4 d : Nat) (v : Option Addr) (a c : Nat) (t137 : Bool) (w : World) (h : nodem_Node_after.B6 n msgs_b msgs_l msgs_c t4 d v a c t137 w N1  R) :
    KW Tryz.prog 82 250 (nodem_Node_after.RV R) ([(0, [1, 1, 1, 1, 1, 0, 0, 0, 1, 0, 1, 1, 1, 1, 1, 1]), (1, [1]), (2, [1, 1, 1, 1, 1, 0, 0, 0]), (1, [0]), (0, [1, 1, 1, 1, 1, 1])].map (toItem (Tryz.f82.body.getD .skip))) [(0, .pointer n), (1, .slice msgs_b msgs_l msgs_c), (4, .pointer (some ⟨t4, 0, none⟩)), (5, .pointer (some ⟨d, 0, none⟩)), (6, .pointer v), (10, .pointer (some ⟨a, 0, none⟩)), (11, .pointer (some ⟨c, 0, none⟩)), (137, .bool t137)] w := by
  exact block_spec Tryz.func82 Tryz.mixed (stops_cons (fun σ w h => by
      obtain ⟨n_, e0, h⟩ := dP_elim h
      obtain ⟨msgs_b_, msgs_l_, msgs_c_, e1, h⟩ := dL_elim h
      obtain ⟨t4_, e2, h⟩ := dK_elim h
      obtain ⟨d_, e3, h⟩ := dK_elim h
      obtain ⟨v_, e4, h⟩ := dP_elim h
      exact (hN1 n_ msgs_b_ msgs_l_ msgs_c_ t4_ d_ v_ w h).weaken (Sub.cons (Sub.cons (Sub.cons (Sub.cons (Sub.cons (Sub.nil _) e4) e3) e2) e1) e0)) stops_nil) (Eq.mp (nodem_Node_after.B6_eq n msgs_b msgs_l msgs_c t4 d v a c t137 w N1  R ) h)
def nodem_Node_after.B4 (n msgs_b : Option Addr) (msgs_l msgs_c t4 d : Nat) (v : Option Addr) (e a : Nat) (w : World) (N1 : Option Addr → Option Addr → Nat → Nat → Nat → Nat → Option Addr → World → Prop)  (R : Int → Option Addr → Nat → Nat → Option Addr → Nat → Nat → World → Prop) : Prop :=
  LdS ⟨e, 1, none⟩ w fun x111 =>
  api_DecodeCmd.Call x111 w fun r112_0_0 r112_0_1 r112_0_2 r112_0_3 r112_0_4 r112_0_5 r112_1 w1 =>
  New (.cells #[.int .i64 (0 : Int), .int .i64 (0 : Int), .int .i64 (0 : Int), .string (ByteArray.mk #[]), .string (ByteArray.mk #[]), .string (ByteArray.mk #[])] 87) w1 fun c_ w2 =>
  Sts [.int .i64 r112_0_0, .int .i64 r112_0_1, .int .i64 r112_0_2, .string r112_0_3, .string r112_0_4, .string r112_0_5] ⟨c_, 0, none⟩ 0 w2 fun w3 =>
  Bm (r112_1 == (0 : Int)) (
    LdI .i64 ⟨c_, 1, none⟩ w3.drew fun x120 =>
    Pn n fun a_1 =>
    (0 ≤ x120 ∧ x120 < ((3 : Nat) : Int)) ∧
    LdB (Addr.add (a_1.add 3) (x120.toNat * 1)) w3.drew fun x124 =>
    Bm x124 (
      LdI .i64 ⟨c_, 1, none⟩ w3.drew fun x129 =>
      Pn n fun a_2 =>
      (0 ≤ x129 ∧ x129 < ((3 : Nat) : Int)) ∧
      LdI .i64 (Addr.add (a_2.add 6) (x129.toNat * 1)) w3.drew fun x133 =>
      LdI .i64 ⟨c_, 2, none⟩ w3.drew fun x135 =>
      nodem_Node_after.B6 n msgs_b msgs_l msgs_c t4 d v a c_ (x133 == x135) w3.drew N1 R) (
      nodem_Node_after.B6 n msgs_b msgs_l msgs_c t4 d v a c_ false w3.drew N1 R)) (
    nodem_Node_after.B6 n msgs_b msgs_l msgs_c t4 d v a c_ false w3.drew N1 R)
theorem nodem_Node_after.B4_eq (n msgs_b : Option Addr) (msgs_l msgs_c t4 d : Nat) (v : Option Addr) (e a : Nat) (w : World) (N1 : Option Addr → Option Addr → Nat → Nat → Nat → Nat → Option Addr → World → Prop)  (R : Int → Option Addr → Nat → Nat → Option Addr → Nat → Nat → World → Prop) (sB6 : Option Addr → Option Addr → Nat → Nat → Nat → Nat → Option Addr → Nat → Nat → Bool → World → Prop) :
    (
  LdS ⟨e, 1, none⟩ w fun x111 =>
  api_DecodeCmd.Call x111 w fun r112_0_0 r112_0_1 r112_0_2 r112_0_3 r112_0_4 r112_0_5 r112_1 w1 =>
  New (.cells #[.int .i64 (0 : Int), .int .i64 (0 : Int), .int .i64 (0 : Int), .string (ByteArray.mk #[]), .string (ByteArray.mk #[]), .string (ByteArray.mk #[])] 87) w1 fun c_ w2 =>
  Sts [.int .i64 r112_0_0, .int .i64 r112_0_1, .int .i64 r112_0_2, .string r112_0_3, .string r112_0_4, .string r112_0_5] ⟨c_, 0, none⟩ 0 w2 fun w3 =>
  Bm (r112_1 == (0 : Int)) (
    LdI .i64 ⟨c_, 1, none⟩ w3.drew fun x120 =>
    Pn n fun a_1 =>
    (0 ≤ x120 ∧ x120 < ((3 : Nat) : Int)) ∧
    LdB (Addr.add (a_1.add 3) (x120.toNat * 1)) w3.drew fun x124 =>
    Bm x124 (
      LdI .i64 ⟨c_, 1, none⟩ w3.drew fun x129 =>
      Pn n fun a_2 =>
      (0 ≤ x129 ∧ x129 < ((3 : Nat) : Int)) ∧
      LdI .i64 (Addr.add (a_2.add 6) (x129.toNat * 1)) w3.drew fun x133 =>
      LdI .i64 ⟨c_, 2, none⟩ w3.drew fun x135 =>
      sB6 n msgs_b msgs_l msgs_c t4 d v a c_ (x133 == x135) w3.drew) (
      sB6 n msgs_b msgs_l msgs_c t4 d v a c_ false w3.drew)) (
    sB6 n msgs_b msgs_l msgs_c t4 d v a c_ false w3.drew)) = kstep Tryz.prog 250 Tryz.f82.results.toList (Tryz.f82.body.getD .skip) (nodem_Node_after.RV R) (kvc Tryz.prog 250 Tryz.f82.results.toList (Tryz.f82.body.getD .skip) (nodem_Node_after.RV R) [([(0, [1, 1, 1, 1, 1, 0, 0, 0, 1, 0, 1, 1, 1, 1, 1, 1]), (1, [1]), (2, [1, 1, 1, 1, 1, 0, 0, 0]), (1, [0]), (0, [1, 1, 1, 1, 1, 1])], fun σ w => dP (slotOf σ 0) fun n_ => dL (slotOf σ 1) fun msgs_b_ msgs_l_ msgs_c_ => dK (slotOf σ 4) fun t4_ => dK (slotOf σ 5) fun d_ => dP (slotOf σ 6) fun v_ => dK (slotOf σ 10) fun a_ => dK (slotOf σ 11) fun c_ => dB (slotOf σ 137) fun t137_ => sB6 n_ msgs_b_ msgs_l_ msgs_c_ t4_ d_ v_ a_ c_ t137_ w)] 2000) [(0, [1, 1, 1, 1, 1, 0, 0, 0, 1, 0, 1, 1, 1, 1]), (1, [1]), (2, [1, 1, 1, 1, 1, 0, 0, 0]), (1, [0]), (0, [1, 1, 1, 1, 1, 1])] [(0, .pointer n), (1, .slice msgs_b msgs_l msgs_c), (4, .pointer (some ⟨t4, 0, none⟩)), (5, .pointer (some ⟨d, 0, none⟩)), (6, .pointer v), (8, .pointer (some ⟨e, 0, none⟩)), (10, .pointer (some ⟨a, 0, none⟩))] w := by kernel_rfl
theorem nodem_Node_after.B4_sound {R : Int → Option Addr → Nat → Nat → Option Addr → Nat → Nat → World → Prop} {N1 : Option Addr → Option Addr → Nat → Nat → Nat → Nat → Option Addr → World → Prop} (hN1 : ∀ n msgs_b msgs_l msgs_c t4 d v w, N1 n msgs_b msgs_l msgs_c t4 d v w → KW Tryz.prog 82 250 (nodem_Node_after.RV R) ([(0, [1, 1, 1, 1, 1, 0, 0, 0]), (2, [1, 1, 1, 1, 1, 0, 0, 0]), (1, [0]), (0, [1, 1, 1, 1, 1, 1])].map (toItem (Tryz.f82.body.getD .skip))) [(0, .pointer n), (1, .slice msgs_b msgs_l msgs_c), (4, .pointer (some ⟨t4, 0, none⟩)), (5, .pointer (some ⟨d, 0, none⟩)), (6, .pointer v)] w) (n msgs_b : Option Addr) (msgs_l msgs_c t4 d : Nat) (v : Option Addr) (e a : Nat) (w : World) (h : nodem_Node_after.B4 n msgs_b msgs_l msgs_c t4 d v e a w N1  R) :
    KW Tryz.prog 82 250 (nodem_Node_after.RV R) ([(0, [1, 1, 1, 1, 1, 0, 0, 0, 1, 0, 1, 1, 1, 1]), (1, [1]), (2, [1, 1, 1, 1, 1, 0, 0, 0]), (1, [0]), (0, [1, 1, 1, 1, 1, 1])].map (toItem (Tryz.f82.body.getD .skip))) [(0, .pointer n), (1, .slice msgs_b msgs_l msgs_c), (4, .pointer (some ⟨t4, 0, none⟩)), (5, .pointer (some ⟨d, 0, none⟩)), (6, .pointer v), (8, .pointer (some ⟨e, 0, none⟩)), (10, .pointer (some ⟨a, 0, none⟩))] w := by
  exact block_spec Tryz.func82 Tryz.mixed (stops_cons (fun σ w h => by
      obtain ⟨n_, e0, h⟩ := dP_elim h
      obtain ⟨msgs_b_, msgs_l_, msgs_c_, e1, h⟩ := dL_elim h
      obtain ⟨t4_, e2, h⟩ := dK_elim h
      obtain ⟨d_, e3, h⟩ := dK_elim h
      obtain ⟨v_, e4, h⟩ := dP_elim h
      obtain ⟨a_, e5, h⟩ := dK_elim h
      obtain ⟨c_, e6, h⟩ := dK_elim h
      obtain ⟨t137_, e7, h⟩ := dB_elim h
      exact (nodem_Node_after.B6_sound hN1 n_ msgs_b_ msgs_l_ msgs_c_ t4_ d_ v_ a_ c_ t137_ w h).weaken (Sub.cons (Sub.cons (Sub.cons (Sub.cons (Sub.cons (Sub.cons (Sub.cons (Sub.cons (Sub.nil _) e7) e6) e5) e4) e3) e2) e1) e0)) stops_nil) (Eq.mp (nodem_Node_after.B4_eq n msgs_b msgs_l msgs_c t4 d v e a w N1  R (fun n_ msgs_b_ msgs_l_ msgs_c_ t4_ d_ v_ a_ c_ t137_ w => nodem_Node_after.B6 n_ msgs_b_ msgs_l_ msgs_c_ t4_ d_ v_ a_ c_ t137_ w N1 R)) h)
def nodem_Node_after.B3 (n msgs_b : Option Addr) (msgs_l msgs_c t4 d : Nat) (v : Option Addr) (e : Nat) (w : World) (N1 : Option Addr → Option Addr → Nat → Nat → Nat → Nat → Option Addr → World → Prop)  (R : Int → Option Addr → Nat → Nat → Option Addr → Nat → Nat → World → Prop) : Prop :=
  LdS ⟨e, 1, none⟩ w fun x100 =>
  Bm (x100.toList == (ByteArray.mk #[]).toList) (
    N1 n msgs_b msgs_l msgs_c t4 d v w) (
    Pn n fun a =>
    LdP (a.add 1) w.drew fun x105 =>
    LdS ⟨e, 1, none⟩ w.drew fun x107 =>
    ((
      kvm_KV_Apply.Call x105 x107 w.drew fun r108_0 r108_1 w1 =>
      New (.cells #[.int .i64 (0 : Int), .string (ByteArray.mk #[])] 93) w1 fun a_ w2 =>
      Sts [.int .i64 r108_0, .string r108_1] ⟨a_, 0, none⟩ 0 w2 fun w3 =>
      nodem_Node_after.B4 n msgs_b msgs_l msgs_c t4 d v e a_ w3 N1 R) ∧ (
      New (.cells #[.int .i64 (0 : Int), .string (ByteArray.mk #[])] 93) w.drew fun a__1 w4 =>
      w4.cell? ⟨e, 1, none⟩ = some (.string x107) ∧
      w4.cell? (a.add 1) = some (.pointer x105) ∧
      kvm_KV_Apply.Call x105 x107 w4 fun r108_0_1 r108_1_1 w5 =>
      Sts [.int .i64 r108_0_1, .string r108_1_1] ⟨a__1, 0, none⟩ 0 w5 fun w6 =>
      nodem_Node_after.B4 n msgs_b msgs_l msgs_c t4 d v e a__1 w6 N1 R)))
theorem nodem_Node_after.B3_eq (n msgs_b : Option Addr) (msgs_l msgs_c t4 d : Nat) (v : Option Addr) (e : Nat) (w : World) (N1 : Option Addr → Option Addr → Nat → Nat → Nat → Nat → Option Addr → World → Prop)  (R : Int → Option Addr → Nat → Nat → Option Addr → Nat → Nat → World → Prop) (sB4 : Option Addr → Option Addr → Nat → Nat → Nat → Nat → Option Addr → Nat → Nat → World → Prop) :
    (
  LdS ⟨e, 1, none⟩ w fun x100 =>
  Bm (x100.toList == (ByteArray.mk #[]).toList) (
    N1 n msgs_b msgs_l msgs_c t4 d v w) (
    Pn n fun a =>
    LdP (a.add 1) w.drew fun x105 =>
    LdS ⟨e, 1, none⟩ w.drew fun x107 =>
    ((
      kvm_KV_Apply.Call x105 x107 w.drew fun r108_0 r108_1 w1 =>
      New (.cells #[.int .i64 (0 : Int), .string (ByteArray.mk #[])] 93) w1 fun a_ w2 =>
      Sts [.int .i64 r108_0, .string r108_1] ⟨a_, 0, none⟩ 0 w2 fun w3 =>
      sB4 n msgs_b msgs_l msgs_c t4 d v e a_ w3) ∧ (
      New (.cells #[.int .i64 (0 : Int), .string (ByteArray.mk #[])] 93) w.drew fun a__1 w4 =>
      w4.cell? ⟨e, 1, none⟩ = some (.string x107) ∧
      w4.cell? (a.add 1) = some (.pointer x105) ∧
      kvm_KV_Apply.Call x105 x107 w4 fun r108_0_1 r108_1_1 w5 =>
      Sts [.int .i64 r108_0_1, .string r108_1_1] ⟨a__1, 0, none⟩ 0 w5 fun w6 =>
      sB4 n msgs_b msgs_l msgs_c t4 d v e a__1 w6)))) = kstep Tryz.prog 250 Tryz.f82.results.toList (Tryz.f82.body.getD .skip) (nodem_Node_after.RV R) (kvc Tryz.prog 250 Tryz.f82.results.toList (Tryz.f82.body.getD .skip) (nodem_Node_after.RV R) [([(0, [1, 1, 1, 1, 1, 0, 0, 0]), (2, [1, 1, 1, 1, 1, 0, 0, 0]), (1, [0]), (0, [1, 1, 1, 1, 1, 1])], fun σ w => dP (slotOf σ 0) fun n_ => dL (slotOf σ 1) fun msgs_b_ msgs_l_ msgs_c_ => dK (slotOf σ 4) fun t4_ => dK (slotOf σ 5) fun d_ => dP (slotOf σ 6) fun v_ => N1 n_ msgs_b_ msgs_l_ msgs_c_ t4_ d_ v_ w),
    ([(0, [1, 1, 1, 1, 1, 0, 0, 0, 1, 0, 1, 1, 1, 1]), (1, [1]), (2, [1, 1, 1, 1, 1, 0, 0, 0]), (1, [0]), (0, [1, 1, 1, 1, 1, 1])], fun σ w => dP (slotOf σ 0) fun n_ => dL (slotOf σ 1) fun msgs_b_ msgs_l_ msgs_c_ => dK (slotOf σ 4) fun t4_ => dK (slotOf σ 5) fun d_ => dP (slotOf σ 6) fun v_ => dK (slotOf σ 8) fun e_ => dK (slotOf σ 10) fun a_ => sB4 n_ msgs_b_ msgs_l_ msgs_c_ t4_ d_ v_ e_ a_ w)] 2000) [(0, [1, 1, 1, 1, 1, 0, 0, 0, 1, 0, 1, 1]), (1, [1]), (2, [1, 1, 1, 1, 1, 0, 0, 0]), (1, [0]), (0, [1, 1, 1, 1, 1, 1])] [(0, .pointer n), (1, .slice msgs_b msgs_l msgs_c), (4, .pointer (some ⟨t4, 0, none⟩)), (5, .pointer (some ⟨d, 0, none⟩)), (6, .pointer v), (8, .pointer (some ⟨e, 0, none⟩))] w := by kernel_rfl
theorem nodem_Node_after.B3_sound {R : Int → Option Addr → Nat → Nat → Option Addr → Nat → Nat → World → Prop} {N1 : Option Addr → Option Addr → Nat → Nat → Nat → Nat → Option Addr → World → Prop} (hN1 : ∀ n msgs_b msgs_l msgs_c t4 d v w, N1 n msgs_b msgs_l msgs_c t4 d v w → KW Tryz.prog 82 250 (nodem_Node_after.RV R) ([(0, [1, 1, 1, 1, 1, 0, 0, 0]), (2, [1, 1, 1, 1, 1, 0, 0, 0]), (1, [0]), (0, [1, 1, 1, 1, 1, 1])].map (toItem (Tryz.f82.body.getD .skip))) [(0, .pointer n), (1, .slice msgs_b msgs_l msgs_c), (4, .pointer (some ⟨t4, 0, none⟩)), (5, .pointer (some ⟨d, 0, none⟩)), (6, .pointer v)] w) (n msgs_b : Option Addr) (msgs_l msgs_c t4 d : Nat) (v : Option Addr) (e : Nat) (w : World) (h : nodem_Node_after.B3 n msgs_b msgs_l msgs_c t4 d v e w N1  R) :
    KW Tryz.prog 82 250 (nodem_Node_after.RV R) ([(0, [1, 1, 1, 1, 1, 0, 0, 0, 1, 0, 1, 1]), (1, [1]), (2, [1, 1, 1, 1, 1, 0, 0, 0]), (1, [0]), (0, [1, 1, 1, 1, 1, 1])].map (toItem (Tryz.f82.body.getD .skip))) [(0, .pointer n), (1, .slice msgs_b msgs_l msgs_c), (4, .pointer (some ⟨t4, 0, none⟩)), (5, .pointer (some ⟨d, 0, none⟩)), (6, .pointer v), (8, .pointer (some ⟨e, 0, none⟩))] w := by
  exact block_spec Tryz.func82 Tryz.mixed (stops_cons (fun σ w h => by
      obtain ⟨n_, e0, h⟩ := dP_elim h
      obtain ⟨msgs_b_, msgs_l_, msgs_c_, e1, h⟩ := dL_elim h
      obtain ⟨t4_, e2, h⟩ := dK_elim h
      obtain ⟨d_, e3, h⟩ := dK_elim h
      obtain ⟨v_, e4, h⟩ := dP_elim h
      exact (hN1 n_ msgs_b_ msgs_l_ msgs_c_ t4_ d_ v_ w h).weaken (Sub.cons (Sub.cons (Sub.cons (Sub.cons (Sub.cons (Sub.nil _) e4) e3) e2) e1) e0)) (stops_cons (fun σ w h => by
      obtain ⟨n_, e0, h⟩ := dP_elim h
      obtain ⟨msgs_b_, msgs_l_, msgs_c_, e1, h⟩ := dL_elim h
      obtain ⟨t4_, e2, h⟩ := dK_elim h
      obtain ⟨d_, e3, h⟩ := dK_elim h
      obtain ⟨v_, e4, h⟩ := dP_elim h
      obtain ⟨e_, e5, h⟩ := dK_elim h
      obtain ⟨a_, e6, h⟩ := dK_elim h
      exact (nodem_Node_after.B4_sound hN1 n_ msgs_b_ msgs_l_ msgs_c_ t4_ d_ v_ e_ a_ w h).weaken (Sub.cons (Sub.cons (Sub.cons (Sub.cons (Sub.cons (Sub.cons (Sub.cons (Sub.nil _) e6) e5) e4) e3) e2) e1) e0)) stops_nil)) (Eq.mp (nodem_Node_after.B3_eq n msgs_b msgs_l msgs_c t4 d v e w N1  R (fun n_ msgs_b_ msgs_l_ msgs_c_ t4_ d_ v_ e_ a_ w => nodem_Node_after.B4 n_ msgs_b_ msgs_l_ msgs_c_ t4_ d_ v_ e_ a_ w N1 R)) h)
def nodem_Node_after.B7 (n msgs_b : Option Addr) (msgs_l msgs_c t4 d : Nat) (v : Option Addr) (c : Int) (w : World) (N2 : Option Addr → Option Addr → Nat → Nat → Nat → Nat → Option Addr → Int → World → Prop)  (R : Int → Option Addr → Nat → Nat → Option Addr → Nat → Nat → World → Prop) : Prop :=
  N2 n msgs_b msgs_l msgs_c t4 d v (IntKind.i64.wrap (c + (1 : Int))) w
theorem nodem_Node_after.B7_eq (n msgs_b : Option Addr) (msgs_l msgs_c t4 d : Nat) (v : Option Addr) (c : Int) (w : World) (N2 : Option Addr → Option Addr → Nat → Nat → Nat → Nat → Option Addr → Int → World → Prop)  (R : Int → Option Addr → Nat → Nat → Option Addr → Nat → Nat → World → Prop)  :
    (
  N2 n msgs_b msgs_l msgs_c t4 d v (IntKind.i64.wrap (c + (1 : Int))) w) = kstep Tryz.prog 250 Tryz.f82.results.toList (Tryz.f82.body.getD .skip) (nodem_Node_after.RV R) (kvc Tryz.prog 250 Tryz.f82.results.toList (Tryz.f82.body.getD .skip) (nodem_Node_after.RV R) [([(0, [1, 1, 1, 1, 1, 1, 0, 1, 0, 0]), (2, [1, 1, 1, 1, 1, 1, 0, 1, 0, 0]), (1, [2]), (0, [1, 1, 1, 1, 1, 1, 1])], fun σ w => dP (slotOf σ 0) fun n_ => dL (slotOf σ 1) fun msgs_b_ msgs_l_ msgs_c_ => dK (slotOf σ 4) fun t4_ => dK (slotOf σ 5) fun d_ => dP (slotOf σ 6) fun v_ => dI .i64 (slotOf σ 13) fun c_ => N2 n_ msgs_b_ msgs_l_ msgs_c_ t4_ d_ v_ c_ w)] 2000) [(0, [1, 1, 1, 1, 1, 1, 0, 1, 0, 0, 1, 1]), (2, [1, 1, 1, 1, 1, 1, 0, 1, 0, 0]), (1, [2]), (0, [1, 1, 1, 1, 1, 1, 1])] [(0, .pointer n), (1, .slice msgs_b msgs_l msgs_c), (4, .pointer (some ⟨t4, 0, none⟩)), (5, .pointer (some ⟨d, 0, none⟩)), (6, .pointer v), (13, .int .i64 c)] w := by kernel_rfl
theorem nodem_Node_after.B7_sound {R : Int → Option Addr → Nat → Nat → Option Addr → Nat → Nat → World → Prop} {N2 : Option Addr → Option Addr → Nat → Nat → Nat → Nat → Option Addr → Int → World → Prop} (hN2 : ∀ n msgs_b msgs_l msgs_c t4 d v c w, N2 n msgs_b msgs_l msgs_c t4 d v c w → KW Tryz.prog 82 250 (nodem_Node_after.RV R) ([(0, [1, 1, 1, 1, 1, 1, 0, 1, 0, 0]), (2, [1, 1, 1, 1, 1, 1, 0, 1, 0, 0]), (1, [2]), (0, [1, 1, 1, 1, 1, 1, 1])].map (toItem (Tryz.f82.body.getD .skip))) [(0, .pointer n), (1, .slice msgs_b msgs_l msgs_c), (4, .pointer (some ⟨t4, 0, none⟩)), (5, .pointer (some ⟨d, 0, none⟩)), (6, .pointer v), (13, .int .i64 c)] w) (n msgs_b : Option Addr) (msgs_l msgs_c t4 d : Nat) (v : Option Addr) (c : Int) (w : World) (h : nodem_Node_after.B7 n msgs_b msgs_l msgs_c t4 d v c w N2  R) :
    KW Tryz.prog 82 250 (nodem_Node_after.RV R) ([(0, [1, 1, 1, 1, 1, 1, 0, 1, 0, 0, 1, 1]), (2, [1, 1, 1, 1, 1, 1, 0, 1, 0, 0]), (1, [2]), (0, [1, 1, 1, 1, 1, 1, 1])].map (toItem (Tryz.f82.body.getD .skip))) [(0, .pointer n), (1, .slice msgs_b msgs_l msgs_c), (4, .pointer (some ⟨t4, 0, none⟩)), (5, .pointer (some ⟨d, 0, none⟩)), (6, .pointer v), (13, .int .i64 c)] w := by
  exact block_spec Tryz.func82 Tryz.mixed (stops_cons (fun σ w h => by
      obtain ⟨n_, e0, h⟩ := dP_elim h
      obtain ⟨msgs_b_, msgs_l_, msgs_c_, e1, h⟩ := dL_elim h
      obtain ⟨t4_, e2, h⟩ := dK_elim h
      obtain ⟨d_, e3, h⟩ := dK_elim h
      obtain ⟨v_, e4, h⟩ := dP_elim h
      obtain ⟨c_, e5, h⟩ := dI_elim h
      exact (hN2 n_ msgs_b_ msgs_l_ msgs_c_ t4_ d_ v_ c_ w h).weaken (Sub.cons (Sub.cons (Sub.cons (Sub.cons (Sub.cons (Sub.cons (Sub.nil _) e5) e4) e3) e2) e1) e0)) stops_nil) (Eq.mp (nodem_Node_after.B7_eq n msgs_b msgs_l msgs_c t4 d v c w N2  R ) h)
def nodem_Node_after.B5 (n msgs_b : Option Addr) (msgs_l msgs_c t4 d : Nat) (v : Option Addr) (c : Int) (t196 : Bool) (w : World) (N2 : Option Addr → Option Addr → Nat → Nat → Nat → Nat → Option Addr → Int → World → Prop)  (R : Int → Option Addr → Nat → Nat → Option Addr → Nat → Nat → World → Prop) : Prop :=
  Bm t196 (
    LdL ⟨d, 2, none⟩ w.drew fun x198_b x198_l x198_c =>
    Pn n fun a =>
    (0 ≤ c ∧ c < ((3 : Nat) : Int)) ∧
    LdI .i64 (Addr.add (a.add 6) (c.toNat * 1)) w.drew fun x205 =>
    New (.cells #[.int .i64 c, .int .i64 x205, .int .i64 (13 : Int), .string (ByteArray.mk #[])] 95) w.drew fun b208 w1 =>
    w1.cell? ⟨d, 2, none⟩ = some (.slice x198_b x198_l x198_c) ∧
    Append 95 (.agg #[.int .i64 (0 : Int), .int .i64 (0 : Int), .int .i64 (0 : Int), .string (ByteArray.mk #[])]) 4 40 x198_b x198_l x198_c (some ⟨b208, 0, none⟩) 1 w1 fun b209 c209 w2 =>
    Sts [.slice b209 (x198_l + 1) c209] ⟨d, 2, none⟩ 0 w2 fun w3 =>
    Pn n fun a_1 =>
    (0 ≤ c ∧ c < ((3 : Nat) : Int)) ∧
    Pn n fun a_2 =>
    Pn n fun a_3 =>
    Sts [.bool false] (Addr.add (a_1.add 3) (c.toNat * 1)) 0 w3.drew fun w4 =>
    (0 ≤ c ∧ c < ((3 : Nat) : Int)) ∧
    Sts [.int .i64 (0 : Int)] (Addr.add (a_2.add 6) (c.toNat * 1)) 0 w4 fun w5 =>
    (0 ≤ c ∧ c < ((3 : Nat) : Int)) ∧
    Sts [.int .i64 (0 : Int)] (Addr.add (a_3.add 9) (c.toNat * 1)) 0 w5 fun w6 =>
    nodem_Node_after.B7 n msgs_b msgs_l msgs_c t4 d v c w6 N2 R) (
    nodem_Node_after.B7 n msgs_b msgs_l msgs_c t4 d v c w N2 R)
theorem nodem_Node_after.B5_eq (n msgs_b : Option Addr) (msgs_l msgs_c t4 d : Nat) (v : Option Addr) (c : Int) (t196 : Bool) (w : World) (N2 : Option Addr → Option Addr → Nat → Nat → Nat → Nat → Option Addr → Int → World → Prop)  (R : Int → Option Addr → Nat → Nat → Option Addr → Nat → Nat → World → Prop) (sB7 : Option Addr → Option Addr → Nat → Nat → Nat → Nat → Option Addr → Int → World → Prop) :
    (
  Bm t196 (
    LdL ⟨d, 2, none⟩ w.drew fun x198_b x198_l x198_c =>
    Pn n fun a =>
    (0 ≤ c ∧ c < ((3 : Nat) : Int)) ∧
    LdI .i64 (Addr.add (a.add 6) (c.toNat * 1)) w.drew fun x205 =>
    New (.cells #[.int .i64 c, .int .i64 x205, .int .i64 (13 : Int), .string (ByteArray.mk #[])] 95) w.drew fun b208 w1 =>
    w1.cell? ⟨d, 2, none⟩ = some (.slice x198_b x198_l x198_c) ∧
    Append 95 (.agg #[.int .i64 (0 : Int), .int .i64 (0 : Int), .int .i64 (0 : Int), .string (ByteArray.mk #[])]) 4 40 x198_b x198_l x198_c (some ⟨b208, 0, none⟩) 1 w1 fun b209 c209 w2 =>
    Sts [.slice b209 (x198_l + 1) c209] ⟨d, 2, none⟩ 0 w2 fun w3 =>
    Pn n fun a_1 =>
    (0 ≤ c ∧ c < ((3 : Nat) : Int)) ∧
    Pn n fun a_2 =>
    Pn n fun a_3 =>
    Sts [.bool false] (Addr.add (a_1.add 3) (c.toNat * 1)) 0 w3.drew fun w4 =>
    (0 ≤ c ∧ c < ((3 : Nat) : Int)) ∧
    Sts [.int .i64 (0 : Int)] (Addr.add (a_2.add 6) (c.toNat * 1)) 0 w4 fun w5 =>
    (0 ≤ c ∧ c < ((3 : Nat) : Int)) ∧
    Sts [.int .i64 (0 : Int)] (Addr.add (a_3.add 9) (c.toNat * 1)) 0 w5 fun w6 =>
    sB7 n msgs_b msgs_l msgs_c t4 d v c w6) (
    sB7 n msgs_b msgs_l msgs_c t4 d v c w)) = kstep Tryz.prog 250 Tryz.f82.results.toList (Tryz.f82.body.getD .skip) (nodem_Node_after.RV R) (kvc Tryz.prog 250 Tryz.f82.results.toList (Tryz.f82.body.getD .skip) (nodem_Node_after.RV R) [([(0, [1, 1, 1, 1, 1, 1, 0, 1, 0, 0, 1, 1]), (2, [1, 1, 1, 1, 1, 1, 0, 1, 0, 0]), (1, [2]), (0, [1, 1, 1, 1, 1, 1, 1])], fun σ w => dP (slotOf σ 0) fun n_ => dL (slotOf σ 1) fun msgs_b_ msgs_l_ msgs_c_ => dK (slotOf σ 4) fun t4_ => dK (slotOf σ 5) fun d_ => dP (slotOf σ 6) fun v_ => dI .i64 (slotOf σ 13) fun c_ => sB7 n_ msgs_b_ msgs_l_ msgs_c_ t4_ d_ v_ c_ w)] 2000) [(0, [1, 1, 1, 1, 1, 1, 0, 1, 0, 0, 1, 0, 0, 1]), (1, [3]), (0, [1, 1, 1, 1, 1, 1, 0, 1, 0, 0, 1, 1]), (2, [1, 1, 1, 1, 1, 1, 0, 1, 0, 0]), (1, [2]), (0, [1, 1, 1, 1, 1, 1, 1])] [(0, .pointer n), (1, .slice msgs_b msgs_l msgs_c), (4, .pointer (some ⟨t4, 0, none⟩)), (5, .pointer (some ⟨d, 0, none⟩)), (6, .pointer v), (13, .int .i64 c), (196, .bool t196)] w := by kernel_rfl
theorem nodem_Node_after.B5_sound {R : Int → Option Addr → Nat → Nat → Option Addr → Nat → Nat → World → Prop} {N2 : Option Addr → Option Addr → Nat → Nat → Nat → Nat → Option Addr → Int → World → Prop} (hN2 : ∀ n msgs_b msgs_l msgs_c t4 d v c w, N2 n msgs_b msgs_l msgs_c t4 d v c w → KW Tryz.prog 82 250 (nodem_Node_after.RV R) ([(0, [1, 1, 1, 1, 1, 1, 0, 1, 0, 0]), (2, [1, 1, 1, 1, 1, 1, 0, 1, 0, 0]), (1, [2]), (0, [1, 1, 1, 1, 1, 1, 1])].map (toItem (Tryz.f82.body.getD .skip))) [(0, .pointer n), (1, .slice msgs_b msgs_l msgs_c), (4, .pointer (some ⟨t4, 0, none⟩)), (5, .pointer (some ⟨d, 0, none⟩)), (6, .pointer v), (13, .int .i64 c)] w) (n msgs_b : Option Addr) (msgs_l msgs_c t4 d : Nat) (v : Option Addr) (c : Int) (t196 : Bool) (w : World) (h : nodem_Node_after.B5 n msgs_b msgs_l msgs_c t4 d v c t196 w N2  R) :
    KW Tryz.prog 82 250 (nodem_Node_after.RV R) ([(0, [1, 1, 1, 1, 1, 1, 0, 1, 0, 0, 1, 0, 0, 1]), (1, [3]), (0, [1, 1, 1, 1, 1, 1, 0, 1, 0, 0, 1, 1]), (2, [1, 1, 1, 1, 1, 1, 0, 1, 0, 0]), (1, [2]), (0, [1, 1, 1, 1, 1, 1, 1])].map (toItem (Tryz.f82.body.getD .skip))) [(0, .pointer n), (1, .slice msgs_b msgs_l msgs_c), (4, .pointer (some ⟨t4, 0, none⟩)), (5, .pointer (some ⟨d, 0, none⟩)), (6, .pointer v), (13, .int .i64 c), (196, .bool t196)] w := by
  exact block_spec Tryz.func82 Tryz.mixed (stops_cons (fun σ w h => by
      obtain ⟨n_, e0, h⟩ := dP_elim h
      obtain ⟨msgs_b_, msgs_l_, msgs_c_, e1, h⟩ := dL_elim h
      obtain ⟨t4_, e2, h⟩ := dK_elim h
      obtain ⟨d_, e3, h⟩ := dK_elim h
      obtain ⟨v_, e4, h⟩ := dP_elim h
      obtain ⟨c_, e5, h⟩ := dI_elim h
      exact (nodem_Node_after.B7_sound hN2 n_ msgs_b_ msgs_l_ msgs_c_ t4_ d_ v_ c_ w h).weaken (Sub.cons (Sub.cons (Sub.cons (Sub.cons (Sub.cons (Sub.cons (Sub.nil _) e5) e4) e3) e2) e1) e0)) stops_nil) (Eq.mp (nodem_Node_after.B5_eq n msgs_b msgs_l msgs_c t4 d v c t196 w N2  R (fun n_ msgs_b_ msgs_l_ msgs_c_ t4_ d_ v_ c_ w => nodem_Node_after.B7 n_ msgs_b_ msgs_l_ msgs_c_ t4_ d_ v_ c_ w N2 R)) h)
def nodem_Node_after.L3b (msgs_b : Option Addr) (msgs_l msgs_c t4 d : Nat) (i : Int) (w : World)  (N3 : Option Addr → Nat → Nat → Nat → Nat → Int → World → Prop) (R : Int → Option Addr → Nat → Nat → Option Addr → Nat → Nat → World → Prop) : Prop :=
  Bm (decide (i < ((msgs_l : Nat) : Int))) (
    Pn msgs_b fun a =>
    (0 ≤ i ∧ i < ((msgs_l : Nat) : Int)) ∧
    LdI .i64 (Addr.add a (i.toNat * 10)) w fun x235_0 =>
    LdI .i64 ((Addr.add a (i.toNat * 10)).add 1) w fun x235_1 =>
    LdI .i64 ((Addr.add a (i.toNat * 10)).add 2) w fun x235_2 =>
    LdI .i64 ((Addr.add a (i.toNat * 10)).add 3) w fun x235_3 =>
    LdI .i64 ((Addr.add a (i.toNat * 10)).add 4) w fun x235_4 =>
    LdI .i64 ((Addr.add a (i.toNat * 10)).add 5) w fun x235_5 =>
    LdI .i64 ((Addr.add a (i.toNat * 10)).add 6) w fun x235_6 =>
    LdB ((Addr.add a (i.toNat * 10)).add 7) w fun x235_7 =>
    LdL ((Addr.add a (i.toNat * 10)).add 8) w fun x235_8_b x235_8_l x235_8_c =>
    LdS ((Addr.add a (i.toNat * 10)).add 9) w fun x235_9 =>
    api_EncodeMsg.Call x235_0 x235_1 x235_2 x235_3 x235_4 x235_5 x235_6 x235_7 x235_8_b x235_8_l x235_8_c x235_9 w fun r236 w1 =>
    LdL ⟨d, 1, none⟩ w1.drew fun x238_b x238_l x238_c =>
    Pn msgs_b fun a_1 =>
    (0 ≤ i ∧ i < ((msgs_l : Nat) : Int)) ∧
    LdI .i64 ((Addr.add a_1 (i.toNat * 10)).add 2) w1.drew fun x243 =>
    New (.cells #[.int .i64 x243, .string r236] 91) w1.drew fun b246 w2 =>
    w2.cell? ⟨d, 1, none⟩ = some (.slice x238_b x238_l x238_c) ∧
    Append 91 (.agg #[.int .i64 (0 : Int), .string (ByteArray.mk #[])]) 2 24 x238_b x238_l x238_c (some ⟨b246, 0, none⟩) 1 w2 fun b247 c247 w3 =>
    Sts [.slice b247 (x238_l + 1) c247] ⟨d, 1, none⟩ 0 w3 fun w4 =>
    N3 msgs_b msgs_l msgs_c t4 d (IntKind.i64.wrap (i + (1 : Int))) w4) (
    LdI .i64 ⟨d, 0, none⟩ w fun x249_0 =>
    LdL ⟨d, 1, none⟩ w fun x249_1_b x249_1_l x249_1_c =>
    LdL ⟨d, 2, none⟩ w fun x249_2_b x249_2_l x249_2_c =>
    Sts [.int .i64 x249_0, .slice x249_1_b x249_1_l x249_1_c, .slice x249_2_b x249_2_l x249_2_c] ⟨t4, 0, none⟩ 0 w fun w5 =>
    LdI .i64 ⟨t4, 0, none⟩ w5 fun r_0 =>
    LdL ⟨t4, 1, none⟩ w5 fun r_1_b r_1_l r_1_c =>
    LdL ⟨t4, 2, none⟩ w5 fun r_2_b r_2_l r_2_c =>
    R r_0 r_1_b r_1_l r_1_c r_2_b r_2_l r_2_c w5)
theorem nodem_Node_after.L3b_eq (msgs_b : Option Addr) (msgs_l msgs_c t4 d : Nat) (i : Int) (w : World)  (N3 : Option Addr → Nat → Nat → Nat → Nat → Int → World → Prop) (R : Int → Option Addr → Nat → Nat → Option Addr → Nat → Nat → World → Prop)  :
    (
  Bm (decide (i < ((msgs_l : Nat) : Int))) (
    Pn msgs_b fun a =>
    (0 ≤ i ∧ i < ((msgs_l : Nat) : Int)) ∧
    LdI .i64 (Addr.add a (i.toNat * 10)) w fun x235_0 =>
    LdI .i64 ((Addr.add a (i.toNat * 10)).add 1) w fun x235_1 =>
    LdI .i64 ((Addr.add a (i.toNat * 10)).add 2) w fun x235_2 =>
    LdI .i64 ((Addr.add a (i.toNat * 10)).add 3) w fun x235_3 =>
    LdI .i64 ((Addr.add a (i.toNat * 10)).add 4) w fun x235_4 =>
    LdI .i64 ((Addr.add a (i.toNat * 10)).add 5) w fun x235_5 =>
    LdI .i64 ((Addr.add a (i.toNat * 10)).add 6) w fun x235_6 =>
    LdB ((Addr.add a (i.toNat * 10)).add 7) w fun x235_7 =>
    LdL ((Addr.add a (i.toNat * 10)).add 8) w fun x235_8_b x235_8_l x235_8_c =>
    LdS ((Addr.add a (i.toNat * 10)).add 9) w fun x235_9 =>
    api_EncodeMsg.Call x235_0 x235_1 x235_2 x235_3 x235_4 x235_5 x235_6 x235_7 x235_8_b x235_8_l x235_8_c x235_9 w fun r236 w1 =>
    LdL ⟨d, 1, none⟩ w1.drew fun x238_b x238_l x238_c =>
    Pn msgs_b fun a_1 =>
    (0 ≤ i ∧ i < ((msgs_l : Nat) : Int)) ∧
    LdI .i64 ((Addr.add a_1 (i.toNat * 10)).add 2) w1.drew fun x243 =>
    New (.cells #[.int .i64 x243, .string r236] 91) w1.drew fun b246 w2 =>
    w2.cell? ⟨d, 1, none⟩ = some (.slice x238_b x238_l x238_c) ∧
    Append 91 (.agg #[.int .i64 (0 : Int), .string (ByteArray.mk #[])]) 2 24 x238_b x238_l x238_c (some ⟨b246, 0, none⟩) 1 w2 fun b247 c247 w3 =>
    Sts [.slice b247 (x238_l + 1) c247] ⟨d, 1, none⟩ 0 w3 fun w4 =>
    N3 msgs_b msgs_l msgs_c t4 d (IntKind.i64.wrap (i + (1 : Int))) w4) (
    LdI .i64 ⟨d, 0, none⟩ w fun x249_0 =>
    LdL ⟨d, 1, none⟩ w fun x249_1_b x249_1_l x249_1_c =>
    LdL ⟨d, 2, none⟩ w fun x249_2_b x249_2_l x249_2_c =>
    Sts [.int .i64 x249_0, .slice x249_1_b x249_1_l x249_1_c, .slice x249_2_b x249_2_l x249_2_c] ⟨t4, 0, none⟩ 0 w fun w5 =>
    LdI .i64 ⟨t4, 0, none⟩ w5 fun r_0 =>
    LdL ⟨t4, 1, none⟩ w5 fun r_1_b r_1_l r_1_c =>
    LdL ⟨t4, 2, none⟩ w5 fun r_2_b r_2_l r_2_c =>
    R r_0 r_1_b r_1_l r_1_c r_2_b r_2_l r_2_c w5)) = kstep Tryz.prog 250 Tryz.f82.results.toList (Tryz.f82.body.getD .skip) (nodem_Node_after.RV R) (kvc Tryz.prog 250 Tryz.f82.results.toList (Tryz.f82.body.getD .skip) (nodem_Node_after.RV R) [([(0, [1, 1, 1, 1, 1, 1, 1, 0, 1, 0, 0]), (2, [1, 1, 1, 1, 1, 1, 1, 0, 1, 0, 0]), (1, [4]), (0, [1, 1, 1, 1, 1, 1, 1, 1])], fun σ w => dL (slotOf σ 1) fun msgs_b_ msgs_l_ msgs_c_ => dK (slotOf σ 4) fun t4_ => dK (slotOf σ 5) fun d_ => dI .i64 (slotOf σ 14) fun i_ => N3 msgs_b_ msgs_l_ msgs_c_ t4_ d_ i_ w)] 2000) [(0, [1, 1, 1, 1, 1, 1, 1, 0, 1, 0, 0]), (2, [1, 1, 1, 1, 1, 1, 1, 0, 1, 0, 0]), (1, [4]), (0, [1, 1, 1, 1, 1, 1, 1, 1])] [(1, .slice msgs_b msgs_l msgs_c), (4, .pointer (some ⟨t4, 0, none⟩)), (5, .pointer (some ⟨d, 0, none⟩)), (14, .int .i64 i)] w := by kernel_rfl
theorem nodem_Node_after.L3b_sound {R : Int → Option Addr → Nat → Nat → Option Addr → Nat → Nat → World → Prop} {N3 : Option Addr → Nat → Nat → Nat → Nat → Int → World → Prop} (hN3 : ∀ msgs_b msgs_l msgs_c t4 d i w, N3 msgs_b msgs_l msgs_c t4 d i w → KW Tryz.prog 82 250 (nodem_Node_after.RV R) ([(0, [1, 1, 1, 1, 1, 1, 1, 0, 1, 0, 0]), (2, [1, 1, 1, 1, 1, 1, 1, 0, 1, 0, 0]), (1, [4]), (0, [1, 1, 1, 1, 1, 1, 1, 1])].map (toItem (Tryz.f82.body.getD .skip))) [(1, .slice msgs_b msgs_l msgs_c), (4, .pointer (some ⟨t4, 0, none⟩)), (5, .pointer (some ⟨d, 0, none⟩)), (14, .int .i64 i)] w) (msgs_b : Option Addr) (msgs_l msgs_c t4 d : Nat) (i : Int) (w : World) (h : nodem_Node_after.L3b msgs_b msgs_l msgs_c t4 d i w  N3 R) :
    KW Tryz.prog 82 250 (nodem_Node_after.RV R) ([(0, [1, 1, 1, 1, 1, 1, 1, 0, 1, 0, 0]), (2, [1, 1, 1, 1, 1, 1, 1, 0, 1, 0, 0]), (1, [4]), (0, [1, 1, 1, 1, 1, 1, 1, 1])].map (toItem (Tryz.f82.body.getD .skip))) [(1, .slice msgs_b msgs_l msgs_c), (4, .pointer (some ⟨t4, 0, none⟩)), (5, .pointer (some ⟨d, 0, none⟩)), (14, .int .i64 i)] w := by
  exact block_spec Tryz.func82 Tryz.mixed (stops_cons (fun σ w h => by
      obtain ⟨msgs_b_, msgs_l_, msgs_c_, e0, h⟩ := dL_elim h
      obtain ⟨t4_, e1, h⟩ := dK_elim h
      obtain ⟨d_, e2, h⟩ := dK_elim h
      obtain ⟨i_, e3, h⟩ := dI_elim h
      exact (hN3 msgs_b_ msgs_l_ msgs_c_ t4_ d_ i_ w h).weaken (Sub.cons (Sub.cons (Sub.cons (Sub.cons (Sub.nil _) e3) e2) e1) e0)) stops_nil) (Eq.mp (nodem_Node_after.L3b_eq msgs_b msgs_l msgs_c t4 d i w  N3 R ) h)
def nodem_Node_after.L3 (msgs_b : Option Addr) (msgs_l msgs_c t4 d : Nat) (i : Int) (w : World)  (R : Int → Option Addr → Nat → Nat → Option Addr → Nat → Nat → World → Prop) : Prop :=
  ∃ (I : Nat → Option Addr → Nat → Nat → Nat → Nat → Int → World → Prop) (m : Nat), I m msgs_b msgs_l msgs_c t4 d i w ∧ ∀ m msgs_b msgs_l msgs_c t4 d i w, I m msgs_b msgs_l msgs_c t4 d i w → nodem_Node_after.L3b msgs_b msgs_l msgs_c t4 d i w  (fun msgs_b' msgs_l' msgs_c' t4' d' i' w' => ∃ m', m' < m ∧ I m' msgs_b' msgs_l' msgs_c' t4' d' i' w') R
theorem nodem_Node_after.L3_sound {R : Int → Option Addr → Nat → Nat → Option Addr → Nat → Nat → World → Prop}  (msgs_b : Option Addr) (msgs_l msgs_c t4 d : Nat) (i : Int) (w : World) (h : nodem_Node_after.L3 msgs_b msgs_l msgs_c t4 d i w  R) :
    KW Tryz.prog 82 250 (nodem_Node_after.RV R) ([(0, [1, 1, 1, 1, 1, 1, 1, 0, 1, 0, 0]), (2, [1, 1, 1, 1, 1, 1, 1, 0, 1, 0, 0]), (1, [4]), (0, [1, 1, 1, 1, 1, 1, 1, 1])].map (toItem (Tryz.f82.body.getD .skip))) [(1, .slice msgs_b msgs_l msgs_c), (4, .pointer (some ⟨t4, 0, none⟩)), (5, .pointer (some ⟨d, 0, none⟩)), (14, .int .i64 i)] w := by
  obtain ⟨I, m, hBase, hr⟩ := h
  refine KW.loop (fun m σ w => ∃ (msgs_b : Option Addr) (msgs_l msgs_c t4 d : Nat) (i : Int), σ = [(1, .slice msgs_b msgs_l msgs_c), (4, .pointer (some ⟨t4, 0, none⟩)), (5, .pointer (some ⟨d, 0, none⟩)), (14, .int .i64 i)] ∧ I m msgs_b msgs_l msgs_c t4 d i w) ?_ m _ w ⟨msgs_b, msgs_l, msgs_c, t4, d, i, rfl, hBase⟩
  rintro m ih σ w ⟨msgs_b, msgs_l, msgs_c, t4, d, i, rfl, hI⟩
  exact nodem_Node_after.L3b_sound  (N3 := fun msgs_b' msgs_l' msgs_c' t4' d' i' w' => ∃ m', m' < m ∧ I m' msgs_b' msgs_l' msgs_c' t4' d' i' w') (fun msgs_b' msgs_l' msgs_c' t4' d' i' w' hx => by obtain ⟨m', hlt, hI'⟩ := hx; exact ih m' hlt _ w' ⟨msgs_b', msgs_l', msgs_c', t4', d', i', rfl, hI'⟩) msgs_b msgs_l msgs_c t4 d i w (hr m msgs_b msgs_l msgs_c t4 d i w hI)
def nodem_Node_after.L2b (n msgs_b : Option Addr) (msgs_l msgs_c t4 d : Nat) (v : Option Addr) (c : Int) (w : World)  (N2 : Option Addr → Option Addr → Nat → Nat → Nat → Nat → Option Addr → Int → World → Prop) (R : Int → Option Addr → Nat → Nat → Option Addr → Nat → Nat → World → Prop) : Prop :=
  Bm (decide (c < (3 : Int))) (
    Pn n fun a =>
    (0 ≤ c ∧ c < ((3 : Nat) : Int)) ∧
    LdB (Addr.add (a.add 3) (c.toNat * 1)) w.drew fun x176 =>
    Bm x176 (
      Pn v fun a_1 =>
      LdI .i64 (a_1.add 3) w.drew fun x181 =>
      Bm (x181 != (2 : Int)) (
        nodem_Node_after.B5 n msgs_b msgs_l msgs_c t4 d v c true w.drew N2 R) (
        Pn n fun a_2 =>
        (0 ≤ c ∧ c < ((3 : Nat) : Int)) ∧
        LdI .i64 (Addr.add (a_2.add 9) (c.toNat * 1)) w.drew fun x189 =>
        Pn n fun a_3 =>
        LdI .i64 (a_3.add 2) w.drew fun x193 =>
        nodem_Node_after.B5 n msgs_b msgs_l msgs_c t4 d v c (decide (x189 ≤ x193)) w.drew N2 R)) (
      nodem_Node_after.B5 n msgs_b msgs_l msgs_c t4 d v c false w.drew N2 R)) (
    nodem_Node_after.L3 msgs_b msgs_l msgs_c t4 d (0 : Int) w  R)
theorem nodem_Node_after.L2b_eq (n msgs_b : Option Addr) (msgs_l msgs_c t4 d : Nat) (v : Option Addr) (c : Int) (w : World)  (N2 : Option Addr → Option Addr → Nat → Nat → Nat → Nat → Option Addr → Int → World → Prop) (R : Int → Option Addr → Nat → Nat → Option Addr → Nat → Nat → World → Prop) (sB5 : Option Addr → Option Addr → Nat → Nat → Nat → Nat → Option Addr → Int → Bool → World → Prop) (sL3 : Option Addr → Nat → Nat → Nat → Nat → Int → World → Prop) :
    (
  Bm (decide (c < (3 : Int))) (
    Pn n fun a =>
    (0 ≤ c ∧ c < ((3 : Nat) : Int)) ∧
    LdB (Addr.add (a.add 3) (c.toNat * 1)) w.drew fun x176 =>
    Bm x176 (
      Pn v fun a_1 =>
      LdI .i64 (a_1.add 3) w.drew fun x181 =>
      Bm (x181 != (2 : Int)) (
        sB5 n msgs_b msgs_l msgs_c t4 d v c true w.drew) (
        Pn n fun a_2 =>
        (0 ≤ c ∧ c < ((3 : Nat) : Int)) ∧
        LdI .i64 (Addr.add (a_2.add 9) (c.toNat * 1)) w.drew fun x189 =>
        Pn n fun a_3 =>
        LdI .i64 (a_3.add 2) w.drew fun x193 =>
        sB5 n msgs_b msgs_l msgs_c t4 d v c (decide (x189 ≤ x193)) w.drew)) (
      sB5 n msgs_b msgs_l msgs_c t4 d v c false w.drew)) (
    sL3 msgs_b msgs_l msgs_c t4 d (0 : Int) w)) = kstep Tryz.prog 250 Tryz.f82.results.toList (Tryz.f82.body.getD .skip) (nodem_Node_after.RV R) (kvc Tryz.prog 250 Tryz.f82.results.toList (Tryz.f82.body.getD .skip) (nodem_Node_after.RV R) [([(0, [1, 1, 1, 1, 1, 1, 0, 1, 0, 0, 1, 0, 0, 1]), (1, [3]), (0, [1, 1, 1, 1, 1, 1, 0, 1, 0, 0, 1, 1]), (2, [1, 1, 1, 1, 1, 1, 0, 1, 0, 0]), (1, [2]), (0, [1, 1, 1, 1, 1, 1, 1])], fun σ w => dP (slotOf σ 0) fun n_ => dL (slotOf σ 1) fun msgs_b_ msgs_l_ msgs_c_ => dK (slotOf σ 4) fun t4_ => dK (slotOf σ 5) fun d_ => dP (slotOf σ 6) fun v_ => dI .i64 (slotOf σ 13) fun c_ => dB (slotOf σ 196) fun t196_ => sB5 n_ msgs_b_ msgs_l_ msgs_c_ t4_ d_ v_ c_ t196_ w),
    ([(0, [1, 1, 1, 1, 1, 1, 1, 0, 1, 0, 0]), (2, [1, 1, 1, 1, 1, 1, 1, 0, 1, 0, 0]), (1, [4]), (0, [1, 1, 1, 1, 1, 1, 1, 1])], fun σ w => dL (slotOf σ 1) fun msgs_b_ msgs_l_ msgs_c_ => dK (slotOf σ 4) fun t4_ => dK (slotOf σ 5) fun d_ => dI .i64 (slotOf σ 14) fun i_ => sL3 msgs_b_ msgs_l_ msgs_c_ t4_ d_ i_ w)] 2000) [(0, [1, 1, 1, 1, 1, 1, 0, 1, 0, 0]), (2, [1, 1, 1, 1, 1, 1, 0, 1, 0, 0]), (1, [2]), (0, [1, 1, 1, 1, 1, 1, 1])] [(0, .pointer n), (1, .slice msgs_b msgs_l msgs_c), (4, .pointer (some ⟨t4, 0, none⟩)), (5, .pointer (some ⟨d, 0, none⟩)), (6, .pointer v), (13, .int .i64 c)] w := by kernel_rfl
theorem nodem_Node_after.L2b_sound {R : Int → Option Addr → Nat → Nat → Option Addr → Nat → Nat → World → Prop} {N2 : Option Addr → Option Addr → Nat → Nat → Nat → Nat → Option Addr → Int → World → Prop} (hN2 : ∀ n msgs_b msgs_l msgs_c t4 d v c w, N2 n msgs_b msgs_l msgs_c t4 d v c w → KW Tryz.prog 82 250 (nodem_Node_after.RV R) ([(0, [1, 1, 1, 1, 1, 1, 0, 1, 0, 0]), (2, [1, 1, 1, 1, 1, 1, 0, 1, 0, 0]), (1, [2]), (0, [1, 1, 1, 1, 1, 1, 1])].map (toItem (Tryz.f82.body.getD .skip))) [(0, .pointer n), (1, .slice msgs_b msgs_l msgs_c), (4, .pointer (some ⟨t4, 0, none⟩)), (5, .pointer (some ⟨d, 0, none⟩)), (6, .pointer v), (13, .int .i64 c)] w) (n msgs_b : Option Addr) (msgs_l msgs_c t4 d : Nat) (v : Option Addr) (c : Int) (w : World) (h : nodem_Node_after.L2b n msgs_b msgs_l msgs_c t4 d v c w  N2 R) :
    KW Tryz.prog 82 250 (nodem_Node_after.RV R) ([(0, [1, 1, 1, 1, 1, 1, 0, 1, 0, 0]), (2, [1, 1, 1, 1, 1, 1, 0, 1, 0, 0]), (1, [2]), (0, [1, 1, 1, 1, 1, 1, 1])].map (toItem (Tryz.f82.body.getD .skip))) [(0, .pointer n), (1, .slice msgs_b msgs_l msgs_c), (4, .pointer (some ⟨t4, 0, none⟩)), (5, .pointer (some ⟨d, 0, none⟩)), (6, .pointer v), (13, .int .i64 c)] w := by
  exact block_spec Tryz.func82 Tryz.mixed (stops_cons (fun σ w h => by
      obtain ⟨n_, e0, h⟩ := dP_elim h
      obtain ⟨msgs_b_, msgs_l_, msgs_c_, e1, h⟩ := dL_elim h
      obtain ⟨t4_, e2, h⟩ := dK_elim h
      obtain ⟨d_, e3, h⟩ := dK_elim h
      obtain ⟨v_, e4, h⟩ := dP_elim h
      obtain ⟨c_, e5, h⟩ := dI_elim h
      obtain ⟨t196_, e6, h⟩ := dB_elim h
      exact (nodem_Node_after.B5_sound hN2 n_ msgs_b_ msgs_l_ msgs_c_ t4_ d_ v_ c_ t196_ w h).weaken (Sub.cons (Sub.cons (Sub.cons (Sub.cons (Sub.cons (Sub.cons (Sub.cons (Sub.nil _) e6) e5) e4) e3) e2) e1) e0)) (stops_cons (fun σ w h => by
      obtain ⟨msgs_b_, msgs_l_, msgs_c_, e0, h⟩ := dL_elim h
      obtain ⟨t4_, e1, h⟩ := dK_elim h
      obtain ⟨d_, e2, h⟩ := dK_elim h
      obtain ⟨i_, e3, h⟩ := dI_elim h
      exact (nodem_Node_after.L3_sound  msgs_b_ msgs_l_ msgs_c_ t4_ d_ i_ w h).weaken (Sub.cons (Sub.cons (Sub.cons (Sub.cons (Sub.nil _) e3) e2) e1) e0)) stops_nil)) (Eq.mp (nodem_Node_after.L2b_eq n msgs_b msgs_l msgs_c t4 d v c w  N2 R (fun n_ msgs_b_ msgs_l_ msgs_c_ t4_ d_ v_ c_ t196_ w => nodem_Node_after.B5 n_ msgs_b_ msgs_l_ msgs_c_ t4_ d_ v_ c_ t196_ w N2 R) (fun msgs_b_ msgs_l_ msgs_c_ t4_ d_ i_ w => nodem_Node_after.L3 msgs_b_ msgs_l_ msgs_c_ t4_ d_ i_ w  R)) h)
def nodem_Node_after.L2 (n msgs_b : Option Addr) (msgs_l msgs_c t4 d : Nat) (v : Option Addr) (c : Int) (w : World)  (R : Int → Option Addr → Nat → Nat → Option Addr → Nat → Nat → World → Prop) : Prop :=
  ∃ (I : Nat → Option Addr → Option Addr → Nat → Nat → Nat → Nat → Option Addr → Int → World → Prop) (m : Nat), I m n msgs_b msgs_l msgs_c t4 d v c w ∧ ∀ m n msgs_b msgs_l msgs_c t4 d v c w, I m n msgs_b msgs_l msgs_c t4 d v c w → nodem_Node_after.L2b n msgs_b msgs_l msgs_c t4 d v c w  (fun n' msgs_b' msgs_l' msgs_c' t4' d' v' c' w' => ∃ m', m' < m ∧ I m' n' msgs_b' msgs_l' msgs_c' t4' d' v' c' w') R
theorem nodem_Node_after.L2_sound {R : Int → Option Addr → Nat → Nat → Option Addr → Nat → Nat → World → Prop}  (n msgs_b : Option Addr) (msgs_l msgs_c t4 d : Nat) (v : Option Addr) (c : Int) (w : World) (h : nodem_Node_after.L2 n msgs_b msgs_l msgs_c t4 d v c w  R) :
    KW Tryz.prog 82 250 (nodem_Node_after.RV R) ([(0, [1, 1, 1, 1, 1, 1, 0, 1, 0, 0]), (2, [1, 1, 1, 1, 1, 1, 0, 1, 0, 0]), (1, [2]), (0, [1, 1, 1, 1, 1, 1, 1])].map (toItem (Tryz.f82.body.getD .skip))) [(0, .pointer n), (1, .slice msgs_b msgs_l msgs_c), (4, .pointer (some ⟨t4, 0, none⟩)), (5, .pointer (some ⟨d, 0, none⟩)), (6, .pointer v), (13, .int .i64 c)] w := by
  obtain ⟨I, m, hBase, hr⟩ := h
  refine KW.loop (fun m σ w => ∃ (n msgs_b : Option Addr) (msgs_l msgs_c t4 d : Nat) (v : Option Addr) (c : Int), σ = [(0, .pointer n), (1, .slice msgs_b msgs_l msgs_c), (4, .pointer (some ⟨t4, 0, none⟩)), (5, .pointer (some ⟨d, 0, none⟩)), (6, .pointer v), (13, .int .i64 c)] ∧ I m n msgs_b msgs_l msgs_c t4 d v c w) ?_ m _ w ⟨n, msgs_b, msgs_l, msgs_c, t4, d, v, c, rfl, hBase⟩
  rintro m ih σ w ⟨n, msgs_b, msgs_l, msgs_c, t4, d, v, c, rfl, hI⟩
  exact nodem_Node_after.L2b_sound  (N2 := fun n' msgs_b' msgs_l' msgs_c' t4' d' v' c' w' => ∃ m', m' < m ∧ I m' n' msgs_b' msgs_l' msgs_c' t4' d' v' c' w') (fun n' msgs_b' msgs_l' msgs_c' t4' d' v' c' w' hx => by obtain ⟨m', hlt, hI'⟩ := hx; exact ih m' hlt _ w' ⟨n', msgs_b', msgs_l', msgs_c', t4', d', v', c', rfl, hI'⟩) n msgs_b msgs_l msgs_c t4 d v c w (hr m n msgs_b msgs_l msgs_c t4 d v c w hI)
def nodem_Node_after.L1b (n msgs_b : Option Addr) (msgs_l msgs_c t4 d : Nat) (v : Option Addr) (w : World)  (N1 : Option Addr → Option Addr → Nat → Nat → Nat → Nat → Option Addr → World → Prop) (R : Int → Option Addr → Nat → Nat → Option Addr → Nat → Nat → World → Prop) : Prop :=
  Pn n fun a =>
  LdI .i64 (a.add 2) w.drew fun x74 =>
  Pn v fun a_1 =>
  LdI .i64 (a_1.add 9) w.drew fun x78 =>
  Bm (decide (x74 < x78)) (
    Pn n fun a_2 =>
    LdI .i64 (a_2.add 2) w.drew fun x83 =>
    Pn n fun a_3 =>
    Sts [.int .i64 (IntKind.i64.wrap (x83 + (1 : Int)))] (a_3.add 2) 0 w.drew fun w1 =>
    Pn n fun a_4 =>
    LdP a_4 w1.drew fun x91 =>
    Pn n fun a_5 =>
    LdI .i64 (a_5.add 2) w1.drew fun x95 =>
    ((
      syncm_Sync_At.Call x91 x95 w1.drew fun r96_0_0 r96_0_1 r96_1 w2 =>
      New (.cells #[.int .i64 (0 : Int), .string (ByteArray.mk #[])] 155) w2 fun e_ w3 =>
      Sts [.int .i64 r96_0_0, .string r96_0_1] ⟨e_, 0, none⟩ 0 w3 fun w4 =>
      nodem_Node_after.B3 n msgs_b msgs_l msgs_c t4 d v e_ w4 N1 R) ∧ (
      New (.cells #[.int .i64 (0 : Int), .string (ByteArray.mk #[])] 155) w1.drew fun e__1 w5 =>
      w5.cell? (a_5.add 2) = some (.int .i64 x95) ∧
      w5.cell? a_4 = some (.pointer x91) ∧
      syncm_Sync_At.Call x91 x95 w5 fun r96_0_0_1 r96_0_1_1 r96_1_1 w6 =>
      Sts [.int .i64 r96_0_0_1, .string r96_0_1_1] ⟨e__1, 0, none⟩ 0 w6 fun w7 =>
      nodem_Node_after.B3 n msgs_b msgs_l msgs_c t4 d v e__1 w7 N1 R))) (
    nodem_Node_after.L2 n msgs_b msgs_l msgs_c t4 d v (0 : Int) w.drew  R)
theorem nodem_Node_after.L1b_eq (n msgs_b : Option Addr) (msgs_l msgs_c t4 d : Nat) (v : Option Addr) (w : World)  (N1 : Option Addr → Option Addr → Nat → Nat → Nat → Nat → Option Addr → World → Prop) (R : Int → Option Addr → Nat → Nat → Option Addr → Nat → Nat → World → Prop) (sB3 : Option Addr → Option Addr → Nat → Nat → Nat → Nat → Option Addr → Nat → World → Prop) (sL2 : Option Addr → Option Addr → Nat → Nat → Nat → Nat → Option Addr → Int → World → Prop) :
    (
  Pn n fun a =>
  LdI .i64 (a.add 2) w.drew fun x74 =>
  Pn v fun a_1 =>
  LdI .i64 (a_1.add 9) w.drew fun x78 =>
  Bm (decide (x74 < x78)) (
    Pn n fun a_2 =>
    LdI .i64 (a_2.add 2) w.drew fun x83 =>
    Pn n fun a_3 =>
    Sts [.int .i64 (IntKind.i64.wrap (x83 + (1 : Int)))] (a_3.add 2) 0 w.drew fun w1 =>
    Pn n fun a_4 =>
    LdP a_4 w1.drew fun x91 =>
    Pn n fun a_5 =>
    LdI .i64 (a_5.add 2) w1.drew fun x95 =>
    ((
      syncm_Sync_At.Call x91 x95 w1.drew fun r96_0_0 r96_0_1 r96_1 w2 =>
      New (.cells #[.int .i64 (0 : Int), .string (ByteArray.mk #[])] 155) w2 fun e_ w3 =>
      Sts [.int .i64 r96_0_0, .string r96_0_1] ⟨e_, 0, none⟩ 0 w3 fun w4 =>
      sB3 n msgs_b msgs_l msgs_c t4 d v e_ w4) ∧ (
      New (.cells #[.int .i64 (0 : Int), .string (ByteArray.mk #[])] 155) w1.drew fun e__1 w5 =>
      w5.cell? (a_5.add 2) = some (.int .i64 x95) ∧
      w5.cell? a_4 = some (.pointer x91) ∧
      syncm_Sync_At.Call x91 x95 w5 fun r96_0_0_1 r96_0_1_1 r96_1_1 w6 =>
      Sts [.int .i64 r96_0_0_1, .string r96_0_1_1] ⟨e__1, 0, none⟩ 0 w6 fun w7 =>
      sB3 n msgs_b msgs_l msgs_c t4 d v e__1 w7))) (
    sL2 n msgs_b msgs_l msgs_c t4 d v (0 : Int) w.drew)) = kstep Tryz.prog 250 Tryz.f82.results.toList (Tryz.f82.body.getD .skip) (nodem_Node_after.RV R) (kvc Tryz.prog 250 Tryz.f82.results.toList (Tryz.f82.body.getD .skip) (nodem_Node_after.RV R) [([(0, [1, 1, 1, 1, 1, 0, 0, 0, 1, 0, 1, 1]), (1, [1]), (2, [1, 1, 1, 1, 1, 0, 0, 0]), (1, [0]), (0, [1, 1, 1, 1, 1, 1])], fun σ w => dP (slotOf σ 0) fun n_ => dL (slotOf σ 1) fun msgs_b_ msgs_l_ msgs_c_ => dK (slotOf σ 4) fun t4_ => dK (slotOf σ 5) fun d_ => dP (slotOf σ 6) fun v_ => dK (slotOf σ 8) fun e_ => sB3 n_ msgs_b_ msgs_l_ msgs_c_ t4_ d_ v_ e_ w),
    ([(0, [1, 1, 1, 1, 1, 1, 0, 1, 0, 0]), (2, [1, 1, 1, 1, 1, 1, 0, 1, 0, 0]), (1, [2]), (0, [1, 1, 1, 1, 1, 1, 1])], fun σ w => dP (slotOf σ 0) fun n_ => dL (slotOf σ 1) fun msgs_b_ msgs_l_ msgs_c_ => dK (slotOf σ 4) fun t4_ => dK (slotOf σ 5) fun d_ => dP (slotOf σ 6) fun v_ => dI .i64 (slotOf σ 13) fun c_ => sL2 n_ msgs_b_ msgs_l_ msgs_c_ t4_ d_ v_ c_ w)] 2000) [(0, [1, 1, 1, 1, 1, 0, 0, 0]), (2, [1, 1, 1, 1, 1, 0, 0, 0]), (1, [0]), (0, [1, 1, 1, 1, 1, 1])] [(0, .pointer n), (1, .slice msgs_b msgs_l msgs_c), (4, .pointer (some ⟨t4, 0, none⟩)), (5, .pointer (some ⟨d, 0, none⟩)), (6, .pointer v)] w := by kernel_rfl
theorem nodem_Node_after.L1b_sound {R : Int → Option Addr → Nat → Nat → Option Addr → Nat → Nat → World → Prop} {N1 : Option Addr → Option Addr → Nat → Nat → Nat → Nat → Option Addr → World → Prop} (hN1 : ∀ n msgs_b msgs_l msgs_c t4 d v w, N1 n msgs_b msgs_l msgs_c t4 d v w → KW Tryz.prog 82 250 (nodem_Node_after.RV R) ([(0, [1, 1, 1, 1, 1, 0, 0, 0]), (2, [1, 1, 1, 1, 1, 0, 0, 0]), (1, [0]), (0, [1, 1, 1, 1, 1, 1])].map (toItem (Tryz.f82.body.getD .skip))) [(0, .pointer n), (1, .slice msgs_b msgs_l msgs_c), (4, .pointer (some ⟨t4, 0, none⟩)), (5, .pointer (some ⟨d, 0, none⟩)), (6, .pointer v)] w) (n msgs_b : Option Addr) (msgs_l msgs_c t4 d : Nat) (v : Option Addr) (w : World) (h : nodem_Node_after.L1b n msgs_b msgs_l msgs_c t4 d v w  N1 R) :
    KW Tryz.prog 82 250 (nodem_Node_after.RV R) ([(0, [1, 1, 1, 1, 1, 0, 0, 0]), (2, [1, 1, 1, 1, 1, 0, 0, 0]), (1, [0]), (0, [1, 1, 1, 1, 1, 1])].map (toItem (Tryz.f82.body.getD .skip))) [(0, .pointer n), (1, .slice msgs_b msgs_l msgs_c), (4, .pointer (some ⟨t4, 0, none⟩)), (5, .pointer (some ⟨d, 0, none⟩)), (6, .pointer v)] w := by
  exact block_spec Tryz.func82 Tryz.mixed (stops_cons (fun σ w h => by
      obtain ⟨n_, e0, h⟩ := dP_elim h
      obtain ⟨msgs_b_, msgs_l_, msgs_c_, e1, h⟩ := dL_elim h
      obtain ⟨t4_, e2, h⟩ := dK_elim h
      obtain ⟨d_, e3, h⟩ := dK_elim h
      obtain ⟨v_, e4, h⟩ := dP_elim h
      obtain ⟨e_, e5, h⟩ := dK_elim h
      exact (nodem_Node_after.B3_sound hN1 n_ msgs_b_ msgs_l_ msgs_c_ t4_ d_ v_ e_ w h).weaken (Sub.cons (Sub.cons (Sub.cons (Sub.cons (Sub.cons (Sub.cons (Sub.nil _) e5) e4) e3) e2) e1) e0)) (stops_cons (fun σ w h => by
      obtain ⟨n_, e0, h⟩ := dP_elim h
      obtain ⟨msgs_b_, msgs_l_, msgs_c_, e1, h⟩ := dL_elim h
      obtain ⟨t4_, e2, h⟩ := dK_elim h
      obtain ⟨d_, e3, h⟩ := dK_elim h
      obtain ⟨v_, e4, h⟩ := dP_elim h
      obtain ⟨c_, e5, h⟩ := dI_elim h
      exact (nodem_Node_after.L2_sound  n_ msgs_b_ msgs_l_ msgs_c_ t4_ d_ v_ c_ w h).weaken (Sub.cons (Sub.cons (Sub.cons (Sub.cons (Sub.cons (Sub.cons (Sub.nil _) e5) e4) e3) e2) e1) e0)) stops_nil)) (Eq.mp (nodem_Node_after.L1b_eq n msgs_b msgs_l msgs_c t4 d v w  N1 R (fun n_ msgs_b_ msgs_l_ msgs_c_ t4_ d_ v_ e_ w => nodem_Node_after.B3 n_ msgs_b_ msgs_l_ msgs_c_ t4_ d_ v_ e_ w N1 R) (fun n_ msgs_b_ msgs_l_ msgs_c_ t4_ d_ v_ c_ w => nodem_Node_after.L2 n_ msgs_b_ msgs_l_ msgs_c_ t4_ d_ v_ c_ w  R)) h)
def nodem_Node_after.L1 (n msgs_b : Option Addr) (msgs_l msgs_c t4 d : Nat) (v : Option Addr) (w : World)  (R : Int → Option Addr → Nat → Nat → Option Addr → Nat → Nat → World → Prop) : Prop :=
  ∃ (I : Nat → Option Addr → Option Addr → Nat → Nat → Nat → Nat → Option Addr → World → Prop) (m : Nat), I m n msgs_b msgs_l msgs_c t4 d v w ∧ ∀ m n msgs_b msgs_l msgs_c t4 d v w, I m n msgs_b msgs_l msgs_c t4 d v w → nodem_Node_after.L1b n msgs_b msgs_l msgs_c t4 d v w  (fun n' msgs_b' msgs_l' msgs_c' t4' d' v' w' => ∃ m', m' < m ∧ I m' n' msgs_b' msgs_l' msgs_c' t4' d' v' w') R
theorem nodem_Node_after.L1_sound {R : Int → Option Addr → Nat → Nat → Option Addr → Nat → Nat → World → Prop}  (n msgs_b : Option Addr) (msgs_l msgs_c t4 d : Nat) (v : Option Addr) (w : World) (h : nodem_Node_after.L1 n msgs_b msgs_l msgs_c t4 d v w  R) :
    KW Tryz.prog 82 250 (nodem_Node_after.RV R) ([(0, [1, 1, 1, 1, 1, 0, 0, 0]), (2, [1, 1, 1, 1, 1, 0, 0, 0]), (1, [0]), (0, [1, 1, 1, 1, 1, 1])].map (toItem (Tryz.f82.body.getD .skip))) [(0, .pointer n), (1, .slice msgs_b msgs_l msgs_c), (4, .pointer (some ⟨t4, 0, none⟩)), (5, .pointer (some ⟨d, 0, none⟩)), (6, .pointer v)] w := by
  obtain ⟨I, m, hBase, hr⟩ := h
  refine KW.loop (fun m σ w => ∃ (n msgs_b : Option Addr) (msgs_l msgs_c t4 d : Nat) (v : Option Addr), σ = [(0, .pointer n), (1, .slice msgs_b msgs_l msgs_c), (4, .pointer (some ⟨t4, 0, none⟩)), (5, .pointer (some ⟨d, 0, none⟩)), (6, .pointer v)] ∧ I m n msgs_b msgs_l msgs_c t4 d v w) ?_ m _ w ⟨n, msgs_b, msgs_l, msgs_c, t4, d, v, rfl, hBase⟩
  rintro m ih σ w ⟨n, msgs_b, msgs_l, msgs_c, t4, d, v, rfl, hI⟩
  exact nodem_Node_after.L1b_sound  (N1 := fun n' msgs_b' msgs_l' msgs_c' t4' d' v' w' => ∃ m', m' < m ∧ I m' n' msgs_b' msgs_l' msgs_c' t4' d' v' w') (fun n' msgs_b' msgs_l' msgs_c' t4' d' v' w' hx => by obtain ⟨m', hlt, hI'⟩ := hx; exact ih m' hlt _ w' ⟨n', msgs_b', msgs_l', msgs_c', t4', d', v', rfl, hI'⟩) n msgs_b msgs_l msgs_c t4 d v w (hr m n msgs_b msgs_l msgs_c t4 d v w hI)
def nodem_Node_after.B2 (n msgs_b : Option Addr) (msgs_l msgs_c t4 d : Nat) (v : Option Addr) (w : World)   (R : Int → Option Addr → Nat → Nat → Option Addr → Nat → Nat → World → Prop) : Prop :=
  nodem_Node_after.L1 n msgs_b msgs_l msgs_c t4 d v w  R
theorem nodem_Node_after.B2_eq (n msgs_b : Option Addr) (msgs_l msgs_c t4 d : Nat) (v : Option Addr) (w : World)   (R : Int → Option Addr → Nat → Nat → Option Addr → Nat → Nat → World → Prop) (sL1 : Option Addr → Option Addr → Nat → Nat → Nat → Nat → Option Addr → World → Prop) :
    (
  sL1 n msgs_b msgs_l msgs_c t4 d v w) = kstep Tryz.prog 250 Tryz.f82.results.toList (Tryz.f82.body.getD .skip) (nodem_Node_after.RV R) (kvc Tryz.prog 250 Tryz.f82.results.toList (Tryz.f82.body.getD .skip) (nodem_Node_after.RV R) [([(0, [1, 1, 1, 1, 1, 0, 0, 0]), (2, [1, 1, 1, 1, 1, 0, 0, 0]), (1, [0]), (0, [1, 1, 1, 1, 1, 1])], fun σ w => dP (slotOf σ 0) fun n_ => dL (slotOf σ 1) fun msgs_b_ msgs_l_ msgs_c_ => dK (slotOf σ 4) fun t4_ => dK (slotOf σ 5) fun d_ => dP (slotOf σ 6) fun v_ => sL1 n_ msgs_b_ msgs_l_ msgs_c_ t4_ d_ v_ w)] 2000) [(0, [1, 1, 1, 1, 1])] [(0, .pointer n), (1, .slice msgs_b msgs_l msgs_c), (4, .pointer (some ⟨t4, 0, none⟩)), (5, .pointer (some ⟨d, 0, none⟩)), (6, .pointer v)] w := by kernel_rfl
theorem nodem_Node_after.B2_sound {R : Int → Option Addr → Nat → Nat → Option Addr → Nat → Nat → World → Prop}  (n msgs_b : Option Addr) (msgs_l msgs_c t4 d : Nat) (v : Option Addr) (w : World) (h : nodem_Node_after.B2 n msgs_b msgs_l msgs_c t4 d v w   R) :
    KW Tryz.prog 82 250 (nodem_Node_after.RV R) ([(0, [1, 1, 1, 1, 1])].map (toItem (Tryz.f82.body.getD .skip))) [(0, .pointer n), (1, .slice msgs_b msgs_l msgs_c), (4, .pointer (some ⟨t4, 0, none⟩)), (5, .pointer (some ⟨d, 0, none⟩)), (6, .pointer v)] w := by
  exact block_spec Tryz.func82 Tryz.mixed (stops_cons (fun σ w h => by
      obtain ⟨n_, e0, h⟩ := dP_elim h
      obtain ⟨msgs_b_, msgs_l_, msgs_c_, e1, h⟩ := dL_elim h
      obtain ⟨t4_, e2, h⟩ := dK_elim h
      obtain ⟨d_, e3, h⟩ := dK_elim h
      obtain ⟨v_, e4, h⟩ := dP_elim h
      exact (nodem_Node_after.L1_sound  n_ msgs_b_ msgs_l_ msgs_c_ t4_ d_ v_ w h).weaken (Sub.cons (Sub.cons (Sub.cons (Sub.cons (Sub.cons (Sub.nil _) e4) e3) e2) e1) e0)) stops_nil) (Eq.mp (nodem_Node_after.B2_eq n msgs_b msgs_l msgs_c t4 d v w   R (fun n_ msgs_b_ msgs_l_ msgs_c_ t4_ d_ v_ w => nodem_Node_after.L1 n_ msgs_b_ msgs_l_ msgs_c_ t4_ d_ v_ w  R)) h)
def nodem_Node_after.B1 (n msgs_b : Option Addr) (msgs_l msgs_c t4 d : Nat) (v : Option Addr) (t55 : Bool) (w : World)   (R : Int → Option Addr → Nat → Nat → Option Addr → Nat → Nat → World → Prop) : Prop :=
  Bm t55 (
    Pn n fun a =>
    LdP (a.add 1) w fun x59 =>
    kvm_KV_Snapshot.Call x59 w fun r60 w1 =>
    Pn n fun a_1 =>
    LdP a_1 w1.drew fun x64 =>
    Pn n fun a_2 =>
    LdI .i64 (a_2.add 2) w1.drew fun x68 =>
    syncm_Sync_Compact.Call x64 x68 r60 w1.drew fun r70 w2 =>
    nodem_Node_after.B2 n msgs_b msgs_l msgs_c t4 d v w2  R) (
    nodem_Node_after.B2 n msgs_b msgs_l msgs_c t4 d v w  R)
theorem nodem_Node_after.B1_eq (n msgs_b : Option Addr) (msgs_l msgs_c t4 d : Nat) (v : Option Addr) (t55 : Bool) (w : World)   (R : Int → Option Addr → Nat → Nat → Option Addr → Nat → Nat → World → Prop) (sB2 : Option Addr → Option Addr → Nat → Nat → Nat → Nat → Option Addr → World → Prop) :
    (
  Bm t55 (
    Pn n fun a =>
    LdP (a.add 1) w fun x59 =>
    kvm_KV_Snapshot.Call x59 w fun r60 w1 =>
    Pn n fun a_1 =>
    LdP a_1 w1.drew fun x64 =>
    Pn n fun a_2 =>
    LdI .i64 (a_2.add 2) w1.drew fun x68 =>
    syncm_Sync_Compact.Call x64 x68 r60 w1.drew fun r70 w2 =>
    sB2 n msgs_b msgs_l msgs_c t4 d v w2) (
    sB2 n msgs_b msgs_l msgs_c t4 d v w)) = kstep Tryz.prog 250 Tryz.f82.results.toList (Tryz.f82.body.getD .skip) (nodem_Node_after.RV R) (kvc Tryz.prog 250 Tryz.f82.results.toList (Tryz.f82.body.getD .skip) (nodem_Node_after.RV R) [([(0, [1, 1, 1, 1, 1])], fun σ w => dP (slotOf σ 0) fun n_ => dL (slotOf σ 1) fun msgs_b_ msgs_l_ msgs_c_ => dK (slotOf σ 4) fun t4_ => dK (slotOf σ 5) fun d_ => dP (slotOf σ 6) fun v_ => sB2 n_ msgs_b_ msgs_l_ msgs_c_ t4_ d_ v_ w)] 2000) [(0, [1, 1, 1, 1, 0, 1]), (0, [1, 1, 1, 1, 1])] [(0, .pointer n), (1, .slice msgs_b msgs_l msgs_c), (4, .pointer (some ⟨t4, 0, none⟩)), (5, .pointer (some ⟨d, 0, none⟩)), (6, .pointer v), (55, .bool t55)] w := by kernel_rfl
theorem nodem_Node_after.B1_sound {R : Int → Option Addr → Nat → Nat → Option Addr → Nat → Nat → World → Prop}  (n msgs_b : Option Addr) (msgs_l msgs_c t4 d : Nat) (v : Option Addr) (t55 : Bool) (w : World) (h : nodem_Node_after.B1 n msgs_b msgs_l msgs_c t4 d v t55 w   R) :
    KW Tryz.prog 82 250 (nodem_Node_after.RV R) ([(0, [1, 1, 1, 1, 0, 1]), (0, [1, 1, 1, 1, 1])].map (toItem (Tryz.f82.body.getD .skip))) [(0, .pointer n), (1, .slice msgs_b msgs_l msgs_c), (4, .pointer (some ⟨t4, 0, none⟩)), (5, .pointer (some ⟨d, 0, none⟩)), (6, .pointer v), (55, .bool t55)] w := by
  exact block_spec Tryz.func82 Tryz.mixed (stops_cons (fun σ w h => by
      obtain ⟨n_, e0, h⟩ := dP_elim h
      obtain ⟨msgs_b_, msgs_l_, msgs_c_, e1, h⟩ := dL_elim h
      obtain ⟨t4_, e2, h⟩ := dK_elim h
      obtain ⟨d_, e3, h⟩ := dK_elim h
      obtain ⟨v_, e4, h⟩ := dP_elim h
      exact (nodem_Node_after.B2_sound  n_ msgs_b_ msgs_l_ msgs_c_ t4_ d_ v_ w h).weaken (Sub.cons (Sub.cons (Sub.cons (Sub.cons (Sub.cons (Sub.nil _) e4) e3) e2) e1) e0)) stops_nil) (Eq.mp (nodem_Node_after.B1_eq n msgs_b msgs_l msgs_c t4 d v t55 w   R (fun n_ msgs_b_ msgs_l_ msgs_c_ t4_ d_ v_ w => nodem_Node_after.B2 n_ msgs_b_ msgs_l_ msgs_c_ t4_ d_ v_ w  R)) h)
def nodem_Node_after.B0 (n msgs_b : Option Addr) (msgs_l msgs_c : Nat) (w : World)   (R : Int → Option Addr → Nat → Nat → Option Addr → Nat → Nat → World → Prop) : Prop :=
  New (.cells #[.int .i64 (0 : Int), .slice none 0 0, .slice none 0 0] 42) w fun b4 w1 =>
  New (.cells #[.int .i64 (0 : Int), .slice none 0 0, .slice none 0 0] 42) w1 fun d_ w2 =>
  nodem_Node_catchUp.Call n w2 fun w3 =>
  Pn n fun a =>
  LdP a w3 fun x21 =>
  syncm_Sync_View.Call x21 w3 fun r22 w4 =>
  Pn n fun a_1 =>
  LdI .i64 (a_1.add 2) w4.drew fun x26 =>
  Pn r22 fun a_2 =>
  LdI .i64 (a_2.add 10) w4.drew fun x30 =>
  Bm (decide (x26 > x30)) (
    Pn n fun a_3 =>
    LdI .i64 (a_3.add 2) w4.drew fun x36 =>
    Pn r22 fun a_4 =>
    LdI .i64 (a_4.add 10) w4.drew fun x40 =>
    Bm (decide ((IntKind.i64.wrap (x36 - x40)) ≥ (4 : Int))) (
      nodem_Node_after.B1 n msgs_b msgs_l msgs_c b4 d_ r22 true w4.drew  R) (
      Pn r22 fun a_5 =>
      LdI .i64 (a_5.add 12) w4.drew fun x47 =>
      Pn r22 fun a_6 =>
      LdI .i64 (a_6.add 10) w4.drew fun x51 =>
      nodem_Node_after.B1 n msgs_b msgs_l msgs_c b4 d_ r22 (decide ((IntKind.i64.wrap (x47 - x51)) ≥ (6 : Int))) w4.drew  R)) (
    nodem_Node_after.B1 n msgs_b msgs_l msgs_c b4 d_ r22 false w4.drew  R)
theorem nodem_Node_after.B0_eq (n msgs_b : Option Addr) (msgs_l msgs_c : Nat) (w : World)   (R : Int → Option Addr → Nat → Nat → Option Addr → Nat → Nat → World → Prop) (sB1 : Option Addr → Option Addr → Nat → Nat → Nat → Nat → Option Addr → Bool → World → Prop) :
    (
  New (.cells #[.int .i64 (0 : Int), .slice none 0 0, .slice none 0 0] 42) w fun b4 w1 =>
  New (.cells #[.int .i64 (0 : Int), .slice none 0 0, .slice none 0 0] 42) w1 fun d_ w2 =>
  nodem_Node_catchUp.Call n w2 fun w3 =>
  Pn n fun a =>
  LdP a w3 fun x21 =>
  syncm_Sync_View.Call x21 w3 fun r22 w4 =>
  Pn n fun a_1 =>
  LdI .i64 (a_1.add 2) w4.drew fun x26 =>
  Pn r22 fun a_2 =>
  LdI .i64 (a_2.add 10) w4.drew fun x30 =>
  Bm (decide (x26 > x30)) (
    Pn n fun a_3 =>
    LdI .i64 (a_3.add 2) w4.drew fun x36 =>
    Pn r22 fun a_4 =>
    LdI .i64 (a_4.add 10) w4.drew fun x40 =>
    Bm (decide ((IntKind.i64.wrap (x36 - x40)) ≥ (4 : Int))) (
      sB1 n msgs_b msgs_l msgs_c b4 d_ r22 true w4.drew) (
      Pn r22 fun a_5 =>
      LdI .i64 (a_5.add 12) w4.drew fun x47 =>
      Pn r22 fun a_6 =>
      LdI .i64 (a_6.add 10) w4.drew fun x51 =>
      sB1 n msgs_b msgs_l msgs_c b4 d_ r22 (decide ((IntKind.i64.wrap (x47 - x51)) ≥ (6 : Int))) w4.drew)) (
    sB1 n msgs_b msgs_l msgs_c b4 d_ r22 false w4.drew)) = kstep Tryz.prog 250 Tryz.f82.results.toList (Tryz.f82.body.getD .skip) (nodem_Node_after.RV R) (kvc Tryz.prog 250 Tryz.f82.results.toList (Tryz.f82.body.getD .skip) (nodem_Node_after.RV R) [([(0, [1, 1, 1, 1, 0, 1]), (0, [1, 1, 1, 1, 1])], fun σ w => dP (slotOf σ 0) fun n_ => dL (slotOf σ 1) fun msgs_b_ msgs_l_ msgs_c_ => dK (slotOf σ 4) fun t4_ => dK (slotOf σ 5) fun d_ => dP (slotOf σ 6) fun v_ => dB (slotOf σ 55) fun t55_ => sB1 n_ msgs_b_ msgs_l_ msgs_c_ t4_ d_ v_ t55_ w)] 2000) [(0, [])] [(0, .pointer n), (1, .slice msgs_b msgs_l msgs_c)] w := by kernel_rfl
theorem nodem_Node_after.B0_sound {R : Int → Option Addr → Nat → Nat → Option Addr → Nat → Nat → World → Prop}  (n msgs_b : Option Addr) (msgs_l msgs_c : Nat) (w : World) (h : nodem_Node_after.B0 n msgs_b msgs_l msgs_c w   R) :
    KW Tryz.prog 82 250 (nodem_Node_after.RV R) ([(0, [])].map (toItem (Tryz.f82.body.getD .skip))) [(0, .pointer n), (1, .slice msgs_b msgs_l msgs_c)] w := by
  exact block_spec Tryz.func82 Tryz.mixed (stops_cons (fun σ w h => by
      obtain ⟨n_, e0, h⟩ := dP_elim h
      obtain ⟨msgs_b_, msgs_l_, msgs_c_, e1, h⟩ := dL_elim h
      obtain ⟨t4_, e2, h⟩ := dK_elim h
      obtain ⟨d_, e3, h⟩ := dK_elim h
      obtain ⟨v_, e4, h⟩ := dP_elim h
      obtain ⟨t55_, e5, h⟩ := dB_elim h
      exact (nodem_Node_after.B1_sound  n_ msgs_b_ msgs_l_ msgs_c_ t4_ d_ v_ t55_ w h).weaken (Sub.cons (Sub.cons (Sub.cons (Sub.cons (Sub.cons (Sub.cons (Sub.nil _) e5) e4) e3) e2) e1) e0)) stops_nil) (Eq.mp (nodem_Node_after.B0_eq n msgs_b msgs_l msgs_c w   R (fun n_ msgs_b_ msgs_l_ msgs_c_ t4_ d_ v_ t55_ w => nodem_Node_after.B1 n_ msgs_b_ msgs_l_ msgs_c_ t4_ d_ v_ t55_ w  R)) h)
theorem nodem_Node_after.sound (n msgs_b : Option Addr) (msgs_l msgs_c : Nat) (w : World) (R : Int → Option Addr → Nat → Nat → Option Addr → Nat → Nat → World → Prop) (h : nodem_Node_after.B0 n msgs_b msgs_l msgs_c w R) : nodem_Node_after.Call n msgs_b msgs_l msgs_c w R := by
  have hc := calls_of_block (args := #[.pointer n, .slice msgs_b msgs_l msgs_c]) Tryz.func82 (body := (Tryz.f82.body.getD .skip)) (by kernel_rfl) (by kernel_rfl) (args_slot _) (nodem_Node_after.B0_sound n msgs_b msgs_l msgs_c w h)
  exact hc.mono fun e w' he => by
    obtain ⟨v, rfl, hv⟩ := he
    exact nodem_Node_after.RV_elim hv
end Go.Proofs.Qxb6500430aGreat
