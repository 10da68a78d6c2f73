import Derived.Test.Qxb6500424aGreatSig
set_option maxRecDepth 100000
set_option linter.unusedVariables false
open Go.Vc
namespace Go.Proofs.Qxb6500424aGreat
def hostlaw_World_Foul.B3 (w0 : Option Addr) (o : Nat) (t : Int) (t64 : Bool) (w : World)   (R : Bool → World → Prop) : Prop :=
  Bm t64 (
    R true w) (
    LdI .i64 ⟨o, 2, none⟩ w fun x68 =>
    hostlaw_World_listens.Call w0 t x68 w fun r69 w1 =>
    Bm (!r69) (
      R true w1) (
      Pn w0 fun a =>
      LdP (a.add 30) w1 fun x74 =>
      hostm_Net_AllGone.Call x74 w1 fun r75 w2 =>
      R (!r75) w2))
theorem hostlaw_World_Foul.B3_eq (w0 : Option Addr) (o : Nat) (t : Int) (t64 : Bool) (w : World)   (R : Bool → World → Prop)  :
    (
  Bm t64 (
    R true w) (
    LdI .i64 ⟨o, 2, none⟩ w fun x68 =>
    hostlaw_World_listens.Call w0 t x68 w fun r69 w1 =>
    Bm (!r69) (
      R true w1) (
      Pn w0 fun a =>
      LdP (a.add 30) w1 fun x74 =>
      hostm_Net_AllGone.Call x74 w1 fun r75 w2 =>
      R (!r75) w2))) = kstep Tryz.prog 77 Tryz.f18.results.toList (Tryz.f18.body.getD .skip) (hostlaw_World_Foul.RV R) (kvc Tryz.prog 77 Tryz.f18.results.toList (Tryz.f18.body.getD .skip) (hostlaw_World_Foul.RV R) [] 2000) [(0, [1, 1, 1, 0, 1, 0, 1, 1, 1, 1, 1, 0, 1, 0, 1]), (0, [1, 1, 1, 0, 1, 0, 1, 1, 1, 1, 1, 0, 1, 1]), (1, [1]), (0, [1, 1, 1, 1])] [(0, .pointer w0), (3, .pointer (some ⟨o, 0, none⟩)), (7, .int .i64 t), (64, .bool t64)] w := by kernel_rfl
theorem hostlaw_World_Foul.B3_sound {R : Bool → World → Prop}  (w0 : Option Addr) (o : Nat) (t : Int) (t64 : Bool) (w : World) (h : hostlaw_World_Foul.B3 w0 o t t64 w   R) :
    KW Tryz.prog 18 77 (hostlaw_World_Foul.RV R) ([(0, [1, 1, 1, 0, 1, 0, 1, 1, 1, 1, 1, 0, 1, 0, 1]), (0, [1, 1, 1, 0, 1, 0, 1, 1, 1, 1, 1, 0, 1, 1]), (1, [1]), (0, [1, 1, 1, 1])].map (toItem (Tryz.f18.body.getD .skip))) [(0, .pointer w0), (3, .pointer (some ⟨o, 0, none⟩)), (7, .int .i64 t), (64, .bool t64)] w := by
  exact block_spec Tryz.func18 Tryz.mixed stops_nil (Eq.mp (hostlaw_World_Foul.B3_eq w0 o t t64 w   R ) h)
def hostlaw_World_Foul.B2 (w0 : Option Addr) (o : Nat) (t22 : Bool) (w : World)   (R : Bool → World → Prop) : Prop :=
  Bm t22 (
    R false w) (
    LdI .i64 ⟨o, 0, none⟩ w fun x24 =>
    Bm (x24 == (7 : Int)) (
      R true w) (
      Bm (x24 == (6 : Int)) (
        LdI .i64 ⟨o, 3, none⟩ w fun x32 =>
        LdI .i64 ⟨o, 1, none⟩ w fun x34 =>
        hostlaw_World_ours.Call w0 x32 x34 w fun r35_0_0 r35_0_1 r35_0_2 r35_0_3 r35_0_4 r35_0_5 r35_0_6 r35_0_7 r35_0_8 r35_1 w1 =>
        New (.cells #[.int .i64 (0 : Int), .int .i64 (0 : Int), .int .i64 (0 : Int), .int .i64 (0 : Int), .int .i64 (0 : Int), .int .i64 (0 : Int), .int .i64 (0 : Int), .bool false, .pointer none] 69) w1 fun s_ w2 =>
        Sts [.int .i64 r35_0_0, .int .i64 r35_0_1, .int .i64 r35_0_2, .int .i64 r35_0_3, .int .i64 r35_0_4, .int .i64 r35_0_5, .int .i64 r35_0_6, .bool r35_0_7, .pointer r35_0_8] ⟨s_, 0, none⟩ 0 w2 fun w3 =>
        Bm (!r35_1) (
          R true w3) (
          LdP ⟨s_, 8, none⟩ w3 fun x42 =>
          Pn x42 fun a =>
          LdI .i64 a w3 fun x45 =>
          R (x45 != (3 : Int)) w3)) (
        Bm (x24 == (2 : Int)) (
          LdI .i64 ⟨o, 1, none⟩ w fun x51 =>
          Bm (decide ((IntKind.i64.wrap (x51 - (1 : Int))) < (0 : Int))) (
            hostlaw_World_Foul.B3 w0 o (IntKind.i64.wrap (x51 - (1 : Int))) true w  R) (
            Bm (decide ((IntKind.i64.wrap (x51 - (1 : Int))) ≥ (3 : Int))) (
              hostlaw_World_Foul.B3 w0 o (IntKind.i64.wrap (x51 - (1 : Int))) true w  R) (
              LdI .i64 ⟨o, 3, none⟩ w fun x62 =>
              hostlaw_World_Foul.B3 w0 o (IntKind.i64.wrap (x51 - (1 : Int))) ((IntKind.i64.wrap (x51 - (1 : Int))) == x62) w  R))) (
          R false w))))
theorem hostlaw_World_Foul.B2_eq (w0 : Option Addr) (o : Nat) (t22 : Bool) (w : World)   (R : Bool → World → Prop) (sB3 : Option Addr → Nat → Int → Bool → World → Prop) :
    (
  Bm t22 (
    R false w) (
    LdI .i64 ⟨o, 0, none⟩ w fun x24 =>
    Bm (x24 == (7 : Int)) (
      R true w) (
      Bm (x24 == (6 : Int)) (
        LdI .i64 ⟨o, 3, none⟩ w fun x32 =>
        LdI .i64 ⟨o, 1, none⟩ w fun x34 =>
        hostlaw_World_ours.Call w0 x32 x34 w fun r35_0_0 r35_0_1 r35_0_2 r35_0_3 r35_0_4 r35_0_5 r35_0_6 r35_0_7 r35_0_8 r35_1 w1 =>
        New (.cells #[.int .i64 (0 : Int), .int .i64 (0 : Int), .int .i64 (0 : Int), .int .i64 (0 : Int), .int .i64 (0 : Int), .int .i64 (0 : Int), .int .i64 (0 : Int), .bool false, .pointer none] 69) w1 fun s_ w2 =>
        Sts [.int .i64 r35_0_0, .int .i64 r35_0_1, .int .i64 r35_0_2, .int .i64 r35_0_3, .int .i64 r35_0_4, .int .i64 r35_0_5, .int .i64 r35_0_6, .bool r35_0_7, .pointer r35_0_8] ⟨s_, 0, none⟩ 0 w2 fun w3 =>
        Bm (!r35_1) (
          R true w3) (
          LdP ⟨s_, 8, none⟩ w3 fun x42 =>
          Pn x42 fun a =>
          LdI .i64 a w3 fun x45 =>
          R (x45 != (3 : Int)) w3)) (
        Bm (x24 == (2 : Int)) (
          LdI .i64 ⟨o, 1, none⟩ w fun x51 =>
          Bm (decide ((IntKind.i64.wrap (x51 - (1 : Int))) < (0 : Int))) (
            sB3 w0 o (IntKind.i64.wrap (x51 - (1 : Int))) true w) (
            Bm (decide ((IntKind.i64.wrap (x51 - (1 : Int))) ≥ (3 : Int))) (
              sB3 w0 o (IntKind.i64.wrap (x51 - (1 : Int))) true w) (
              LdI .i64 ⟨o, 3, none⟩ w fun x62 =>
              sB3 w0 o (IntKind.i64.wrap (x51 - (1 : Int))) ((IntKind.i64.wrap (x51 - (1 : Int))) == x62) w))) (
          R false w))))) = kstep Tryz.prog 77 Tryz.f18.results.toList (Tryz.f18.body.getD .skip) (hostlaw_World_Foul.RV R) (kvc Tryz.prog 77 Tryz.f18.results.toList (Tryz.f18.body.getD .skip) (hostlaw_World_Foul.RV R) [([(0, [1, 1, 1, 0, 1, 0, 1, 1, 1, 1, 1, 0, 1, 0, 1]), (0, [1, 1, 1, 0, 1, 0, 1, 1, 1, 1, 1, 0, 1, 1]), (1, [1]), (0, [1, 1, 1, 1])], fun σ w => dP (slotOf σ 0) fun w0_ => dK (slotOf σ 3) fun o_ => dI .i64 (slotOf σ 7) fun t_ => dB (slotOf σ 64) fun t64_ => sB3 w0_ o_ t_ t64_ w)] 2000) [(0, [1, 1, 0, 1]), (0, [1, 1, 1])] [(0, .pointer w0), (3, .pointer (some ⟨o, 0, none⟩)), (22, .bool t22)] w := by kernel_rfl
theorem hostlaw_World_Foul.B2_sound {R : Bool → World → Prop}  (w0 : Option Addr) (o : Nat) (t22 : Bool) (w : World) (h : hostlaw_World_Foul.B2 w0 o t22 w   R) :
    KW Tryz.prog 18 77 (hostlaw_World_Foul.RV R) ([(0, [1, 1, 0, 1]), (0, [1, 1, 1])].map (toItem (Tryz.f18.body.getD .skip))) [(0, .pointer w0), (3, .pointer (some ⟨o, 0, none⟩)), (22, .bool t22)] w := by
  exact block_spec Tryz.func18 Tryz.mixed (stops_cons (fun σ w h => by
      obtain ⟨w0_, e0, h⟩ := dP_elim h
      obtain ⟨o_, e1, h⟩ := dK_elim h
      obtain ⟨t_, e2, h⟩ := dI_elim h
      obtain ⟨t64_, e3, h⟩ := dB_elim h
      exact (hostlaw_World_Foul.B3_sound  w0_ o_ t_ t64_ w h).weaken (Sub.cons (Sub.cons (Sub.cons (Sub.cons (Sub.nil _) e3) e2) e1) e0)) stops_nil) (Eq.mp (hostlaw_World_Foul.B2_eq w0 o t22 w   R (fun w0_ o_ t_ t64_ w => hostlaw_World_Foul.B3 w0_ o_ t_ t64_ w  R)) h)
def hostlaw_World_Foul.B1 (w0 : Option Addr) (o : Nat) (t10 : Bool) (w : World)   (R : Bool → World → Prop) : Prop :=
  Bm t10 (
    R true w) (
    LdI .i64 ⟨o, 3, none⟩ w fun x16 =>
    Bm (decide (x16 < (0 : Int))) (
      hostlaw_World_Foul.B2 w0 o true w  R) (
      LdI .i64 ⟨o, 3, none⟩ w fun x20 =>
      hostlaw_World_Foul.B2 w0 o (decide (x20 ≥ (3 : Int))) w  R))
theorem hostlaw_World_Foul.B1_eq (w0 : Option Addr) (o : Nat) (t10 : Bool) (w : World)   (R : Bool → World → Prop) (sB2 : Option Addr → Nat → Bool → World → Prop) :
    (
  Bm t10 (
    R true w) (
    LdI .i64 ⟨o, 3, none⟩ w fun x16 =>
    Bm (decide (x16 < (0 : Int))) (
      sB2 w0 o true w) (
      LdI .i64 ⟨o, 3, none⟩ w fun x20 =>
      sB2 w0 o (decide (x20 ≥ (3 : Int))) w))) = kstep Tryz.prog 77 Tryz.f18.results.toList (Tryz.f18.body.getD .skip) (hostlaw_World_Foul.RV R) (kvc Tryz.prog 77 Tryz.f18.results.toList (Tryz.f18.body.getD .skip) (hostlaw_World_Foul.RV R) [([(0, [1, 1, 0, 1]), (0, [1, 1, 1])], fun σ w => dP (slotOf σ 0) fun w0_ => dK (slotOf σ 3) fun o_ => dB (slotOf σ 22) fun t22_ => sB2 w0_ o_ t22_ w)] 2000) [(0, [1, 0, 1, 0, 1]), (1, [0]), (0, [1, 1])] [(0, .pointer w0), (3, .pointer (some ⟨o, 0, none⟩)), (10, .bool t10)] w := by kernel_rfl
theorem hostlaw_World_Foul.B1_sound {R : Bool → World → Prop}  (w0 : Option Addr) (o : Nat) (t10 : Bool) (w : World) (h : hostlaw_World_Foul.B1 w0 o t10 w   R) :
    KW Tryz.prog 18 77 (hostlaw_World_Foul.RV R) ([(0, [1, 0, 1, 0, 1]), (1, [0]), (0, [1, 1])].map (toItem (Tryz.f18.body.getD .skip))) [(0, .pointer w0), (3, .pointer (some ⟨o, 0, none⟩)), (10, .bool t10)] w := by
  exact block_spec Tryz.func18 Tryz.mixed (stops_cons (fun σ w h => by
      obtain ⟨w0_, e0, h⟩ := dP_elim h
      obtain ⟨o_, e1, h⟩ := dK_elim h
      obtain ⟨t22_, e2, h⟩ := dB_elim h
      exact (hostlaw_World_Foul.B2_sound  w0_ o_ t22_ w h).weaken (Sub.cons (Sub.cons (Sub.cons (Sub.nil _) e2) e1) e0)) stops_nil) (Eq.mp (hostlaw_World_Foul.B1_eq w0 o t10 w   R (fun w0_ o_ t22_ w => hostlaw_World_Foul.B2 w0_ o_ t22_ w  R)) h)
def hostlaw_World_Foul.B0 (w0 : Option Addr) (o_0 o_1 o_2 o_3 : Int) (o_4 o_5 : ByteArray) (w : World)   (R : Bool → World → Prop) : Prop :=
  New (.cells #[.int .i64 o_0, .int .i64 o_1, .int .i64 o_2, .int .i64 o_3, .string o_4, .string o_5] 32) w fun o_ w1 =>
  LdI .i64 ⟨o_, 0, none⟩ w1 fun x9 =>
  Bm (x9 == (11 : Int)) (
    hostlaw_World_Foul.B1 w0 o_ (x9 == (11 : Int)) w1  R) (
    Bm (x9 == (12 : Int)) (
      hostlaw_World_Foul.B1 w0 o_ (x9 == (12 : Int)) w1  R) (
      Bm (x9 == (13 : Int)) (
        hostlaw_World_Foul.B1 w0 o_ (x9 == (13 : Int)) w1  R) (
        hostlaw_World_Foul.B1 w0 o_ (x9 == (14 : Int)) w1  R)))
theorem hostlaw_World_Foul.B0_eq (w0 : Option Addr) (o_0 o_1 o_2 o_3 : Int) (o_4 o_5 : ByteArray) (w : World)   (R : Bool → World → Prop) (sB1 : Option Addr → Nat → Bool → World → Prop) :
    (
  New (.cells #[.int .i64 o_0, .int .i64 o_1, .int .i64 o_2, .int .i64 o_3, .string o_4, .string o_5] 32) w fun o_ w1 =>
  LdI .i64 ⟨o_, 0, none⟩ w1 fun x9 =>
  Bm (x9 == (11 : Int)) (
    sB1 w0 o_ (x9 == (11 : Int)) w1) (
    Bm (x9 == (12 : Int)) (
      sB1 w0 o_ (x9 == (12 : Int)) w1) (
      Bm (x9 == (13 : Int)) (
        sB1 w0 o_ (x9 == (13 : Int)) w1) (
        sB1 w0 o_ (x9 == (14 : Int)) w1)))) = kstep Tryz.prog 77 Tryz.f18.results.toList (Tryz.f18.body.getD .skip) (hostlaw_World_Foul.RV R) (kvc Tryz.prog 77 Tryz.f18.results.toList (Tryz.f18.body.getD .skip) (hostlaw_World_Foul.RV R) [([(0, [1, 0, 1, 0, 1]), (1, [0]), (0, [1, 1])], fun σ w => dP (slotOf σ 0) fun w0_ => dK (slotOf σ 3) fun o_ => dB (slotOf σ 10) fun t10_ => sB1 w0_ o_ t10_ w)] 2000) [(0, [])] [(0, .pointer w0), (1, .agg #[.int .i64 o_0, .int .i64 o_1, .int .i64 o_2, .int .i64 o_3, .string o_4, .string o_5])] w := by kernel_rfl
theorem hostlaw_World_Foul.B0_sound {R : Bool → World → Prop}  (w0 : Option Addr) (o_0 o_1 o_2 o_3 : Int) (o_4 o_5 : ByteArray) (w : World) (h : hostlaw_World_Foul.B0 w0 o_0 o_1 o_2 o_3 o_4 o_5 w   R) :
    KW Tryz.prog 18 77 (hostlaw_World_Foul.RV R) ([(0, [])].map (toItem (Tryz.f18.body.getD .skip))) [(0, .pointer w0), (1, .agg #[.int .i64 o_0, .int .i64 o_1, .int .i64 o_2, .int .i64 o_3, .string o_4, .string o_5])] w := by
  exact block_spec Tryz.func18 Tryz.mixed (stops_cons (fun σ w h => by
      obtain ⟨w0_, e0, h⟩ := dP_elim h
      obtain ⟨o_, e1, h⟩ := dK_elim h
      obtain ⟨t10_, e2, h⟩ := dB_elim h
      exact (hostlaw_World_Foul.B1_sound  w0_ o_ t10_ w h).weaken (Sub.cons (Sub.cons (Sub.cons (Sub.nil _) e2) e1) e0)) stops_nil) (Eq.mp (hostlaw_World_Foul.B0_eq w0 o_0 o_1 o_2 o_3 o_4 o_5 w   R (fun w0_ o_ t10_ w => hostlaw_World_Foul.B1 w0_ o_ t10_ w  R)) h)
theorem hostlaw_World_Foul.sound (w0 : Option Addr) (o_0 o_1 o_2 o_3 : Int) (o_4 o_5 : ByteArray) (w : World) (R : Bool → World → Prop) (h : hostlaw_World_Foul.B0 w0 o_0 o_1 o_2 o_3 o_4 o_5 w R) : hostlaw_World_Foul.Call w0 o_0 o_1 o_2 o_3 o_4 o_5 w R := by
  have hc := calls_of_block (args := #[.pointer w0, .agg #[.int .i64 o_0, .int .i64 o_1, .int .i64 o_2, .int .i64 o_3, .string o_4, .string o_5]]) Tryz.func18 (body := (Tryz.f18.body.getD .skip)) (by kernel_rfl) (by kernel_rfl) (args_slot _) (hostlaw_World_Foul.B0_sound w0 o_0 o_1 o_2 o_3 o_4 o_5 w h)
  exact hc.mono fun e w' he => by
    obtain ⟨v, rfl, hv⟩ := he
    exact hostlaw_World_Foul.RV_elim hv
def hostm_Net_NoneFailed.L1b (n : Option Addr) (i : Int) (w : World)  (N1 : Option Addr → Int → World → Prop) (R : Bool → World → Prop) : Prop :=
  Pn n fun a =>
  LdL a w fun x8_b x8_l x8_c =>
  Bm (decide (i < ((x8_l : Nat) : Int))) (
    hostm_Net_failed.Call n i w fun r15 w1 =>
    Bm r15 (
      R false w1) (
      N1 n (IntKind.i64.wrap (i + (1 : Int))) w1)) (
    R true w)
theorem hostm_Net_NoneFailed.L1b_eq (n : Option Addr) (i : Int) (w : World)  (N1 : Option Addr → Int → World → Prop) (R : Bool → World → Prop)  :
    (
  Pn n fun a =>
  LdL a w fun x8_b x8_l x8_c =>
  Bm (decide (i < ((x8_l : Nat) : Int))) (
    hostm_Net_failed.Call n i w fun r15 w1 =>
    Bm r15 (
      R false w1) (
      N1 n (IntKind.i64.wrap (i + (1 : Int))) w1)) (
    R true w)) = kstep Tryz.prog 16 Tryz.f19.results.toList (Tryz.f19.body.getD .skip) (hostm_Net_NoneFailed.RV R) (kvc Tryz.prog 16 Tryz.f19.results.toList (Tryz.f19.body.getD .skip) (hostm_Net_NoneFailed.RV R) [([(0, [1, 0, 1, 0, 0]), (2, [1, 0, 1, 0, 0]), (1, [0]), (0, [1, 1])], fun σ w => dP (slotOf σ 0) fun n_ => dI .i64 (slotOf σ 3) fun i_ => N1 n_ i_ w)] 2000) [(0, [1, 0, 1, 0, 0]), (2, [1, 0, 1, 0, 0]), (1, [0]), (0, [1, 1])] [(0, .pointer n), (3, .int .i64 i)] w := by kernel_rfl
theorem hostm_Net_NoneFailed.L1b_sound {R : Bool → World → Prop} {N1 : Option Addr → Int → World → Prop} (hN1 : ∀ n i w, N1 n i w → KW Tryz.prog 19 16 (hostm_Net_NoneFailed.RV R) ([(0, [1, 0, 1, 0, 0]), (2, [1, 0, 1, 0, 0]), (1, [0]), (0, [1, 1])].map (toItem (Tryz.f19.body.getD .skip))) [(0, .pointer n), (3, .int .i64 i)] w) (n : Option Addr) (i : Int) (w : World) (h : hostm_Net_NoneFailed.L1b n i w  N1 R) :
    KW Tryz.prog 19 16 (hostm_Net_NoneFailed.RV R) ([(0, [1, 0, 1, 0, 0]), (2, [1, 0, 1, 0, 0]), (1, [0]), (0, [1, 1])].map (toItem (Tryz.f19.body.getD .skip))) [(0, .pointer n), (3, .int .i64 i)] w := by
  exact block_spec Tryz.func19 Tryz.mixed (stops_cons (fun σ w h => by
      obtain ⟨n_, e0, h⟩ := dP_elim h
      obtain ⟨i_, e1, h⟩ := dI_elim h
      exact (hN1 n_ i_ w h).weaken (Sub.cons (Sub.cons (Sub.nil _) e1) e0)) stops_nil) (Eq.mp (hostm_Net_NoneFailed.L1b_eq n i w  N1 R ) h)
def hostm_Net_NoneFailed.L1 (n : Option Addr) (i : Int) (w : World)  (R : Bool → World → Prop) : Prop :=
  ∃ (I : Nat → Option Addr → Int → World → Prop) (m : Nat), I m n i w ∧ ∀ m n i w, I m n i w → hostm_Net_NoneFailed.L1b n i w  (fun n' i' w' => ∃ m', m' < m ∧ I m' n' i' w') R
theorem hostm_Net_NoneFailed.L1_sound {R : Bool → World → Prop}  (n : Option Addr) (i : Int) (w : World) (h : hostm_Net_NoneFailed.L1 n i w  R) :
    KW Tryz.prog 19 16 (hostm_Net_NoneFailed.RV R) ([(0, [1, 0, 1, 0, 0]), (2, [1, 0, 1, 0, 0]), (1, [0]), (0, [1, 1])].map (toItem (Tryz.f19.body.getD .skip))) [(0, .pointer n), (3, .int .i64 i)] w := by
  obtain ⟨I, m, hBase, hr⟩ := h
  refine KW.loop (fun m σ w => ∃ (n : Option Addr) (i : Int), σ = [(0, .pointer n), (3, .int .i64 i)] ∧ I m n i w) ?_ m _ w ⟨n, i, rfl, hBase⟩
  rintro m ih σ w ⟨n, i, rfl, hI⟩
  exact hostm_Net_NoneFailed.L1b_sound  (N1 := fun n' i' w' => ∃ m', m' < m ∧ I m' n' i' w') (fun n' i' w' hx => by obtain ⟨m', hlt, hI'⟩ := hx; exact ih m' hlt _ w' ⟨n', i', rfl, hI'⟩) n i w (hr m n i w hI)
def hostm_Net_NoneFailed.B0 (n : Option Addr) (w : World)   (R : Bool → World → Prop) : Prop :=
  hostm_Net_NoneFailed.L1 n (0 : Int) w  R
theorem hostm_Net_NoneFailed.B0_eq (n : Option Addr) (w : World)   (R : Bool → World → Prop) (sL1 : Option Addr → Int → World → Prop) :
    (
  sL1 n (0 : Int) w) = kstep Tryz.prog 16 Tryz.f19.results.toList (Tryz.f19.body.getD .skip) (hostm_Net_NoneFailed.RV R) (kvc Tryz.prog 16 Tryz.f19.results.toList (Tryz.f19.body.getD .skip) (hostm_Net_NoneFailed.RV R) [([(0, [1, 0, 1, 0, 0]), (2, [1, 0, 1, 0, 0]), (1, [0]), (0, [1, 1])], fun σ w => dP (slotOf σ 0) fun n_ => dI .i64 (slotOf σ 3) fun i_ => sL1 n_ i_ w)] 2000) [(0, [])] [(0, .pointer n)] w := by kernel_rfl
theorem hostm_Net_NoneFailed.B0_sound {R : Bool → World → Prop}  (n : Option Addr) (w : World) (h : hostm_Net_NoneFailed.B0 n w   R) :
    KW Tryz.prog 19 16 (hostm_Net_NoneFailed.RV R) ([(0, [])].map (toItem (Tryz.f19.body.getD .skip))) [(0, .pointer n)] w := by
  exact block_spec Tryz.func19 Tryz.mixed (stops_cons (fun σ w h => by
      obtain ⟨n_, e0, h⟩ := dP_elim h
      obtain ⟨i_, e1, h⟩ := dI_elim h
      exact (hostm_Net_NoneFailed.L1_sound  n_ i_ w h).weaken (Sub.cons (Sub.cons (Sub.nil _) e1) e0)) stops_nil) (Eq.mp (hostm_Net_NoneFailed.B0_eq n w   R (fun n_ i_ w => hostm_Net_NoneFailed.L1 n_ i_ w  R)) h)
theorem hostm_Net_NoneFailed.sound (n : Option Addr) (w : World) (R : Bool → World → Prop) (h : hostm_Net_NoneFailed.B0 n w R) : hostm_Net_NoneFailed.Call n w R := by
  have hc := calls_of_block (args := #[.pointer n]) Tryz.func19 (body := (Tryz.f19.body.getD .skip)) (by kernel_rfl) (by kernel_rfl) (args_slot _) (hostm_Net_NoneFailed.B0_sound n w h)
  exact hc.mono fun e w' he => by
    obtain ⟨v, rfl, hv⟩ := he
    exact hostm_Net_NoneFailed.RV_elim hv
def wirem_New.B0  (w : World)   (R : Option Addr → World → Prop) : Prop :=
  New (.cells #[.slice none 0 0] 98) w fun b2 w1 =>
  R (some ⟨b2, 0, none⟩) w1
theorem wirem_New.B0_eq  (w : World)   (R : Option Addr → World → Prop)  :
    (
  New (.cells #[.slice none 0 0] 98) w fun b2 w1 =>
  R (some ⟨b2, 0, none⟩) w1) = kstep Tryz.prog 3 Tryz.f20.results.toList (Tryz.f20.body.getD .skip) (wirem_New.RV R) (kvc Tryz.prog 3 Tryz.f20.results.toList (Tryz.f20.body.getD .skip) (wirem_New.RV R) [] 2000) [(0, [])] [] w := by kernel_rfl
theorem wirem_New.B0_sound {R : Option Addr → World → Prop}   (w : World) (h : wirem_New.B0  w   R) :
    KW Tryz.prog 20 3 (wirem_New.RV R) ([(0, [])].map (toItem (Tryz.f20.body.getD .skip))) [] w := by
  exact block_spec Tryz.func20 Tryz.mixed stops_nil (Eq.mp (wirem_New.B0_eq  w   R ) h)
theorem wirem_New.sound  (w : World) (R : Option Addr → World → Prop) (h : wirem_New.B0  w R) : wirem_New.Call  w R := by
  have hc := calls_of_block (args := #[]) Tryz.func20 (body := (Tryz.f20.body.getD .skip)) (by kernel_rfl) (by kernel_rfl) (args_slot _) (wirem_New.B0_sound  w h)
  exact hc.mono fun e w' he => by
    obtain ⟨v, rfl, hv⟩ := he
    exact wirem_New.RV_elim hv
def hostm_New.B0  (w : World)   (R : Option Addr → World → Prop) : Prop :=
  New (.cells #[.slice none 0 0, .int .i64 (0 : Int), .int .i64 (0 : Int), .int .i64 (0 : Int)] 80) w fun b2 w1 =>
  R (some ⟨b2, 0, none⟩) w1
theorem hostm_New.B0_eq  (w : World)   (R : Option Addr → World → Prop)  :
    (
  New (.cells #[.slice none 0 0, .int .i64 (0 : Int), .int .i64 (0 : Int), .int .i64 (0 : Int)] 80) w fun b2 w1 =>
  R (some ⟨b2, 0, none⟩) w1) = kstep Tryz.prog 3 Tryz.f21.results.toList (Tryz.f21.body.getD .skip) (hostm_New.RV R) (kvc Tryz.prog 3 Tryz.f21.results.toList (Tryz.f21.body.getD .skip) (hostm_New.RV R) [] 2000) [(0, [])] [] w := by kernel_rfl
theorem hostm_New.B0_sound {R : Option Addr → World → Prop}   (w : World) (h : hostm_New.B0  w   R) :
    KW Tryz.prog 21 3 (hostm_New.RV R) ([(0, [])].map (toItem (Tryz.f21.body.getD .skip))) [] w := by
  exact block_spec Tryz.func21 Tryz.mixed stops_nil (Eq.mp (hostm_New.B0_eq  w   R ) h)
theorem hostm_New.sound  (w : World) (R : Option Addr → World → Prop) (h : hostm_New.B0  w R) : hostm_New.Call  w R := by
  have hc := calls_of_block (args := #[]) Tryz.func21 (body := (Tryz.f21.body.getD .skip)) (by kernel_rfl) (by kernel_rfl) (args_slot _) (hostm_New.B0_sound  w h)
  exact hc.mono fun e w' he => by
    obtain ⟨v, rfl, hv⟩ := he
    exact hostm_New.RV_elim hv
def hostlaw_Ground.L1b (t2 b : Nat) (i : Int) (w : World)  (N1 : Nat → Nat → Int → World → Prop) (R : Option Addr → Option Addr → Option Addr → Option Addr → Option Addr → Option Addr → Option Addr → World → Prop) : Prop :=
  Bm (decide (i < (4 : Int))) (
    seg_NewSendBuf.Call  w fun r23 w1 =>
    seg_NewRecvBuf.Call  w1 fun r24 w2 =>
    conn_New.Call r23 r24 w2 fun r28 w3 =>
    (0 ≤ i ∧ i < ((4 : Nat) : Int)) ∧
    Sts [.pointer r28] (Addr.add ⟨b, 2, none⟩ (i.toNat * 1)) 0 w3 fun w4 =>
    N1 t2 b (IntKind.i64.wrap (i + (1 : Int))) w4) (
    LdP ⟨b, 0, none⟩ w fun x31_0 =>
    LdP ⟨b, 1, none⟩ w fun x31_1 =>
    LdP ⟨b, 2, none⟩ w fun x31_2 =>
    LdP ⟨b, 3, none⟩ w fun x31_3 =>
    LdP ⟨b, 4, none⟩ w fun x31_4 =>
    LdP ⟨b, 5, none⟩ w fun x31_5 =>
    LdP ⟨b, 6, none⟩ w fun x31_6 =>
    Sts [.pointer x31_0, .pointer x31_1, .pointer x31_2, .pointer x31_3, .pointer x31_4, .pointer x31_5, .pointer x31_6] ⟨t2, 0, none⟩ 0 w fun w5 =>
    LdP ⟨t2, 0, none⟩ w5 fun r_0 =>
    LdP ⟨t2, 1, none⟩ w5 fun r_1 =>
    LdP ⟨t2, 2, none⟩ w5 fun r_2 =>
    LdP ⟨t2, 3, none⟩ w5 fun r_3 =>
    LdP ⟨t2, 4, none⟩ w5 fun r_4 =>
    LdP ⟨t2, 5, none⟩ w5 fun r_5 =>
    LdP ⟨t2, 6, none⟩ w5 fun r_6 =>
    R r_0 r_1 r_2 r_3 r_4 r_5 r_6 w5)
theorem hostlaw_Ground.L1b_eq (t2 b : Nat) (i : Int) (w : World)  (N1 : Nat → Nat → Int → World → Prop) (R : Option Addr → Option Addr → Option Addr → Option Addr → Option Addr → Option Addr → Option Addr → World → Prop)  :
    (
  Bm (decide (i < (4 : Int))) (
    seg_NewSendBuf.Call  w fun r23 w1 =>
    seg_NewRecvBuf.Call  w1 fun r24 w2 =>
    conn_New.Call r23 r24 w2 fun r28 w3 =>
    (0 ≤ i ∧ i < ((4 : Nat) : Int)) ∧
    Sts [.pointer r28] (Addr.add ⟨b, 2, none⟩ (i.toNat * 1)) 0 w3 fun w4 =>
    N1 t2 b (IntKind.i64.wrap (i + (1 : Int))) w4) (
    LdP ⟨b, 0, none⟩ w fun x31_0 =>
    LdP ⟨b, 1, none⟩ w fun x31_1 =>
    LdP ⟨b, 2, none⟩ w fun x31_2 =>
    LdP ⟨b, 3, none⟩ w fun x31_3 =>
    LdP ⟨b, 4, none⟩ w fun x31_4 =>
    LdP ⟨b, 5, none⟩ w fun x31_5 =>
    LdP ⟨b, 6, none⟩ w fun x31_6 =>
    Sts [.pointer x31_0, .pointer x31_1, .pointer x31_2, .pointer x31_3, .pointer x31_4, .pointer x31_5, .pointer x31_6] ⟨t2, 0, none⟩ 0 w fun w5 =>
    LdP ⟨t2, 0, none⟩ w5 fun r_0 =>
    LdP ⟨t2, 1, none⟩ w5 fun r_1 =>
    LdP ⟨t2, 2, none⟩ w5 fun r_2 =>
    LdP ⟨t2, 3, none⟩ w5 fun r_3 =>
    LdP ⟨t2, 4, none⟩ w5 fun r_4 =>
    LdP ⟨t2, 5, none⟩ w5 fun r_5 =>
    LdP ⟨t2, 6, none⟩ w5 fun r_6 =>
    R r_0 r_1 r_2 r_3 r_4 r_5 r_6 w5)) = kstep Tryz.prog 32 Tryz.f22.results.toList (Tryz.f22.body.getD .skip) (hostlaw_Ground.RV R) (kvc Tryz.prog 32 Tryz.f22.results.toList (Tryz.f22.body.getD .skip) (hostlaw_Ground.RV R) [([(0, [1, 1, 1, 1, 1, 0, 1, 0, 0]), (2, [1, 1, 1, 1, 1, 0, 1, 0, 0]), (1, [0]), (0, [1, 1, 1, 1, 1, 1])], fun σ w => dK (slotOf σ 2) fun t2_ => dK (slotOf σ 6) fun b_ => dI .i64 (slotOf σ 7) fun i_ => N1 t2_ b_ i_ w)] 2000) [(0, [1, 1, 1, 1, 1, 0, 1, 0, 0]), (2, [1, 1, 1, 1, 1, 0, 1, 0, 0]), (1, [0]), (0, [1, 1, 1, 1, 1, 1])] [(2, .pointer (some ⟨t2, 0, none⟩)), (6, .pointer (some ⟨b, 0, none⟩)), (7, .int .i64 i)] w := by kernel_rfl
theorem hostlaw_Ground.L1b_sound {R : Option Addr → Option Addr → Option Addr → Option Addr → Option Addr → Option Addr → Option Addr → World → Prop} {N1 : Nat → Nat → Int → World → Prop} (hN1 : ∀ t2 b i w, N1 t2 b i w → KW Tryz.prog 22 32 (hostlaw_Ground.RV R) ([(0, [1, 1, 1, 1, 1, 0, 1, 0, 0]), (2, [1, 1, 1, 1, 1, 0, 1, 0, 0]), (1, [0]), (0, [1, 1, 1, 1, 1, 1])].map (toItem (Tryz.f22.body.getD .skip))) [(2, .pointer (some ⟨t2, 0, none⟩)), (6, .pointer (some ⟨b, 0, none⟩)), (7, .int .i64 i)] w) (t2 b : Nat) (i : Int) (w : World) (h : hostlaw_Ground.L1b t2 b i w  N1 R) :
    KW Tryz.prog 22 32 (hostlaw_Ground.RV R) ([(0, [1, 1, 1, 1, 1, 0, 1, 0, 0]), (2, [1, 1, 1, 1, 1, 0, 1, 0, 0]), (1, [0]), (0, [1, 1, 1, 1, 1, 1])].map (toItem (Tryz.f22.body.getD .skip))) [(2, .pointer (some ⟨t2, 0, none⟩)), (6, .pointer (some ⟨b, 0, none⟩)), (7, .int .i64 i)] w := by
  exact block_spec Tryz.func22 Tryz.mixed (stops_cons (fun σ w h => by
      obtain ⟨t2_, e0, h⟩ := dK_elim h
      obtain ⟨b_, e1, h⟩ := dK_elim h
      obtain ⟨i_, e2, h⟩ := dI_elim h
      exact (hN1 t2_ b_ i_ w h).weaken (Sub.cons (Sub.cons (Sub.cons (Sub.nil _) e2) e1) e0)) stops_nil) (Eq.mp (hostlaw_Ground.L1b_eq t2 b i w  N1 R ) h)
def hostlaw_Ground.L1 (t2 b : Nat) (i : Int) (w : World)  (R : Option Addr → Option Addr → Option Addr → Option Addr → Option Addr → Option Addr → Option Addr → World → Prop) : Prop :=
  ∃ (I : Nat → Nat → Nat → Int → World → Prop) (m : Nat), I m t2 b i w ∧ ∀ m t2 b i w, I m t2 b i w → hostlaw_Ground.L1b t2 b i w  (fun t2' b' i' w' => ∃ m', m' < m ∧ I m' t2' b' i' w') R
theorem hostlaw_Ground.L1_sound {R : Option Addr → Option Addr → Option Addr → Option Addr → Option Addr → Option Addr → Option Addr → World → Prop}  (t2 b : Nat) (i : Int) (w : World) (h : hostlaw_Ground.L1 t2 b i w  R) :
    KW Tryz.prog 22 32 (hostlaw_Ground.RV R) ([(0, [1, 1, 1, 1, 1, 0, 1, 0, 0]), (2, [1, 1, 1, 1, 1, 0, 1, 0, 0]), (1, [0]), (0, [1, 1, 1, 1, 1, 1])].map (toItem (Tryz.f22.body.getD .skip))) [(2, .pointer (some ⟨t2, 0, none⟩)), (6, .pointer (some ⟨b, 0, none⟩)), (7, .int .i64 i)] w := by
  obtain ⟨I, m, hBase, hr⟩ := h
  refine KW.loop (fun m σ w => ∃ (t2 b : Nat) (i : Int), σ = [(2, .pointer (some ⟨t2, 0, none⟩)), (6, .pointer (some ⟨b, 0, none⟩)), (7, .int .i64 i)] ∧ I m t2 b i w) ?_ m _ w ⟨t2, b, i, rfl, hBase⟩
  rintro m ih σ w ⟨t2, b, i, rfl, hI⟩
  exact hostlaw_Ground.L1b_sound  (N1 := fun t2' b' i' w' => ∃ m', m' < m ∧ I m' t2' b' i' w') (fun t2' b' i' w' hx => by obtain ⟨m', hlt, hI'⟩ := hx; exact ih m' hlt _ w' ⟨t2', b', i', rfl, hI'⟩) t2 b i w (hr m t2 b i w hI)
def hostlaw_Ground.B0 (addr : Int) (w : World)   (R : Option Addr → Option Addr → Option Addr → Option Addr → Option Addr → Option Addr → Option Addr → World → Prop) : Prop :=
  New (.cells #[.pointer none, .pointer none, .pointer none, .pointer none, .pointer none, .pointer none, .pointer none] 41) w fun b2 w1 =>
  frame_New.Call addr w1 fun r11 w2 =>
  ip_New.Call addr w2 fun r13 w3 =>
  sock_New.Call  w3 fun r14 w4 =>
  New (.cells #[.pointer none, .pointer none, .pointer none, .pointer none, .pointer none, .pointer none, .pointer none] 41) w4 fun b_ w5 =>
  Sts [.pointer r11, .pointer r13, .pointer none, .pointer none, .pointer none, .pointer none, .pointer r14] ⟨b_, 0, none⟩ 0 w5 fun w6 =>
  hostlaw_Ground.L1 b2 b_ (0 : Int) w6  R
theorem hostlaw_Ground.B0_eq (addr : Int) (w : World)   (R : Option Addr → Option Addr → Option Addr → Option Addr → Option Addr → Option Addr → Option Addr → World → Prop) (sL1 : Nat → Nat → Int → World → Prop) :
    (
  New (.cells #[.pointer none, .pointer none, .pointer none, .pointer none, .pointer none, .pointer none, .pointer none] 41) w fun b2 w1 =>
  frame_New.Call addr w1 fun r11 w2 =>
  ip_New.Call addr w2 fun r13 w3 =>
  sock_New.Call  w3 fun r14 w4 =>
  New (.cells #[.pointer none, .pointer none, .pointer none, .pointer none, .pointer none, .pointer none, .pointer none] 41) w4 fun b_ w5 =>
  Sts [.pointer r11, .pointer r13, .pointer none, .pointer none, .pointer none, .pointer none, .pointer r14] ⟨b_, 0, none⟩ 0 w5 fun w6 =>
  sL1 b2 b_ (0 : Int) w6) = kstep Tryz.prog 32 Tryz.f22.results.toList (Tryz.f22.body.getD .skip) (hostlaw_Ground.RV R) (kvc Tryz.prog 32 Tryz.f22.results.toList (Tryz.f22.body.getD .skip) (hostlaw_Ground.RV R) [([(0, [1, 1, 1, 1, 1, 0, 1, 0, 0]), (2, [1, 1, 1, 1, 1, 0, 1, 0, 0]), (1, [0]), (0, [1, 1, 1, 1, 1, 1])], fun σ w => dK (slotOf σ 2) fun t2_ => dK (slotOf σ 6) fun b_ => dI .i64 (slotOf σ 7) fun i_ => sL1 t2_ b_ i_ w)] 2000) [(0, [])] [(0, .int .i64 addr)] w := by kernel_rfl
theorem hostlaw_Ground.B0_sound {R : Option Addr → Option Addr → Option Addr → Option Addr → Option Addr → Option Addr → Option Addr → World → Prop}  (addr : Int) (w : World) (h : hostlaw_Ground.B0 addr w   R) :
    KW Tryz.prog 22 32 (hostlaw_Ground.RV R) ([(0, [])].map (toItem (Tryz.f22.body.getD .skip))) [(0, .int .i64 addr)] w := by
  exact block_spec Tryz.func22 Tryz.mixed (stops_cons (fun σ w h => by
      obtain ⟨t2_, e0, h⟩ := dK_elim h
      obtain ⟨b_, e1, h⟩ := dK_elim h
      obtain ⟨i_, e2, h⟩ := dI_elim h
      exact (hostlaw_Ground.L1_sound  t2_ b_ i_ w h).weaken (Sub.cons (Sub.cons (Sub.cons (Sub.nil _) e2) e1) e0)) stops_nil) (Eq.mp (hostlaw_Ground.B0_eq addr w   R (fun t2_ b_ i_ w => hostlaw_Ground.L1 t2_ b_ i_ w  R)) h)
theorem hostlaw_Ground.sound (addr : Int) (w : World) (R : Option Addr → Option Addr → Option Addr → Option Addr → Option Addr → Option Addr → Option Addr → World → Prop) (h : hostlaw_Ground.B0 addr w R) : hostlaw_Ground.Call addr w R := by
  have hc := calls_of_block (args := #[.int .i64 addr]) Tryz.func22 (body := (Tryz.f22.body.getD .skip)) (by kernel_rfl) (by kernel_rfl) (args_slot _) (hostlaw_Ground.B0_sound addr w h)
  exact hc.mono fun e w' he => by
    obtain ⟨v, rfl, hv⟩ := he
    exact hostlaw_Ground.RV_elim hv
def host_New.B0 (addr : Int) (l p c_0 c_1 c_2 c_3 t : Option Addr) (w : World)   (R : Option Addr → World → Prop) : Prop :=
  New (.cells #[.pointer c_0, .pointer c_1, .pointer c_2, .pointer c_3] 38) w fun c_ w1 =>
  LdP ⟨c_, 0, none⟩ w1 fun x14_0 =>
  LdP ⟨c_, 1, none⟩ w1 fun x14_1 =>
  LdP ⟨c_, 2, none⟩ w1 fun x14_2 =>
  LdP ⟨c_, 3, none⟩ w1 fun x14_3 =>
  New (.cells #[.int .i64 addr, .int .i64 (0 : Int), .int .i64 (0 : Int), .int .i64 (0 : Int), .int .i64 (0 : Int), .int .i64 (0 : Int), .int .i64 (0 : Int), .int .i64 (0 : Int), .int .i64 (0 : Int), .int .i64 (0 : Int), .int .i64 (0 : Int), .pointer l, .pointer p, .pointer x14_0, .pointer x14_1, .pointer x14_2, .pointer x14_3, .pointer t] 109) w1 fun b17 w2 =>
  R (some ⟨b17, 0, none⟩) w2
theorem host_New.B0_eq (addr : Int) (l p c_0 c_1 c_2 c_3 t : Option Addr) (w : World)   (R : Option Addr → World → Prop)  :
    (
  New (.cells #[.pointer c_0, .pointer c_1, .pointer c_2, .pointer c_3] 38) w fun c_ w1 =>
  LdP ⟨c_, 0, none⟩ w1 fun x14_0 =>
  LdP ⟨c_, 1, none⟩ w1 fun x14_1 =>
  LdP ⟨c_, 2, none⟩ w1 fun x14_2 =>
  LdP ⟨c_, 3, none⟩ w1 fun x14_3 =>
  New (.cells #[.int .i64 addr, .int .i64 (0 : Int), .int .i64 (0 : Int), .int .i64 (0 : Int), .int .i64 (0 : Int), .int .i64 (0 : Int), .int .i64 (0 : Int), .int .i64 (0 : Int), .int .i64 (0 : Int), .int .i64 (0 : Int), .int .i64 (0 : Int), .pointer l, .pointer p, .pointer x14_0, .pointer x14_1, .pointer x14_2, .pointer x14_3, .pointer t] 109) w1 fun b17 w2 =>
  R (some ⟨b17, 0, none⟩) w2) = kstep Tryz.prog 18 Tryz.f23.results.toList (Tryz.f23.body.getD .skip) (host_New.RV R) (kvc Tryz.prog 18 Tryz.f23.results.toList (Tryz.f23.body.getD .skip) (host_New.RV R) [] 2000) [(0, [])] [(0, .int .i64 addr), (1, .pointer l), (2, .pointer p), (3, .agg #[.pointer c_0, .pointer c_1, .pointer c_2, .pointer c_3]), (4, .pointer t)] w := by kernel_rfl
theorem host_New.B0_sound {R : Option Addr → World → Prop}  (addr : Int) (l p c_0 c_1 c_2 c_3 t : Option Addr) (w : World) (h : host_New.B0 addr l p c_0 c_1 c_2 c_3 t w   R) :
    KW Tryz.prog 23 18 (host_New.RV R) ([(0, [])].map (toItem (Tryz.f23.body.getD .skip))) [(0, .int .i64 addr), (1, .pointer l), (2, .pointer p), (3, .agg #[.pointer c_0, .pointer c_1, .pointer c_2, .pointer c_3]), (4, .pointer t)] w := by
  exact block_spec Tryz.func23 Tryz.mixed stops_nil (Eq.mp (host_New.B0_eq addr l p c_0 c_1 c_2 c_3 t w   R ) h)
theorem host_New.sound (addr : Int) (l p c_0 c_1 c_2 c_3 t : Option Addr) (w : World) (R : Option Addr → World → Prop) (h : host_New.B0 addr l p c_0 c_1 c_2 c_3 t w R) : host_New.Call addr l p c_0 c_1 c_2 c_3 t w R := by
  have hc := calls_of_block (args := #[.int .i64 addr, .pointer l, .pointer p, .agg #[.pointer c_0, .pointer c_1, .pointer c_2, .pointer c_3], .pointer t]) Tryz.func23 (body := (Tryz.f23.body.getD .skip)) (by kernel_rfl) (by kernel_rfl) (args_slot _) (host_New.B0_sound addr l p c_0 c_1 c_2 c_3 t w h)
  exact hc.mono fun e w' he => by
    obtain ⟨v, rfl, hv⟩ := he
    exact host_New.RV_elim hv
def hostlaw_Build.B0 (a : Int) (w : World)   (R : Option Addr → World → Prop) : Prop :=
  hostlaw_Ground.Call a w fun r5_0 r5_1 r5_2 r5_3 r5_4 r5_5 r5_6 w1 =>
  New (.cells #[.pointer none, .pointer none, .pointer none, .pointer none, .pointer none, .pointer none, .pointer none] 41) w1 fun b_ w2 =>
  Sts [.pointer r5_0, .pointer r5_1, .pointer r5_2, .pointer r5_3, .pointer r5_4, .pointer r5_5, .pointer r5_6] ⟨b_, 0, none⟩ 0 w2 fun w3 =>
  LdP ⟨b_, 0, none⟩ w3 fun x8 =>
  LdP ⟨b_, 1, none⟩ w3 fun x10 =>
  LdP ⟨b_, 2, none⟩ w3 fun x12_0 =>
  LdP ⟨b_, 3, none⟩ w3 fun x12_1 =>
  LdP ⟨b_, 4, none⟩ w3 fun x12_2 =>
  LdP ⟨b_, 5, none⟩ w3 fun x12_3 =>
  LdP ⟨b_, 6, none⟩ w3 fun x14 =>
  host_New.Call a x8 x10 x12_0 x12_1 x12_2 x12_3 x14 w3 fun r15 w4 =>
  R r15 w4
theorem hostlaw_Build.B0_eq (a : Int) (w : World)   (R : Option Addr → World → Prop)  :
    (
  hostlaw_Ground.Call a w fun r5_0 r5_1 r5_2 r5_3 r5_4 r5_5 r5_6 w1 =>
  New (.cells #[.pointer none, .pointer none, .pointer none, .pointer none, .pointer none, .pointer none, .pointer none] 41) w1 fun b_ w2 =>
  Sts [.pointer r5_0, .pointer r5_1, .pointer r5_2, .pointer r5_3, .pointer r5_4, .pointer r5_5, .pointer r5_6] ⟨b_, 0, none⟩ 0 w2 fun w3 =>
  LdP ⟨b_, 0, none⟩ w3 fun x8 =>
  LdP ⟨b_, 1, none⟩ w3 fun x10 =>
  LdP ⟨b_, 2, none⟩ w3 fun x12_0 =>
  LdP ⟨b_, 3, none⟩ w3 fun x12_1 =>
  LdP ⟨b_, 4, none⟩ w3 fun x12_2 =>
  LdP ⟨b_, 5, none⟩ w3 fun x12_3 =>
  LdP ⟨b_, 6, none⟩ w3 fun x14 =>
  host_New.Call a x8 x10 x12_0 x12_1 x12_2 x12_3 x14 w3 fun r15 w4 =>
  R r15 w4) = kstep Tryz.prog 16 Tryz.f24.results.toList (Tryz.f24.body.getD .skip) (hostlaw_Build.RV R) (kvc Tryz.prog 16 Tryz.f24.results.toList (Tryz.f24.body.getD .skip) (hostlaw_Build.RV R) [] 2000) [(0, [])] [(0, .int .i64 a)] w := by kernel_rfl
theorem hostlaw_Build.B0_sound {R : Option Addr → World → Prop}  (a : Int) (w : World) (h : hostlaw_Build.B0 a w   R) :
    KW Tryz.prog 24 16 (hostlaw_Build.RV R) ([(0, [])].map (toItem (Tryz.f24.body.getD .skip))) [(0, .int .i64 a)] w := by
  exact block_spec Tryz.func24 Tryz.mixed stops_nil (Eq.mp (hostlaw_Build.B0_eq a w   R ) h)
theorem hostlaw_Build.sound (a : Int) (w : World) (R : Option Addr → World → Prop) (h : hostlaw_Build.B0 a w R) : hostlaw_Build.Call a w R := by
  have hc := calls_of_block (args := #[.int .i64 a]) Tryz.func24 (body := (Tryz.f24.body.getD .skip)) (by kernel_rfl) (by kernel_rfl) (args_slot _) (hostlaw_Build.B0_sound a w h)
  exact hc.mono fun e w' he => by
    obtain ⟨v, rfl, hv⟩ := he
    exact hostlaw_Build.RV_elim hv
def host_Host_Check.B4 (h0 : Option Addr) (used : Nat) (list_b : Option Addr) (list_l list_c : Nat) (i : Int) (t77 : Bool) (w : World) (N1 : Option Addr → Nat → Option Addr → Nat → Nat → Int → World → Prop)  (R : Bool → World → Prop) : Prop :=
  Bm t77 (
    R false w) (
    N1 h0 used list_b list_l list_c (IntKind.i64.wrap (i + (1 : Int))) w)
theorem host_Host_Check.B4_eq (h0 : Option Addr) (used : Nat) (list_b : Option Addr) (list_l list_c : Nat) (i : Int) (t77 : Bool) (w : World) (N1 : Option Addr → Nat → Option Addr → Nat → Nat → Int → World → Prop)  (R : Bool → World → Prop)  :
    (
  Bm t77 (
    R false w) (
    N1 h0 used list_b list_l list_c (IntKind.i64.wrap (i + (1 : Int))) w)) = kstep Tryz.prog 117 Tryz.f25.results.toList (Tryz.f25.body.getD .skip) (host_Host_Check.RV R) (kvc Tryz.prog 117 Tryz.f25.results.toList (Tryz.f25.body.getD .skip) (host_Host_Check.RV R) [([(0, [1, 1, 1, 0, 1, 0, 0]), (2, [1, 1, 1, 0, 1, 0, 0]), (1, [0]), (0, [1, 1, 1, 1])], fun σ w => dP (slotOf σ 0) fun h0_ => dK (slotOf σ 3) fun used_ => dL (slotOf σ 4) fun list_b_ list_l_ list_c_ => dI .i64 (slotOf σ 5) fun i_ => N1 h0_ used_ list_b_ list_l_ list_c_ i_ w)] 2000) [(0, [1, 1, 1, 0, 1, 0, 0, 1, 0, 0, 1, 1, 1, 1, 1, 1, 1, 1]), (1, [1]), (0, [1, 1, 1, 0, 1, 0, 0, 1, 1]), (2, [1, 1, 1, 0, 1, 0, 0]), (1, [0]), (0, [1, 1, 1, 1])] [(0, .pointer h0), (3, .pointer (some ⟨used, 0, none⟩)), (4, .slice list_b list_l list_c), (5, .int .i64 i), (77, .bool t77)] w := by kernel_rfl
theorem host_Host_Check.B4_sound {R : Bool → World → Prop} {N1 : Option Addr → Nat → Option Addr → Nat → Nat → Int → World → Prop} (hN1 : ∀ h0 used list_b list_l list_c i w, N1 h0 used list_b list_l list_c i w → KW Tryz.prog 25 117 (host_Host_Check.RV R) ([(0, [1, 1, 1, 0, 1, 0, 0]), (2, [1, 1, 1, 0, 1, 0, 0]), (1, [0]), (0, [1, 1, 1, 1])].map (toItem (Tryz.f25.body.getD .skip))) [(0, .pointer h0), (3, .pointer (some ⟨used, 0, none⟩)), (4, .slice list_b list_l list_c), (5, .int .i64 i)] w) (h0 : Option Addr) (used : Nat) (list_b : Option Addr) (list_l list_c : Nat) (i : Int) (t77 : Bool) (w : World) (h : host_Host_Check.B4 h0 used list_b list_l list_c i t77 w N1  R) :
    KW Tryz.prog 25 117 (host_Host_Check.RV R) ([(0, [1, 1, 1, 0, 1, 0, 0, 1, 0, 0, 1, 1, 1, 1, 1, 1, 1, 1]), (1, [1]), (0, [1, 1, 1, 0, 1, 0, 0, 1, 1]), (2, [1, 1, 1, 0, 1, 0, 0]), (1, [0]), (0, [1, 1, 1, 1])].map (toItem (Tryz.f25.body.getD .skip))) [(0, .pointer h0), (3, .pointer (some ⟨used, 0, none⟩)), (4, .slice list_b list_l list_c), (5, .int .i64 i), (77, .bool t77)] w := by
  exact block_spec Tryz.func25 Tryz.mixed (stops_cons (fun σ w h => by
      obtain ⟨h0_, e0, h⟩ := dP_elim h
      obtain ⟨used_, e1, h⟩ := dK_elim h
      obtain ⟨list_b_, list_l_, list_c_, e2, h⟩ := dL_elim h
      obtain ⟨i_, e3, h⟩ := dI_elim h
      exact (hN1 h0_ used_ list_b_ list_l_ list_c_ i_ w h).weaken (Sub.cons (Sub.cons (Sub.cons (Sub.cons (Sub.nil _) e3) e2) e1) e0)) stops_nil) (Eq.mp (host_Host_Check.B4_eq h0 used list_b list_l list_c i t77 w N1  R ) h)
def host_Host_Check.B2 (h0 : Option Addr) (used : Nat) (list_b : Option Addr) (list_l list_c : Nat) (i : Int) (en : Nat) (t51 : Bool) (w : World) (N1 : Option Addr → Nat → Option Addr → Nat → Nat → Int → World → Prop)  (R : Bool → World → Prop) : Prop :=
  Bm t51 (
    R false w) (
    LdI .i64 ⟨en, 5, none⟩ w fun x53 =>
    (0 ≤ x53 ∧ x53 < ((4 : Nat) : Int)) ∧
    Sts [.bool true] (Addr.add ⟨used, 0, none⟩ (x53.toNat * 1)) 0 w fun w1 =>
    LdI .i64 ⟨en, 5, none⟩ w1.drew fun x57 =>
    Pn h0 fun a =>
    (0 ≤ x57 ∧ x57 < ((4 : Nat) : Int)) ∧
    LdP (Addr.add (a.add 13) (x57.toNat * 1)) w1.drew fun x61 =>
    conn_Conn_Info.Call x61 w1.drew fun r62 w2 =>
    Pn r62 fun a_1 =>
    LdI .i64 a_1 w2 fun x65 =>
    Bm (x65 == (0 : Int)) (
      R false w2) (
      LdB ⟨en, 7, none⟩ w2 fun x69 =>
      Bm x69 (
        Bm (x65 != (3 : Int)) (
          host_Host_Check.B4 h0 used list_b list_l list_c i (x65 != (4 : Int)) w2 N1 R) (
          host_Host_Check.B4 h0 used list_b list_l list_c i false w2 N1 R)) (
        host_Host_Check.B4 h0 used list_b list_l list_c i false w2 N1 R)))
theorem host_Host_Check.B2_eq (h0 : Option Addr) (used : Nat) (list_b : Option Addr) (list_l list_c : Nat) (i : Int) (en : Nat) (t51 : Bool) (w : World) (N1 : Option Addr → Nat → Option Addr → Nat → Nat → Int → World → Prop)  (R : Bool → World → Prop) (sB4 : Option Addr → Nat → Option Addr → Nat → Nat → Int → Bool → World → Prop) :
    (
  Bm t51 (
    R false w) (
    LdI .i64 ⟨en, 5, none⟩ w fun x53 =>
    (0 ≤ x53 ∧ x53 < ((4 : Nat) : Int)) ∧
    Sts [.bool true] (Addr.add ⟨used, 0, none⟩ (x53.toNat * 1)) 0 w fun w1 =>
    LdI .i64 ⟨en, 5, none⟩ w1.drew fun x57 =>
    Pn h0 fun a =>
    (0 ≤ x57 ∧ x57 < ((4 : Nat) : Int)) ∧
    LdP (Addr.add (a.add 13) (x57.toNat * 1)) w1.drew fun x61 =>
    conn_Conn_Info.Call x61 w1.drew fun r62 w2 =>
    Pn r62 fun a_1 =>
    LdI .i64 a_1 w2 fun x65 =>
    Bm (x65 == (0 : Int)) (
      R false w2) (
      LdB ⟨en, 7, none⟩ w2 fun x69 =>
      Bm x69 (
        Bm (x65 != (3 : Int)) (
          sB4 h0 used list_b list_l list_c i (x65 != (4 : Int)) w2) (
          sB4 h0 used list_b list_l list_c i false w2)) (
        sB4 h0 used list_b list_l list_c i false w2)))) = kstep Tryz.prog 117 Tryz.f25.results.toList (Tryz.f25.body.getD .skip) (host_Host_Check.RV R) (kvc Tryz.prog 117 Tryz.f25.results.toList (Tryz.f25.body.getD .skip) (host_Host_Check.RV R) [([(0, [1, 1, 1, 0, 1, 0, 0, 1, 0, 0, 1, 1, 1, 1, 1, 1, 1, 1]), (1, [1]), (0, [1, 1, 1, 0, 1, 0, 0, 1, 1]), (2, [1, 1, 1, 0, 1, 0, 0]), (1, [0]), (0, [1, 1, 1, 1])], fun σ w => dP (slotOf σ 0) fun h0_ => dK (slotOf σ 3) fun used_ => dL (slotOf σ 4) fun list_b_ list_l_ list_c_ => dI .i64 (slotOf σ 5) fun i_ => dB (slotOf σ 77) fun t77_ => sB4 h0_ used_ list_b_ list_l_ list_c_ i_ t77_ w)] 2000) [(0, [1, 1, 1, 0, 1, 0, 0, 1, 0, 0, 1, 1, 1, 0, 1]), (0, [1, 1, 1, 0, 1, 0, 0, 1, 0, 0, 1, 1, 1, 1]), (1, [1]), (0, [1, 1, 1, 0, 1, 0, 0, 1, 1]), (2, [1, 1, 1, 0, 1, 0, 0]), (1, [0]), (0, [1, 1, 1, 1])] [(0, .pointer h0), (3, .pointer (some ⟨used, 0, none⟩)), (4, .slice list_b list_l list_c), (5, .int .i64 i), (6, .pointer (some ⟨en, 0, none⟩)), (51, .bool t51)] w := by kernel_rfl
theorem host_Host_Check.B2_sound {R : Bool → World → Prop} {N1 : Option Addr → Nat → Option Addr → Nat → Nat → Int → World → Prop} (hN1 : ∀ h0 used list_b list_l list_c i w, N1 h0 used list_b list_l list_c i w → KW Tryz.prog 25 117 (host_Host_Check.RV R) ([(0, [1, 1, 1, 0, 1, 0, 0]), (2, [1, 1, 1, 0, 1, 0, 0]), (1, [0]), (0, [1, 1, 1, 1])].map (toItem (Tryz.f25.body.getD .skip))) [(0, .pointer h0), (3, .pointer (some ⟨used, 0, none⟩)), (4, .slice list_b list_l list_c), (5, .int .i64 i)] w) (h0 : Option Addr) (used : Nat) (list_b : Option Addr) (list_l list_c : Nat) (i : Int) (en : Nat) (t51 : Bool) (w : World) (h : host_Host_Check.B2 h0 used list_b list_l list_c i en t51 w N1  R) :
    KW Tryz.prog 25 117 (host_Host_Check.RV R) ([(0, [1, 1, 1, 0, 1, 0, 0, 1, 0, 0, 1, 1, 1, 0, 1]), (0, [1, 1, 1, 0, 1, 0, 0, 1, 0, 0, 1, 1, 1, 1]), (1, [1]), (0, [1, 1, 1, 0, 1, 0, 0, 1, 1]), (2, [1, 1, 1, 0, 1, 0, 0]), (1, [0]), (0, [1, 1, 1, 1])].map (toItem (Tryz.f25.body.getD .skip))) [(0, .pointer h0), (3, .pointer (some ⟨used, 0, none⟩)), (4, .slice list_b list_l list_c), (5, .int .i64 i), (6, .pointer (some ⟨en, 0, none⟩)), (51, .bool t51)] w := by
  exact block_spec Tryz.func25 Tryz.mixed (stops_cons (fun σ w h => by
      obtain ⟨h0_, e0, h⟩ := dP_elim h
      obtain ⟨used_, e1, h⟩ := dK_elim h
      obtain ⟨list_b_, list_l_, list_c_, e2, h⟩ := dL_elim h
      obtain ⟨i_, e3, h⟩ := dI_elim h
      obtain ⟨t77_, e4, h⟩ := dB_elim h
      exact (host_Host_Check.B4_sound hN1 h0_ used_ list_b_ list_l_ list_c_ i_ t77_ w h).weaken (Sub.cons (Sub.cons (Sub.cons (Sub.cons (Sub.cons (Sub.nil _) e4) e3) e2) e1) e0)) stops_nil) (Eq.mp (host_Host_Check.B2_eq h0 used list_b list_l list_c i en t51 w N1  R (fun h0_ used_ list_b_ list_l_ list_c_ i_ t77_ w => host_Host_Check.B4 h0_ used_ list_b_ list_l_ list_c_ i_ t77_ w N1 R)) h)
def host_Host_Check.B1 (h0 : Option Addr) (used : Nat) (list_b : Option Addr) (list_l list_c : Nat) (i : Int) (en : Nat) (e : Int) (w : World) (N1 : Option Addr → Nat → Option Addr → Nat → Nat → Int → World → Prop)  (R : Bool → World → Prop) : Prop :=
  Bm (e != (0 : Int)) (
    R false w) (
    LdI .i64 ⟨en, 1, none⟩ w fun x36 =>
    Bm (x36 != (2 : Int)) (
      N1 h0 used list_b list_l list_c (IntKind.i64.wrap (i + (1 : Int))) w) (
      LdI .i64 ⟨en, 5, none⟩ w fun x39 =>
      Bm (decide (x39 < (0 : Int))) (
        host_Host_Check.B2 h0 used list_b list_l list_c i en true w N1 R) (
        LdI .i64 ⟨en, 5, none⟩ w fun x43 =>
        Bm (decide (x43 ≥ (4 : Int))) (
          host_Host_Check.B2 h0 used list_b list_l list_c i en true w N1 R) (
          LdI .i64 ⟨en, 5, none⟩ w fun x48 =>
          (0 ≤ x48 ∧ x48 < ((4 : Nat) : Int)) ∧
          LdB (Addr.add ⟨used, 0, none⟩ (x48.toNat * 1)) w fun x50 =>
          host_Host_Check.B2 h0 used list_b list_l list_c i en x50 w N1 R))))
theorem host_Host_Check.B1_eq (h0 : Option Addr) (used : Nat) (list_b : Option Addr) (list_l list_c : Nat) (i : Int) (en : Nat) (e : Int) (w : World) (N1 : Option Addr → Nat → Option Addr → Nat → Nat → Int → World → Prop)  (R : Bool → World → Prop) (sB2 : Option Addr → Nat → Option Addr → Nat → Nat → Int → Nat → Bool → World → Prop) :
    (
  Bm (e != (0 : Int)) (
    R false w) (
    LdI .i64 ⟨en, 1, none⟩ w fun x36 =>
    Bm (x36 != (2 : Int)) (
      N1 h0 used list_b list_l list_c (IntKind.i64.wrap (i + (1 : Int))) w) (
      LdI .i64 ⟨en, 5, none⟩ w fun x39 =>
      Bm (decide (x39 < (0 : Int))) (
        sB2 h0 used list_b list_l list_c i en true w) (
        LdI .i64 ⟨en, 5, none⟩ w fun x43 =>
        Bm (decide (x43 ≥ (4 : Int))) (
          sB2 h0 used list_b list_l list_c i en true w) (
          LdI .i64 ⟨en, 5, none⟩ w fun x48 =>
          (0 ≤ x48 ∧ x48 < ((4 : Nat) : Int)) ∧
          LdB (Addr.add ⟨used, 0, none⟩ (x48.toNat * 1)) w fun x50 =>
          sB2 h0 used list_b list_l list_c i en x50 w))))) = kstep Tryz.prog 117 Tryz.f25.results.toList (Tryz.f25.body.getD .skip) (host_Host_Check.RV R) (kvc Tryz.prog 117 Tryz.f25.results.toList (Tryz.f25.body.getD .skip) (host_Host_Check.RV R) [([(0, [1, 1, 1, 0, 1, 0, 0]), (2, [1, 1, 1, 0, 1, 0, 0]), (1, [0]), (0, [1, 1, 1, 1])], fun σ w => dP (slotOf σ 0) fun h0_ => dK (slotOf σ 3) fun used_ => dL (slotOf σ 4) fun list_b_ list_l_ list_c_ => dI .i64 (slotOf σ 5) fun i_ => N1 h0_ used_ list_b_ list_l_ list_c_ i_ w),
    ([(0, [1, 1, 1, 0, 1, 0, 0, 1, 0, 0, 1, 1, 1, 0, 1]), (0, [1, 1, 1, 0, 1, 0, 0, 1, 0, 0, 1, 1, 1, 1]), (1, [1]), (0, [1, 1, 1, 0, 1, 0, 0, 1, 1]), (2, [1, 1, 1, 0, 1, 0, 0]), (1, [0]), (0, [1, 1, 1, 1])], fun σ w => dP (slotOf σ 0) fun h0_ => dK (slotOf σ 3) fun used_ => dL (slotOf σ 4) fun list_b_ list_l_ list_c_ => dI .i64 (slotOf σ 5) fun i_ => dK (slotOf σ 6) fun en_ => dB (slotOf σ 51) fun t51_ => sB2 h0_ used_ list_b_ list_l_ list_c_ i_ en_ t51_ w)] 2000) [(0, [1, 1, 1, 0, 1, 0, 0, 1, 0, 0, 1]), (1, [1]), (0, [1, 1, 1, 0, 1, 0, 0, 1, 1]), (2, [1, 1, 1, 0, 1, 0, 0]), (1, [0]), (0, [1, 1, 1, 1])] [(0, .pointer h0), (3, .pointer (some ⟨used, 0, none⟩)), (4, .slice list_b list_l list_c), (5, .int .i64 i), (6, .pointer (some ⟨en, 0, none⟩)), (7, .int .i64 e)] w := by kernel_rfl
theorem host_Host_Check.B1_sound {R : Bool → World → Prop} {N1 : Option Addr → Nat → Option Addr → Nat → Nat → Int → World → Prop} (hN1 : ∀ h0 used list_b list_l list_c i w, N1 h0 used list_b list_l list_c i w → KW Tryz.prog 25 117 (host_Host_Check.RV R) ([(0, [1, 1, 1, 0, 1, 0, 0]), (2, [1, 1, 1, 0, 1, 0, 0]), (1, [0]), (0, [1, 1, 1, 1])].map (toItem (Tryz.f25.body.getD .skip))) [(0, .pointer h0), (3, .pointer (some ⟨used, 0, none⟩)), (4, .slice list_b list_l list_c), (5, .int .i64 i)] w) (h0 : Option Addr) (used : Nat) (list_b : Option Addr) (list_l list_c : Nat) (i : Int) (en : Nat) (e : Int) (w : World) (h : host_Host_Check.B1 h0 used list_b list_l list_c i en e w N1  R) :
    KW Tryz.prog 25 117 (host_Host_Check.RV R) ([(0, [1, 1, 1, 0, 1, 0, 0, 1, 0, 0, 1]), (1, [1]), (0, [1, 1, 1, 0, 1, 0, 0, 1, 1]), (2, [1, 1, 1, 0, 1, 0, 0]), (1, [0]), (0, [1, 1, 1, 1])].map (toItem (Tryz.f25.body.getD .skip))) [(0, .pointer h0), (3, .pointer (some ⟨used, 0, none⟩)), (4, .slice list_b list_l list_c), (5, .int .i64 i), (6, .pointer (some ⟨en, 0, none⟩)), (7, .int .i64 e)] w := by
  exact block_spec Tryz.func25 Tryz.mixed (stops_cons (fun σ w h => by
      obtain ⟨h0_, e0, h⟩ := dP_elim h
      obtain ⟨used_, e1, h⟩ := dK_elim h
      obtain ⟨list_b_, list_l_, list_c_, e2, h⟩ := dL_elim h
      obtain ⟨i_, e3, h⟩ := dI_elim h
      exact (hN1 h0_ used_ list_b_ list_l_ list_c_ i_ w h).weaken (Sub.cons (Sub.cons (Sub.cons (Sub.cons (Sub.nil _) e3) e2) e1) e0)) (stops_cons (fun σ w h => by
      obtain ⟨h0_, e0, h⟩ := dP_elim h
      obtain ⟨used_, e1, h⟩ := dK_elim h
      obtain ⟨list_b_, list_l_, list_c_, e2, h⟩ := dL_elim h
      obtain ⟨i_, e3, h⟩ := dI_elim h
      obtain ⟨en_, e4, h⟩ := dK_elim h
      obtain ⟨t51_, e5, h⟩ := dB_elim h
      exact (host_Host_Check.B2_sound hN1 h0_ used_ list_b_ list_l_ list_c_ i_ en_ t51_ w h).weaken (Sub.cons (Sub.cons (Sub.cons (Sub.cons (Sub.cons (Sub.cons (Sub.nil _) e5) e4) e3) e2) e1) e0)) stops_nil)) (Eq.mp (host_Host_Check.B1_eq h0 used list_b list_l list_c i en e w N1  R (fun h0_ used_ list_b_ list_l_ list_c_ i_ en_ t51_ w => host_Host_Check.B2 h0_ used_ list_b_ list_l_ list_c_ i_ en_ t51_ w N1 R)) h)
def host_Host_Check.B3 (h0 : Option Addr) (used : Nat) (s : Int) (w : World) (N2 : Option Addr → Nat → Int → World → Prop)  (R : Bool → World → Prop) : Prop :=
  N2 h0 used (IntKind.i64.wrap (s + (1 : Int))) w
theorem host_Host_Check.B3_eq (h0 : Option Addr) (used : Nat) (s : Int) (w : World) (N2 : Option Addr → Nat → Int → World → Prop)  (R : Bool → World → Prop)  :
    (
  N2 h0 used (IntKind.i64.wrap (s + (1 : Int))) w) = kstep Tryz.prog 117 Tryz.f25.results.toList (Tryz.f25.body.getD .skip) (host_Host_Check.RV R) (kvc Tryz.prog 117 Tryz.f25.results.toList (Tryz.f25.body.getD .skip) (host_Host_Check.RV R) [([(0, [1, 1, 1, 1, 0, 1, 0, 0]), (2, [1, 1, 1, 1, 0, 1, 0, 0]), (1, [2]), (0, [1, 1, 1, 1, 1])], fun σ w => dP (slotOf σ 0) fun h0_ => dK (slotOf σ 3) fun used_ => dI .i64 (slotOf σ 9) fun s_ => N2 h0_ used_ s_ w)] 2000) [(0, [1, 1, 1, 1, 0, 1, 0, 0, 1, 1]), (2, [1, 1, 1, 1, 0, 1, 0, 0]), (1, [2]), (0, [1, 1, 1, 1, 1])] [(0, .pointer h0), (3, .pointer (some ⟨used, 0, none⟩)), (9, .int .i64 s)] w := by kernel_rfl
theorem host_Host_Check.B3_sound {R : Bool → World → Prop} {N2 : Option Addr → Nat → Int → World → Prop} (hN2 : ∀ h0 used s w, N2 h0 used s w → KW Tryz.prog 25 117 (host_Host_Check.RV R) ([(0, [1, 1, 1, 1, 0, 1, 0, 0]), (2, [1, 1, 1, 1, 0, 1, 0, 0]), (1, [2]), (0, [1, 1, 1, 1, 1])].map (toItem (Tryz.f25.body.getD .skip))) [(0, .pointer h0), (3, .pointer (some ⟨used, 0, none⟩)), (9, .int .i64 s)] w) (h0 : Option Addr) (used : Nat) (s : Int) (w : World) (h : host_Host_Check.B3 h0 used s w N2  R) :
    KW Tryz.prog 25 117 (host_Host_Check.RV R) ([(0, [1, 1, 1, 1, 0, 1, 0, 0, 1, 1]), (2, [1, 1, 1, 1, 0, 1, 0, 0]), (1, [2]), (0, [1, 1, 1, 1, 1])].map (toItem (Tryz.f25.body.getD .skip))) [(0, .pointer h0), (3, .pointer (some ⟨used, 0, none⟩)), (9, .int .i64 s)] w := by
  exact block_spec Tryz.func25 Tryz.mixed (stops_cons (fun σ w h => by
      obtain ⟨h0_, e0, h⟩ := dP_elim h
      obtain ⟨used_, e1, h⟩ := dK_elim h
      obtain ⟨s_, e2, h⟩ := dI_elim h
      exact (hN2 h0_ used_ s_ w h).weaken (Sub.cons (Sub.cons (Sub.cons (Sub.nil _) e2) e1) e0)) stops_nil) (Eq.mp (host_Host_Check.B3_eq h0 used s w N2  R ) h)
def host_Host_Check.L2b (h0 : Option Addr) (used : Nat) (s : Int) (w : World)  (N2 : Option Addr → Nat → Int → World → Prop) (R : Bool → World → Prop) : Prop :=
  Bm (decide (s < (4 : Int))) (
    (0 ≤ s ∧ s < ((4 : Nat) : Int)) ∧
    LdB (Addr.add ⟨used, 0, none⟩ (s.toNat * 1)) w fun x84 =>
    Bm (!x84) (
      Pn h0 fun a =>
      (0 ≤ s ∧ s < ((4 : Nat) : Int)) ∧
      LdP (Addr.add (a.add 13) (s.toNat * 1)) w fun x91 =>
      conn_Conn_Info.Call x91 w fun r92 w1 =>
      Pn r92 fun a_1 =>
      LdI .i64 a_1 w1 fun x95 =>
      Bm (x95 != (0 : Int)) (
        R false w1) (
        host_Host_Check.B3 h0 used s w1 N2 R)) (
      host_Host_Check.B3 h0 used s w N2 R)) (
    Pn h0 fun a_2 =>
    LdP (a_2.add 11) w.drew fun x100 =>
    Pn h0 fun a_3 =>
    LdI .i64 a_3 w.drew fun x105 =>
    frame_Link_Addr.Call x100 w.drew fun r101 w2 =>
    w2.cell? a_3 = some (.int .i64 x105) ∧
    Bm (r101 != x105) (
      R false w2) (
      Pn h0 fun a_4 =>
      LdP (a_4.add 12) w2.drew fun x110 =>
      Pn h0 fun a_5 =>
      LdI .i64 a_5 w2.drew fun x115 =>
      ip_IP_Addr.Call x110 w2.drew fun r111 w3 =>
      w3.cell? a_5 = some (.int .i64 x115) ∧
      R (r111 == x115) w3))
theorem host_Host_Check.L2b_eq (h0 : Option Addr) (used : Nat) (s : Int) (w : World)  (N2 : Option Addr → Nat → Int → World → Prop) (R : Bool → World → Prop) (sB3 : Option Addr → Nat → Int → World → Prop) :
    (
  Bm (decide (s < (4 : Int))) (
    (0 ≤ s ∧ s < ((4 : Nat) : Int)) ∧
    LdB (Addr.add ⟨used, 0, none⟩ (s.toNat * 1)) w fun x84 =>
    Bm (!x84) (
      Pn h0 fun a =>
      (0 ≤ s ∧ s < ((4 : Nat) : Int)) ∧
      LdP (Addr.add (a.add 13) (s.toNat * 1)) w fun x91 =>
      conn_Conn_Info.Call x91 w fun r92 w1 =>
      Pn r92 fun a_1 =>
      LdI .i64 a_1 w1 fun x95 =>
      Bm (x95 != (0 : Int)) (
        R false w1) (
        sB3 h0 used s w1)) (
      sB3 h0 used s w)) (
    Pn h0 fun a_2 =>
    LdP (a_2.add 11) w.drew fun x100 =>
    Pn h0 fun a_3 =>
    LdI .i64 a_3 w.drew fun x105 =>
    frame_Link_Addr.Call x100 w.drew fun r101 w2 =>
    w2.cell? a_3 = some (.int .i64 x105) ∧
    Bm (r101 != x105) (
      R false w2) (
      Pn h0 fun a_4 =>
      LdP (a_4.add 12) w2.drew fun x110 =>
      Pn h0 fun a_5 =>
      LdI .i64 a_5 w2.drew fun x115 =>
      ip_IP_Addr.Call x110 w2.drew fun r111 w3 =>
      w3.cell? a_5 = some (.int .i64 x115) ∧
      R (r111 == x115) w3))) = kstep Tryz.prog 117 Tryz.f25.results.toList (Tryz.f25.body.getD .skip) (host_Host_Check.RV R) (kvc Tryz.prog 117 Tryz.f25.results.toList (Tryz.f25.body.getD .skip) (host_Host_Check.RV R) [([(0, [1, 1, 1, 1, 0, 1, 0, 0, 1, 1]), (2, [1, 1, 1, 1, 0, 1, 0, 0]), (1, [2]), (0, [1, 1, 1, 1, 1])], fun σ w => dP (slotOf σ 0) fun h0_ => dK (slotOf σ 3) fun used_ => dI .i64 (slotOf σ 9) fun s_ => sB3 h0_ used_ s_ w)] 2000) [(0, [1, 1, 1, 1, 0, 1, 0, 0]), (2, [1, 1, 1, 1, 0, 1, 0, 0]), (1, [2]), (0, [1, 1, 1, 1, 1])] [(0, .pointer h0), (3, .pointer (some ⟨used, 0, none⟩)), (9, .int .i64 s)] w := by kernel_rfl
theorem host_Host_Check.L2b_sound {R : Bool → World → Prop} {N2 : Option Addr → Nat → Int → World → Prop} (hN2 : ∀ h0 used s w, N2 h0 used s w → KW Tryz.prog 25 117 (host_Host_Check.RV R) ([(0, [1, 1, 1, 1, 0, 1, 0, 0]), (2, [1, 1, 1, 1, 0, 1, 0, 0]), (1, [2]), (0, [1, 1, 1, 1, 1])].map (toItem (Tryz.f25.body.getD .skip))) [(0, .pointer h0), (3, .pointer (some ⟨used, 0, none⟩)), (9, .int .i64 s)] w) (h0 : Option Addr) (used : Nat) (s : Int) (w : World) (h : host_Host_Check.L2b h0 used s w  N2 R) :
    KW Tryz.prog 25 117 (host_Host_Check.RV R) ([(0, [1, 1, 1, 1, 0, 1, 0, 0]), (2, [1, 1, 1, 1, 0, 1, 0, 0]), (1, [2]), (0, [1, 1, 1, 1, 1])].map (toItem (Tryz.f25.body.getD .skip))) [(0, .pointer h0), (3, .pointer (some ⟨used, 0, none⟩)), (9, .int .i64 s)] w := by
  exact block_spec Tryz.func25 Tryz.mixed (stops_cons (fun σ w h => by
      obtain ⟨h0_, e0, h⟩ := dP_elim h
      obtain ⟨used_, e1, h⟩ := dK_elim h
      obtain ⟨s_, e2, h⟩ := dI_elim h
      exact (host_Host_Check.B3_sound hN2 h0_ used_ s_ w h).weaken (Sub.cons (Sub.cons (Sub.cons (Sub.nil _) e2) e1) e0)) stops_nil) (Eq.mp (host_Host_Check.L2b_eq h0 used s w  N2 R (fun h0_ used_ s_ w => host_Host_Check.B3 h0_ used_ s_ w N2 R)) h)
def host_Host_Check.L2 (h0 : Option Addr) (used : Nat) (s : Int) (w : World)  (R : Bool → World → Prop) : Prop :=
  ∃ (I : Nat → Option Addr → Nat → Int → World → Prop) (m : Nat), I m h0 used s w ∧ ∀ m h0 used s w, I m h0 used s w → host_Host_Check.L2b h0 used s w  (fun h0' used' s' w' => ∃ m', m' < m ∧ I m' h0' used' s' w') R
theorem host_Host_Check.L2_sound {R : Bool → World → Prop}  (h0 : Option Addr) (used : Nat) (s : Int) (w : World) (h : host_Host_Check.L2 h0 used s w  R) :
    KW Tryz.prog 25 117 (host_Host_Check.RV R) ([(0, [1, 1, 1, 1, 0, 1, 0, 0]), (2, [1, 1, 1, 1, 0, 1, 0, 0]), (1, [2]), (0, [1, 1, 1, 1, 1])].map (toItem (Tryz.f25.body.getD .skip))) [(0, .pointer h0), (3, .pointer (some ⟨used, 0, none⟩)), (9, .int .i64 s)] w := by
  obtain ⟨I, m, hBase, hr⟩ := h
  refine KW.loop (fun m σ w => ∃ (h0 : Option Addr) (used : Nat) (s : Int), σ = [(0, .pointer h0), (3, .pointer (some ⟨used, 0, none⟩)), (9, .int .i64 s)] ∧ I m h0 used s w) ?_ m _ w ⟨h0, used, s, rfl, hBase⟩
  rintro m ih σ w ⟨h0, used, s, rfl, hI⟩
  exact host_Host_Check.L2b_sound  (N2 := fun h0' used' s' w' => ∃ m', m' < m ∧ I m' h0' used' s' w') (fun h0' used' s' w' hx => by obtain ⟨m', hlt, hI'⟩ := hx; exact ih m' hlt _ w' ⟨h0', used', s', rfl, hI'⟩) h0 used s w (hr m h0 used s w hI)
def host_Host_Check.L1b (h0 : Option Addr) (used : Nat) (list_b : Option Addr) (list_l list_c : Nat) (i : Int) (w : World)  (N1 : Option Addr → Nat → Option Addr → Nat → Nat → Int → World → Prop) (R : Bool → World → Prop) : Prop :=
  Bm (decide (i < ((list_l : Nat) : Int))) (
    Pn h0 fun a =>
    LdP (a.add 17) w.drew fun x25 =>
    Pn list_b fun a_1 =>
    (0 ≤ i ∧ i < ((list_l : Nat) : Int)) ∧
    LdI .i64 (Addr.add a_1 (i.toNat * 1)) w.drew fun x29 =>
    ((
      sock_Table_Get.Call x25 x29 w.drew fun r30_0_0 r30_0_1 r30_0_2 r30_0_3 r30_0_4 r30_0_5 r30_0_6 r30_0_7 r30_1 w1 =>
      New (.cells #[.int .i64 (0 : Int), .int .i64 (0 : Int), .int .i64 (0 : Int), .int .i64 (0 : Int), .int .i64 (0 : Int), .int .i64 (0 : Int), .int .i64 (0 : Int), .bool false] 66) w1 fun en_ w2 =>
      Sts [.int .i64 r30_0_0, .int .i64 r30_0_1, .int .i64 r30_0_2, .int .i64 r30_0_3, .int .i64 r30_0_4, .int .i64 r30_0_5, .int .i64 r30_0_6, .bool r30_0_7] ⟨en_, 0, none⟩ 0 w2 fun w3 =>
      host_Host_Check.B1 h0 used list_b list_l list_c i en_ r30_1 w3 N1 R) ∧ (
      New (.cells #[.int .i64 (0 : Int), .int .i64 (0 : Int), .int .i64 (0 : Int), .int .i64 (0 : Int), .int .i64 (0 : Int), .int .i64 (0 : Int), .int .i64 (0 : Int), .bool false] 66) w.drew fun en__1 w4 =>
      w4.cell? (Addr.add a_1 (i.toNat * 1)) = some (.int .i64 x29) ∧
      w4.cell? (a.add 17) = some (.pointer x25) ∧
      sock_Table_Get.Call x25 x29 w4 fun r30_0_0_1 r30_0_1_1 r30_0_2_1 r30_0_3_1 r30_0_4_1 r30_0_5_1 r30_0_6_1 r30_0_7_1 r30_1_1 w5 =>
      Sts [.int .i64 r30_0_0_1, .int .i64 r30_0_1_1, .int .i64 r30_0_2_1, .int .i64 r30_0_3_1, .int .i64 r30_0_4_1, .int .i64 r30_0_5_1, .int .i64 r30_0_6_1, .bool r30_0_7_1] ⟨en__1, 0, none⟩ 0 w5 fun w6 =>
      host_Host_Check.B1 h0 used list_b list_l list_c i en__1 r30_1_1 w6 N1 R))) (
    host_Host_Check.L2 h0 used (0 : Int) w  R)
theorem host_Host_Check.L1b_eq (h0 : Option Addr) (used : Nat) (list_b : Option Addr) (list_l list_c : Nat) (i : Int) (w : World)  (N1 : Option Addr → Nat → Option Addr → Nat → Nat → Int → World → Prop) (R : Bool → World → Prop) (sB1 : Option Addr → Nat → Option Addr → Nat → Nat → Int → Nat → Int → World → Prop) (sL2 : Option Addr → Nat → Int → World → Prop) :
    (
  Bm (decide (i < ((list_l : Nat) : Int))) (
    Pn h0 fun a =>
    LdP (a.add 17) w.drew fun x25 =>
    Pn list_b fun a_1 =>
    (0 ≤ i ∧ i < ((list_l : Nat) : Int)) ∧
    LdI .i64 (Addr.add a_1 (i.toNat * 1)) w.drew fun x29 =>
    ((
      sock_Table_Get.Call x25 x29 w.drew fun r30_0_0 r30_0_1 r30_0_2 r30_0_3 r30_0_4 r30_0_5 r30_0_6 r30_0_7 r30_1 w1 =>
      New (.cells #[.int .i64 (0 : Int), .int .i64 (0 : Int), .int .i64 (0 : Int), .int .i64 (0 : Int), .int .i64 (0 : Int), .int .i64 (0 : Int), .int .i64 (0 : Int), .bool false] 66) w1 fun en_ w2 =>
      Sts [.int .i64 r30_0_0, .int .i64 r30_0_1, .int .i64 r30_0_2, .int .i64 r30_0_3, .int .i64 r30_0_4, .int .i64 r30_0_5, .int .i64 r30_0_6, .bool r30_0_7] ⟨en_, 0, none⟩ 0 w2 fun w3 =>
      sB1 h0 used list_b list_l list_c i en_ r30_1 w3) ∧ (
      New (.cells #[.int .i64 (0 : Int), .int .i64 (0 : Int), .int .i64 (0 : Int), .int .i64 (0 : Int), .int .i64 (0 : Int), .int .i64 (0 : Int), .int .i64 (0 : Int), .bool false] 66) w.drew fun en__1 w4 =>
      w4.cell? (Addr.add a_1 (i.toNat * 1)) = some (.int .i64 x29) ∧
      w4.cell? (a.add 17) = some (.pointer x25) ∧
      sock_Table_Get.Call x25 x29 w4 fun r30_0_0_1 r30_0_1_1 r30_0_2_1 r30_0_3_1 r30_0_4_1 r30_0_5_1 r30_0_6_1 r30_0_7_1 r30_1_1 w5 =>
      Sts [.int .i64 r30_0_0_1, .int .i64 r30_0_1_1, .int .i64 r30_0_2_1, .int .i64 r30_0_3_1, .int .i64 r30_0_4_1, .int .i64 r30_0_5_1, .int .i64 r30_0_6_1, .bool r30_0_7_1] ⟨en__1, 0, none⟩ 0 w5 fun w6 =>
      sB1 h0 used list_b list_l list_c i en__1 r30_1_1 w6))) (
    sL2 h0 used (0 : Int) w)) = kstep Tryz.prog 117 Tryz.f25.results.toList (Tryz.f25.body.getD .skip) (host_Host_Check.RV R) (kvc Tryz.prog 117 Tryz.f25.results.toList (Tryz.f25.body.getD .skip) (host_Host_Check.RV R) [([(0, [1, 1, 1, 0, 1, 0, 0, 1, 0, 0, 1]), (1, [1]), (0, [1, 1, 1, 0, 1, 0, 0, 1, 1]), (2, [1, 1, 1, 0, 1, 0, 0]), (1, [0]), (0, [1, 1, 1, 1])], fun σ w => dP (slotOf σ 0) fun h0_ => dK (slotOf σ 3) fun used_ => dL (slotOf σ 4) fun list_b_ list_l_ list_c_ => dI .i64 (slotOf σ 5) fun i_ => dK (slotOf σ 6) fun en_ => dI .i64 (slotOf σ 7) fun e_ => sB1 h0_ used_ list_b_ list_l_ list_c_ i_ en_ e_ w),
    ([(0, [1, 1, 1, 1, 0, 1, 0, 0]), (2, [1, 1, 1, 1, 0, 1, 0, 0]), (1, [2]), (0, [1, 1, 1, 1, 1])], fun σ w => dP (slotOf σ 0) fun h0_ => dK (slotOf σ 3) fun used_ => dI .i64 (slotOf σ 9) fun s_ => sL2 h0_ used_ s_ w)] 2000) [(0, [1, 1, 1, 0, 1, 0, 0]), (2, [1, 1, 1, 0, 1, 0, 0]), (1, [0]), (0, [1, 1, 1, 1])] [(0, .pointer h0), (3, .pointer (some ⟨used, 0, none⟩)), (4, .slice list_b list_l list_c), (5, .int .i64 i)] w := by kernel_rfl
theorem host_Host_Check.L1b_sound {R : Bool → World → Prop} {N1 : Option Addr → Nat → Option Addr → Nat → Nat → Int → World → Prop} (hN1 : ∀ h0 used list_b list_l list_c i w, N1 h0 used list_b list_l list_c i w → KW Tryz.prog 25 117 (host_Host_Check.RV R) ([(0, [1, 1, 1, 0, 1, 0, 0]), (2, [1, 1, 1, 0, 1, 0, 0]), (1, [0]), (0, [1, 1, 1, 1])].map (toItem (Tryz.f25.body.getD .skip))) [(0, .pointer h0), (3, .pointer (some ⟨used, 0, none⟩)), (4, .slice list_b list_l list_c), (5, .int .i64 i)] w) (h0 : Option Addr) (used : Nat) (list_b : Option Addr) (list_l list_c : Nat) (i : Int) (w : World) (h : host_Host_Check.L1b h0 used list_b list_l list_c i w  N1 R) :
    KW Tryz.prog 25 117 (host_Host_Check.RV R) ([(0, [1, 1, 1, 0, 1, 0, 0]), (2, [1, 1, 1, 0, 1, 0, 0]), (1, [0]), (0, [1, 1, 1, 1])].map (toItem (Tryz.f25.body.getD .skip))) [(0, .pointer h0), (3, .pointer (some ⟨used, 0, none⟩)), (4, .slice list_b list_l list_c), (5, .int .i64 i)] w := by
  exact block_spec Tryz.func25 Tryz.mixed (stops_cons (fun σ w h => by
      obtain ⟨h0_, e0, h⟩ := dP_elim h
      obtain ⟨used_, e1, h⟩ := dK_elim h
      obtain ⟨list_b_, list_l_, list_c_, e2, h⟩ := dL_elim h
      obtain ⟨i_, e3, h⟩ := dI_elim h
      obtain ⟨en_, e4, h⟩ := dK_elim h
      obtain ⟨e_, e5, h⟩ := dI_elim h
      exact (host_Host_Check.B1_sound hN1 h0_ used_ list_b_ list_l_ list_c_ i_ en_ e_ w h).weaken (Sub.cons (Sub.cons (Sub.cons (Sub.cons (Sub.cons (Sub.cons (Sub.nil _) e5) e4) e3) e2) e1) e0)) (stops_cons (fun σ w h => by
      obtain ⟨h0_, e0, h⟩ := dP_elim h
      obtain ⟨used_, e1, h⟩ := dK_elim h
      obtain ⟨s_, e2, h⟩ := dI_elim h
      exact (host_Host_Check.L2_sound  h0_ used_ s_ w h).weaken (Sub.cons (Sub.cons (Sub.cons (Sub.nil _) e2) e1) e0)) stops_nil)) (Eq.mp (host_Host_Check.L1b_eq h0 used list_b list_l list_c i w  N1 R (fun h0_ used_ list_b_ list_l_ list_c_ i_ en_ e_ w => host_Host_Check.B1 h0_ used_ list_b_ list_l_ list_c_ i_ en_ e_ w N1 R) (fun h0_ used_ s_ w => host_Host_Check.L2 h0_ used_ s_ w  R)) h)
def host_Host_Check.L1 (h0 : Option Addr) (used : Nat) (list_b : Option Addr) (list_l list_c : Nat) (i : Int) (w : World)  (R : Bool → World → Prop) : Prop :=
  ∃ (I : Nat → Option Addr → Nat → Option Addr → Nat → Nat → Int → World → Prop) (m : Nat), I m h0 used list_b list_l list_c i w ∧ ∀ m h0 used list_b list_l list_c i w, I m h0 used list_b list_l list_c i w → host_Host_Check.L1b h0 used list_b list_l list_c i w  (fun h0' used' list_b' list_l' list_c' i' w' => ∃ m', m' < m ∧ I m' h0' used' list_b' list_l' list_c' i' w') R
theorem host_Host_Check.L1_sound {R : Bool → World → Prop}  (h0 : Option Addr) (used : Nat) (list_b : Option Addr) (list_l list_c : Nat) (i : Int) (w : World) (h : host_Host_Check.L1 h0 used list_b list_l list_c i w  R) :
    KW Tryz.prog 25 117 (host_Host_Check.RV R) ([(0, [1, 1, 1, 0, 1, 0, 0]), (2, [1, 1, 1, 0, 1, 0, 0]), (1, [0]), (0, [1, 1, 1, 1])].map (toItem (Tryz.f25.body.getD .skip))) [(0, .pointer h0), (3, .pointer (some ⟨used, 0, none⟩)), (4, .slice list_b list_l list_c), (5, .int .i64 i)] w := by
  obtain ⟨I, m, hBase, hr⟩ := h
  refine KW.loop (fun m σ w => ∃ (h0 : Option Addr) (used : Nat) (list_b : Option Addr) (list_l list_c : Nat) (i : Int), σ = [(0, .pointer h0), (3, .pointer (some ⟨used, 0, none⟩)), (4, .slice list_b list_l list_c), (5, .int .i64 i)] ∧ I m h0 used list_b list_l list_c i w) ?_ m _ w ⟨h0, used, list_b, list_l, list_c, i, rfl, hBase⟩
  rintro m ih σ w ⟨h0, used, list_b, list_l, list_c, i, rfl, hI⟩
  exact host_Host_Check.L1b_sound  (N1 := fun h0' used' list_b' list_l' list_c' i' w' => ∃ m', m' < m ∧ I m' h0' used' list_b' list_l' list_c' i' w') (fun h0' used' list_b' list_l' list_c' i' w' hx => by obtain ⟨m', hlt, hI'⟩ := hx; exact ih m' hlt _ w' ⟨h0', used', list_b', list_l', list_c', i', rfl, hI'⟩) h0 used list_b list_l list_c i w (hr m h0 used list_b list_l list_c i w hI)
def host_Host_Check.B0 (h0 : Option Addr) (w : World)   (R : Bool → World → Prop) : Prop :=
  New (.cells #[.bool false, .bool false, .bool false, .bool false] 110) w fun used_ w1 =>
  Pn h0 fun a =>
  LdP (a.add 17) w1 fun x13 =>
  sock_Table_List.Call x13 w1 fun r14_b r14_l r14_c w2 =>
  host_Host_Check.L1 h0 used_ r14_b r14_l r14_c (0 : Int) w2  R
theorem host_Host_Check.B0_eq (h0 : Option Addr) (w : World)   (R : Bool → World → Prop) (sL1 : Option Addr → Nat → Option Addr → Nat → Nat → Int → World → Prop) :
    (
  New (.cells #[.bool false, .bool false, .bool false, .bool false] 110) w fun used_ w1 =>
  Pn h0 fun a =>
  LdP (a.add 17) w1 fun x13 =>
  sock_Table_List.Call x13 w1 fun r14_b r14_l r14_c w2 =>
  sL1 h0 used_ r14_b r14_l r14_c (0 : Int) w2) = kstep Tryz.prog 117 Tryz.f25.results.toList (Tryz.f25.body.getD .skip) (host_Host_Check.RV R) (kvc Tryz.prog 117 Tryz.f25.results.toList (Tryz.f25.body.getD .skip) (host_Host_Check.RV R) [([(0, [1, 1, 1, 0, 1, 0, 0]), (2, [1, 1, 1, 0, 1, 0, 0]), (1, [0]), (0, [1, 1, 1, 1])], fun σ w => dP (slotOf σ 0) fun h0_ => dK (slotOf σ 3) fun used_ => dL (slotOf σ 4) fun list_b_ list_l_ list_c_ => dI .i64 (slotOf σ 5) fun i_ => sL1 h0_ used_ list_b_ list_l_ list_c_ i_ w)] 2000) [(0, [])] [(0, .pointer h0)] w := by kernel_rfl
theorem host_Host_Check.B0_sound {R : Bool → World → Prop}  (h0 : Option Addr) (w : World) (h : host_Host_Check.B0 h0 w   R) :
    KW Tryz.prog 25 117 (host_Host_Check.RV R) ([(0, [])].map (toItem (Tryz.f25.body.getD .skip))) [(0, .pointer h0)] w := by
  exact block_spec Tryz.func25 Tryz.mixed (stops_cons (fun σ w h => by
      obtain ⟨h0_, e0, h⟩ := dP_elim h
      obtain ⟨used_, e1, h⟩ := dK_elim h
      obtain ⟨list_b_, list_l_, list_c_, e2, h⟩ := dL_elim h
      obtain ⟨i_, e3, h⟩ := dI_elim h
      exact (host_Host_Check.L1_sound  h0_ used_ list_b_ list_l_ list_c_ i_ w h).weaken (Sub.cons (Sub.cons (Sub.cons (Sub.cons (Sub.nil _) e3) e2) e1) e0)) stops_nil) (Eq.mp (host_Host_Check.B0_eq h0 w   R (fun h0_ used_ list_b_ list_l_ list_c_ i_ w => host_Host_Check.L1 h0_ used_ list_b_ list_l_ list_c_ i_ w  R)) h)
theorem host_Host_Check.sound (h0 : Option Addr) (w : World) (R : Bool → World → Prop) (h : host_Host_Check.B0 h0 w R) : host_Host_Check.Call h0 w R := by
  have hc := calls_of_block (args := #[.pointer h0]) Tryz.func25 (body := (Tryz.f25.body.getD .skip)) (by kernel_rfl) (by kernel_rfl) (args_slot _) (host_Host_Check.B0_sound h0 w h)
  exact hc.mono fun e w' he => by
    obtain ⟨v, rfl, hv⟩ := he
    exact host_Host_Check.RV_elim hv
end Go.Proofs.Qxb6500424aGreat
