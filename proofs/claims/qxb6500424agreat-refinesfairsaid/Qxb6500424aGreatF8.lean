import Derived.Test.Qxb6500424aGreatSig
set_option maxRecDepth 100000
set_option linter.unusedVariables false
open Go.Vc
namespace Go.Proofs.Qxb6500424aGreat
def hostlaw_World_Send.B3 (w0 : Option Addr) (c sd : Int) (data_b : Option Addr) (data_l data_c : Nat) (n : Int) (fr_b : Option Addr) (fr_l fr_c : Nat) (e : Int) (t100 : Bool) (w : World)   (R : Bool → World → Prop) : Prop :=
  Bm t100 (
    R false w) (
    Bm (e != (0 : Int)) (
      R (((fr_l : Nat) : Int) == (0 : Int)) w) (
      Pn w0 fun a =>
      LdP (a.add 30) w fun x109 =>
      hostm_Net_Find.Call x109 c sd w fun r112 w1 =>
      Pn w0 fun a_1 =>
      LdP (a_1.add 30) w1 fun x116 =>
      hostm_Net_Took.Call x116 r112 n data_b data_l data_c w1 fun r120 w2 =>
      Bm (!r120) (
        R false w2) (
        hostlaw_World_Put.Call w0 c fr_b fr_l fr_c w2 fun w3 =>
        R true w3)))
theorem hostlaw_World_Send.B3_eq (w0 : Option Addr) (c sd : Int) (data_b : Option Addr) (data_l data_c : Nat) (n : Int) (fr_b : Option Addr) (fr_l fr_c : Nat) (e : Int) (t100 : Bool) (w : World)   (R : Bool → World → Prop)  :
    (
  Bm t100 (
    R false w) (
    Bm (e != (0 : Int)) (
      R (((fr_l : Nat) : Int) == (0 : Int)) w) (
      Pn w0 fun a =>
      LdP (a.add 30) w fun x109 =>
      hostm_Net_Find.Call x109 c sd w fun r112 w1 =>
      Pn w0 fun a_1 =>
      LdP (a_1.add 30) w1 fun x116 =>
      hostm_Net_Took.Call x116 r112 n data_b data_l data_c w1 fun r120 w2 =>
      Bm (!r120) (
        R false w2) (
        hostlaw_World_Put.Call w0 c fr_b fr_l fr_c w2 fun w3 =>
        R true w3)))) = kstep Tryz.prog 126 Tryz.f47.results.toList (Tryz.f47.body.getD .skip) (hostlaw_World_Send.RV R) (kvc Tryz.prog 126 Tryz.f47.results.toList (Tryz.f47.body.getD .skip) (hostlaw_World_Send.RV R) [] 2000) [(0, [1, 1, 1, 1, 1, 1, 1, 1, 0, 1]), (0, [1, 1, 1, 1, 1, 1, 1, 1, 1])] [(0, .pointer w0), (1, .int .i64 c), (2, .int .i64 sd), (3, .slice data_b data_l data_c), (14, .int .i64 n), (15, .slice fr_b fr_l fr_c), (16, .int .i64 e), (100, .bool t100)] w := by kernel_rfl
theorem hostlaw_World_Send.B3_sound {R : Bool → World → Prop}  (w0 : Option Addr) (c sd : Int) (data_b : Option Addr) (data_l data_c : Nat) (n : Int) (fr_b : Option Addr) (fr_l fr_c : Nat) (e : Int) (t100 : Bool) (w : World) (h : hostlaw_World_Send.B3 w0 c sd data_b data_l data_c n fr_b fr_l fr_c e t100 w   R) :
    KW Tryz.prog 47 126 (hostlaw_World_Send.RV R) ([(0, [1, 1, 1, 1, 1, 1, 1, 1, 0, 1]), (0, [1, 1, 1, 1, 1, 1, 1, 1, 1])].map (toItem (Tryz.f47.body.getD .skip))) [(0, .pointer w0), (1, .int .i64 c), (2, .int .i64 sd), (3, .slice data_b data_l data_c), (14, .int .i64 n), (15, .slice fr_b fr_l fr_c), (16, .int .i64 e), (100, .bool t100)] w := by
  exact block_spec Tryz.func47 Tryz.mixed stops_nil (Eq.mp (hostlaw_World_Send.B3_eq w0 c sd data_b data_l data_c n fr_b fr_l fr_c e t100 w   R ) h)
def hostlaw_World_Send.B2 (w0 : Option Addr) (c sd : Int) (data_b : Option Addr) (data_l data_c : Nat) (wantN want n : Int) (fr_b : Option Addr) (fr_l fr_c : Nat) (e : Int) (fr2_b : Option Addr) (fr2_l fr2_c : Nat) (t89 : Bool) (w : World)   (R : Bool → World → Prop) : Prop :=
  Bm t89 (
    R false w) (
    hostlaw_World_OwnAll.Call w0 fr2_b fr2_l fr2_c w fun w1 =>
    Bm (e != want) (
      hostlaw_World_Send.B3 w0 c sd data_b data_l data_c n fr_b fr_l fr_c e true w1  R) (
      hostlaw_World_Send.B3 w0 c sd data_b data_l data_c n fr_b fr_l fr_c e (n != wantN) w1  R))
theorem hostlaw_World_Send.B2_eq (w0 : Option Addr) (c sd : Int) (data_b : Option Addr) (data_l data_c : Nat) (wantN want n : Int) (fr_b : Option Addr) (fr_l fr_c : Nat) (e : Int) (fr2_b : Option Addr) (fr2_l fr2_c : Nat) (t89 : Bool) (w : World)   (R : Bool → World → Prop) (sB3 : Option Addr → Int → Int → Option Addr → Nat → Nat → Int → Option Addr → Nat → Nat → Int → Bool → World → Prop) :
    (
  Bm t89 (
    R false w) (
    hostlaw_World_OwnAll.Call w0 fr2_b fr2_l fr2_c w fun w1 =>
    Bm (e != want) (
      sB3 w0 c sd data_b data_l data_c n fr_b fr_l fr_c e true w1) (
      sB3 w0 c sd data_b data_l data_c n fr_b fr_l fr_c e (n != wantN) w1))) = kstep Tryz.prog 126 Tryz.f47.results.toList (Tryz.f47.body.getD .skip) (hostlaw_World_Send.RV R) (kvc Tryz.prog 126 Tryz.f47.results.toList (Tryz.f47.body.getD .skip) (hostlaw_World_Send.RV R) [([(0, [1, 1, 1, 1, 1, 1, 1, 1, 0, 1]), (0, [1, 1, 1, 1, 1, 1, 1, 1, 1])], fun σ w => dP (slotOf σ 0) fun w0_ => dI .i64 (slotOf σ 1) fun c_ => dI .i64 (slotOf σ 2) fun sd_ => dL (slotOf σ 3) fun data_b_ data_l_ data_c_ => dI .i64 (slotOf σ 14) fun n_ => dL (slotOf σ 15) fun fr_b_ fr_l_ fr_c_ => dI .i64 (slotOf σ 16) fun e_ => dB (slotOf σ 100) fun t100_ => sB3 w0_ c_ sd_ data_b_ data_l_ data_c_ n_ fr_b_ fr_l_ fr_c_ e_ t100_ w)] 2000) [(0, [1, 1, 1, 1, 1, 1, 1, 0, 1, 0, 1, 1, 1, 0, 1]), (0, [1, 1, 1, 1, 1, 1, 1, 0, 1, 0, 1, 1, 1, 1]), (0, [1, 1, 1, 1, 1, 1, 1, 1])] [(0, .pointer w0), (1, .int .i64 c), (2, .int .i64 sd), (3, .slice data_b data_l data_c), (11, .int .i64 wantN), (12, .int .i64 want), (14, .int .i64 n), (15, .slice fr_b fr_l fr_c), (16, .int .i64 e), (19, .slice fr2_b fr2_l fr2_c), (89, .bool t89)] w := by kernel_rfl
theorem hostlaw_World_Send.B2_sound {R : Bool → World → Prop}  (w0 : Option Addr) (c sd : Int) (data_b : Option Addr) (data_l data_c : Nat) (wantN want n : Int) (fr_b : Option Addr) (fr_l fr_c : Nat) (e : Int) (fr2_b : Option Addr) (fr2_l fr2_c : Nat) (t89 : Bool) (w : World) (h : hostlaw_World_Send.B2 w0 c sd data_b data_l data_c wantN want n fr_b fr_l fr_c e fr2_b fr2_l fr2_c t89 w   R) :
    KW Tryz.prog 47 126 (hostlaw_World_Send.RV R) ([(0, [1, 1, 1, 1, 1, 1, 1, 0, 1, 0, 1, 1, 1, 0, 1]), (0, [1, 1, 1, 1, 1, 1, 1, 0, 1, 0, 1, 1, 1, 1]), (0, [1, 1, 1, 1, 1, 1, 1, 1])].map (toItem (Tryz.f47.body.getD .skip))) [(0, .pointer w0), (1, .int .i64 c), (2, .int .i64 sd), (3, .slice data_b data_l data_c), (11, .int .i64 wantN), (12, .int .i64 want), (14, .int .i64 n), (15, .slice fr_b fr_l fr_c), (16, .int .i64 e), (19, .slice fr2_b fr2_l fr2_c), (89, .bool t89)] w := by
  exact block_spec Tryz.func47 Tryz.mixed (stops_cons (fun σ w h => by
      obtain ⟨w0_, e0, h⟩ := dP_elim h
      obtain ⟨c_, e1, h⟩ := dI_elim h
      obtain ⟨sd_, e2, h⟩ := dI_elim h
      obtain ⟨data_b_, data_l_, data_c_, e3, h⟩ := dL_elim h
      obtain ⟨n_, e4, h⟩ := dI_elim h
      obtain ⟨fr_b_, fr_l_, fr_c_, e5, h⟩ := dL_elim h
      obtain ⟨e_, e6, h⟩ := dI_elim h
      obtain ⟨t100_, e7, h⟩ := dB_elim h
      exact (hostlaw_World_Send.B3_sound  w0_ c_ sd_ data_b_ data_l_ data_c_ n_ fr_b_ fr_l_ fr_c_ e_ t100_ w h).weaken (Sub.cons (Sub.cons (Sub.cons (Sub.cons (Sub.cons (Sub.cons (Sub.cons (Sub.cons (Sub.nil _) e7) e6) e5) e4) e3) e2) e1) e0)) stops_nil) (Eq.mp (hostlaw_World_Send.B2_eq w0 c sd data_b data_l data_c wantN want n fr_b fr_l fr_c e fr2_b fr2_l fr2_c t89 w   R (fun w0_ c_ sd_ data_b_ data_l_ data_c_ n_ fr_b_ fr_l_ fr_c_ e_ t100_ w => hostlaw_World_Send.B3 w0_ c_ sd_ data_b_ data_l_ data_c_ n_ fr_b_ fr_l_ fr_c_ e_ t100_ w  R)) h)
def hostlaw_World_Send.B1 (w0 : Option Addr) (c sd : Int) (data_b : Option Addr) (data_l data_c : Nat) (wantN want : Int) (w : World)   (R : Bool → World → Prop) : Prop :=
  api_CopyBytes.Call data_b data_l data_c w fun r39_b r39_l r39_c w1 =>
  Pn w0 fun a =>
  (0 ≤ c ∧ c < ((3 : Nat) : Int)) ∧
  LdP (Addr.add a (c.toNat * 1)) w1 fun x46 =>
  host_Host_Send.Call x46 sd r39_b r39_l r39_c w1 fun r49_0 r49_1_b r49_1_l r49_1_c r49_2 w2 =>
  hostlaw_Scribble.Call r39_b r39_l r39_c w2 fun w3 =>
  Pn w0 fun a_1 =>
  LdB (a_1.add 27) w3 fun x58 =>
  Bm x58 (
    api_CopyBytes.Call data_b data_l data_c w3 fun r60_b r60_l r60_c w4 =>
    Pn w0 fun a_2 =>
    (0 ≤ c ∧ c < ((3 : Nat) : Int)) ∧
    LdP (Addr.add (a_2.add 24) (c.toNat * 1)) w4 fun x67 =>
    host_Host_Send.Call x67 sd r60_b r60_l r60_c w4 fun r70_0 r70_1_b r70_1_l r70_1_c r70_2 w5 =>
    hostlaw_Scribble.Call r60_b r60_l r60_c w5 fun w6 =>
    Bm (r70_0 != r49_0) (
      hostlaw_World_Send.B2 w0 c sd data_b data_l data_c wantN want r49_0 r49_1_b r49_1_l r49_1_c r49_2 r70_1_b r70_1_l r70_1_c true w6  R) (
      Bm (r70_2 != r49_2) (
        hostlaw_World_Send.B2 w0 c sd data_b data_l data_c wantN want r49_0 r49_1_b r49_1_l r49_1_c r49_2 r70_1_b r70_1_l r70_1_c true w6  R) (
        hostlaw_SameFrames.Call r49_1_b r49_1_l r49_1_c r70_1_b r70_1_l r70_1_c w6 fun r87 w7 =>
        hostlaw_World_Send.B2 w0 c sd data_b data_l data_c wantN want r49_0 r49_1_b r49_1_l r49_1_c r49_2 r70_1_b r70_1_l r70_1_c (!r87) w7  R))) (
    Bm (r49_2 != want) (
      hostlaw_World_Send.B3 w0 c sd data_b data_l data_c r49_0 r49_1_b r49_1_l r49_1_c r49_2 true w3  R) (
      hostlaw_World_Send.B3 w0 c sd data_b data_l data_c r49_0 r49_1_b r49_1_l r49_1_c r49_2 (r49_0 != wantN) w3  R))
theorem hostlaw_World_Send.B1_eq (w0 : Option Addr) (c sd : Int) (data_b : Option Addr) (data_l data_c : Nat) (wantN want : Int) (w : World)   (R : Bool → World → Prop) (sB2 : Option Addr → Int → Int → Option Addr → Nat → Nat → Int → Int → Int → Option Addr → Nat → Nat → Int → Option Addr → Nat → Nat → Bool → World → Prop) (sB3 : Option Addr → Int → Int → Option Addr → Nat → Nat → Int → Option Addr → Nat → Nat → Int → Bool → World → Prop) :
    (
  api_CopyBytes.Call data_b data_l data_c w fun r39_b r39_l r39_c w1 =>
  Pn w0 fun a =>
  (0 ≤ c ∧ c < ((3 : Nat) : Int)) ∧
  LdP (Addr.add a (c.toNat * 1)) w1 fun x46 =>
  host_Host_Send.Call x46 sd r39_b r39_l r39_c w1 fun r49_0 r49_1_b r49_1_l r49_1_c r49_2 w2 =>
  hostlaw_Scribble.Call r39_b r39_l r39_c w2 fun w3 =>
  Pn w0 fun a_1 =>
  LdB (a_1.add 27) w3 fun x58 =>
  Bm x58 (
    api_CopyBytes.Call data_b data_l data_c w3 fun r60_b r60_l r60_c w4 =>
    Pn w0 fun a_2 =>
    (0 ≤ c ∧ c < ((3 : Nat) : Int)) ∧
    LdP (Addr.add (a_2.add 24) (c.toNat * 1)) w4 fun x67 =>
    host_Host_Send.Call x67 sd r60_b r60_l r60_c w4 fun r70_0 r70_1_b r70_1_l r70_1_c r70_2 w5 =>
    hostlaw_Scribble.Call r60_b r60_l r60_c w5 fun w6 =>
    Bm (r70_0 != r49_0) (
      sB2 w0 c sd data_b data_l data_c wantN want r49_0 r49_1_b r49_1_l r49_1_c r49_2 r70_1_b r70_1_l r70_1_c true w6) (
      Bm (r70_2 != r49_2) (
        sB2 w0 c sd data_b data_l data_c wantN want r49_0 r49_1_b r49_1_l r49_1_c r49_2 r70_1_b r70_1_l r70_1_c true w6) (
        hostlaw_SameFrames.Call r49_1_b r49_1_l r49_1_c r70_1_b r70_1_l r70_1_c w6 fun r87 w7 =>
        sB2 w0 c sd data_b data_l data_c wantN want r49_0 r49_1_b r49_1_l r49_1_c r49_2 r70_1_b r70_1_l r70_1_c (!r87) w7))) (
    Bm (r49_2 != want) (
      sB3 w0 c sd data_b data_l data_c r49_0 r49_1_b r49_1_l r49_1_c r49_2 true w3) (
      sB3 w0 c sd data_b data_l data_c r49_0 r49_1_b r49_1_l r49_1_c r49_2 (r49_0 != wantN) w3))) = kstep Tryz.prog 126 Tryz.f47.results.toList (Tryz.f47.body.getD .skip) (hostlaw_World_Send.RV R) (kvc Tryz.prog 126 Tryz.f47.results.toList (Tryz.f47.body.getD .skip) (hostlaw_World_Send.RV R) [([(0, [1, 1, 1, 1, 1, 1, 1, 0, 1, 0, 1, 1, 1, 0, 1]), (0, [1, 1, 1, 1, 1, 1, 1, 0, 1, 0, 1, 1, 1, 1]), (0, [1, 1, 1, 1, 1, 1, 1, 1])], fun σ w => dP (slotOf σ 0) fun w0_ => dI .i64 (slotOf σ 1) fun c_ => dI .i64 (slotOf σ 2) fun sd_ => dL (slotOf σ 3) fun data_b_ data_l_ data_c_ => dI .i64 (slotOf σ 11) fun wantN_ => dI .i64 (slotOf σ 12) fun want_ => dI .i64 (slotOf σ 14) fun n_ => dL (slotOf σ 15) fun fr_b_ fr_l_ fr_c_ => dI .i64 (slotOf σ 16) fun e_ => dL (slotOf σ 19) fun fr2_b_ fr2_l_ fr2_c_ => dB (slotOf σ 89) fun t89_ => sB2 w0_ c_ sd_ data_b_ data_l_ data_c_ wantN_ want_ n_ fr_b_ fr_l_ fr_c_ e_ fr2_b_ fr2_l_ fr2_c_ t89_ w),
    ([(0, [1, 1, 1, 1, 1, 1, 1, 1, 0, 1]), (0, [1, 1, 1, 1, 1, 1, 1, 1, 1])], fun σ w => dP (slotOf σ 0) fun w0_ => dI .i64 (slotOf σ 1) fun c_ => dI .i64 (slotOf σ 2) fun sd_ => dL (slotOf σ 3) fun data_b_ data_l_ data_c_ => dI .i64 (slotOf σ 14) fun n_ => dL (slotOf σ 15) fun fr_b_ fr_l_ fr_c_ => dI .i64 (slotOf σ 16) fun e_ => dB (slotOf σ 100) fun t100_ => sB3 w0_ c_ sd_ data_b_ data_l_ data_c_ n_ fr_b_ fr_l_ fr_c_ e_ t100_ w)] 2000) [(0, [1, 1, 1, 1])] [(0, .pointer w0), (1, .int .i64 c), (2, .int .i64 sd), (3, .slice data_b data_l data_c), (11, .int .i64 wantN), (12, .int .i64 want)] w := by kernel_rfl
theorem hostlaw_World_Send.B1_sound {R : Bool → World → Prop}  (w0 : Option Addr) (c sd : Int) (data_b : Option Addr) (data_l data_c : Nat) (wantN want : Int) (w : World) (h : hostlaw_World_Send.B1 w0 c sd data_b data_l data_c wantN want w   R) :
    KW Tryz.prog 47 126 (hostlaw_World_Send.RV R) ([(0, [1, 1, 1, 1])].map (toItem (Tryz.f47.body.getD .skip))) [(0, .pointer w0), (1, .int .i64 c), (2, .int .i64 sd), (3, .slice data_b data_l data_c), (11, .int .i64 wantN), (12, .int .i64 want)] w := by
  exact block_spec Tryz.func47 Tryz.mixed (stops_cons (fun σ w h => by
      obtain ⟨w0_, e0, h⟩ := dP_elim h
      obtain ⟨c_, e1, h⟩ := dI_elim h
      obtain ⟨sd_, e2, h⟩ := dI_elim h
      obtain ⟨data_b_, data_l_, data_c_, e3, h⟩ := dL_elim h
      obtain ⟨wantN_, e4, h⟩ := dI_elim h
      obtain ⟨want_, e5, h⟩ := dI_elim h
      obtain ⟨n_, e6, h⟩ := dI_elim h
      obtain ⟨fr_b_, fr_l_, fr_c_, e7, h⟩ := dL_elim h
      obtain ⟨e_, e8, h⟩ := dI_elim h
      obtain ⟨fr2_b_, fr2_l_, fr2_c_, e9, h⟩ := dL_elim h
      obtain ⟨t89_, e10, h⟩ := dB_elim h
      exact (hostlaw_World_Send.B2_sound  w0_ c_ sd_ data_b_ data_l_ data_c_ wantN_ want_ n_ fr_b_ fr_l_ fr_c_ e_ fr2_b_ fr2_l_ fr2_c_ t89_ w h).weaken (Sub.cons (Sub.cons (Sub.cons (Sub.cons (Sub.cons (Sub.cons (Sub.cons (Sub.cons (Sub.cons (Sub.cons (Sub.cons (Sub.nil _) e10) e9) e8) e7) e6) e5) e4) e3) e2) e1) e0)) (stops_cons (fun σ w h => by
      obtain ⟨w0_, e0, h⟩ := dP_elim h
      obtain ⟨c_, e1, h⟩ := dI_elim h
      obtain ⟨sd_, e2, h⟩ := dI_elim h
      obtain ⟨data_b_, data_l_, data_c_, e3, h⟩ := dL_elim h
      obtain ⟨n_, e4, h⟩ := dI_elim h
      obtain ⟨fr_b_, fr_l_, fr_c_, e5, h⟩ := dL_elim h
      obtain ⟨e_, e6, h⟩ := dI_elim h
      obtain ⟨t100_, e7, h⟩ := dB_elim h
      exact (hostlaw_World_Send.B3_sound  w0_ c_ sd_ data_b_ data_l_ data_c_ n_ fr_b_ fr_l_ fr_c_ e_ t100_ w h).weaken (Sub.cons (Sub.cons (Sub.cons (Sub.cons (Sub.cons (Sub.cons (Sub.cons (Sub.cons (Sub.nil _) e7) e6) e5) e4) e3) e2) e1) e0)) stops_nil)) (Eq.mp (hostlaw_World_Send.B1_eq w0 c sd data_b data_l data_c wantN want w   R (fun w0_ c_ sd_ data_b_ data_l_ data_c_ wantN_ want_ n_ fr_b_ fr_l_ fr_c_ e_ fr2_b_ fr2_l_ fr2_c_ t89_ w => hostlaw_World_Send.B2 w0_ c_ sd_ data_b_ data_l_ data_c_ wantN_ want_ n_ fr_b_ fr_l_ fr_c_ e_ fr2_b_ fr2_l_ fr2_c_ t89_ w  R) (fun w0_ c_ sd_ data_b_ data_l_ data_c_ n_ fr_b_ fr_l_ fr_c_ e_ t100_ w => hostlaw_World_Send.B3 w0_ c_ sd_ data_b_ data_l_ data_c_ n_ fr_b_ fr_l_ fr_c_ e_ t100_ w  R)) h)
def hostlaw_World_Send.B0 (w0 : Option Addr) (c sd : Int) (data_b : Option Addr) (data_l data_c : Nat) (w : World)   (R : Bool → World → Prop) : Prop :=
  hostlaw_World_ours.Call w0 c sd w fun r26_0_0 r26_0_1 r26_0_2 r26_0_3 r26_0_4 r26_0_5 r26_0_6 r26_0_7 r26_0_8 r26_1 w1 =>
  New (.cells #[.int .i64 (0 : Int), .int .i64 (0 : Int), .int .i64 (0 : Int), .int .i64 (0 : Int), .int .i64 (0 : Int), .int .i64 (0 : Int), .int .i64 (0 : Int), .bool false, .pointer none] 69) w1 fun s_ w2 =>
  Sts [.int .i64 r26_0_0, .int .i64 r26_0_1, .int .i64 r26_0_2, .int .i64 r26_0_3, .int .i64 r26_0_4, .int .i64 r26_0_5, .int .i64 r26_0_6, .bool r26_0_7, .pointer r26_0_8] ⟨s_, 0, none⟩ 0 w2 fun w3 =>
  Bm r26_1 (
    LdP ⟨s_, 8, none⟩ w3 fun x32 =>
    hostm_WantSend.Call x32 ((data_l : Nat) : Int) w3 fun r35_0 r35_1 w4 =>
    hostlaw_World_Send.B1 w0 c sd data_b data_l data_c r35_0 r35_1 w4  R) (
    hostlaw_World_Send.B1 w0 c sd data_b data_l data_c (0 : Int) (21 : Int) w3  R)
theorem hostlaw_World_Send.B0_eq (w0 : Option Addr) (c sd : Int) (data_b : Option Addr) (data_l data_c : Nat) (w : World)   (R : Bool → World → Prop) (sB1 : Option Addr → Int → Int → Option Addr → Nat → Nat → Int → Int → World → Prop) :
    (
  hostlaw_World_ours.Call w0 c sd w fun r26_0_0 r26_0_1 r26_0_2 r26_0_3 r26_0_4 r26_0_5 r26_0_6 r26_0_7 r26_0_8 r26_1 w1 =>
  New (.cells #[.int .i64 (0 : Int), .int .i64 (0 : Int), .int .i64 (0 : Int), .int .i64 (0 : Int), .int .i64 (0 : Int), .int .i64 (0 : Int), .int .i64 (0 : Int), .bool false, .pointer none] 69) w1 fun s_ w2 =>
  Sts [.int .i64 r26_0_0, .int .i64 r26_0_1, .int .i64 r26_0_2, .int .i64 r26_0_3, .int .i64 r26_0_4, .int .i64 r26_0_5, .int .i64 r26_0_6, .bool r26_0_7, .pointer r26_0_8] ⟨s_, 0, none⟩ 0 w2 fun w3 =>
  Bm r26_1 (
    LdP ⟨s_, 8, none⟩ w3 fun x32 =>
    hostm_WantSend.Call x32 ((data_l : Nat) : Int) w3 fun r35_0 r35_1 w4 =>
    sB1 w0 c sd data_b data_l data_c r35_0 r35_1 w4) (
    sB1 w0 c sd data_b data_l data_c (0 : Int) (21 : Int) w3)) = kstep Tryz.prog 126 Tryz.f47.results.toList (Tryz.f47.body.getD .skip) (hostlaw_World_Send.RV R) (kvc Tryz.prog 126 Tryz.f47.results.toList (Tryz.f47.body.getD .skip) (hostlaw_World_Send.RV R) [([(0, [1, 1, 1, 1])], fun σ w => dP (slotOf σ 0) fun w0_ => dI .i64 (slotOf σ 1) fun c_ => dI .i64 (slotOf σ 2) fun sd_ => dL (slotOf σ 3) fun data_b_ data_l_ data_c_ => dI .i64 (slotOf σ 11) fun wantN_ => dI .i64 (slotOf σ 12) fun want_ => sB1 w0_ c_ sd_ data_b_ data_l_ data_c_ wantN_ want_ w)] 2000) [(0, [])] [(0, .pointer w0), (1, .int .i64 c), (2, .int .i64 sd), (3, .slice data_b data_l data_c)] w := by kernel_rfl
theorem hostlaw_World_Send.B0_sound {R : Bool → World → Prop}  (w0 : Option Addr) (c sd : Int) (data_b : Option Addr) (data_l data_c : Nat) (w : World) (h : hostlaw_World_Send.B0 w0 c sd data_b data_l data_c w   R) :
    KW Tryz.prog 47 126 (hostlaw_World_Send.RV R) ([(0, [])].map (toItem (Tryz.f47.body.getD .skip))) [(0, .pointer w0), (1, .int .i64 c), (2, .int .i64 sd), (3, .slice data_b data_l data_c)] w := by
  exact block_spec Tryz.func47 Tryz.mixed (stops_cons (fun σ w h => by
      obtain ⟨w0_, e0, h⟩ := dP_elim h
      obtain ⟨c_, e1, h⟩ := dI_elim h
      obtain ⟨sd_, e2, h⟩ := dI_elim h
      obtain ⟨data_b_, data_l_, data_c_, e3, h⟩ := dL_elim h
      obtain ⟨wantN_, e4, h⟩ := dI_elim h
      obtain ⟨want_, e5, h⟩ := dI_elim h
      exact (hostlaw_World_Send.B1_sound  w0_ c_ sd_ data_b_ data_l_ data_c_ wantN_ want_ w h).weaken (Sub.cons (Sub.cons (Sub.cons (Sub.cons (Sub.cons (Sub.cons (Sub.nil _) e5) e4) e3) e2) e1) e0)) stops_nil) (Eq.mp (hostlaw_World_Send.B0_eq w0 c sd data_b data_l data_c w   R (fun w0_ c_ sd_ data_b_ data_l_ data_c_ wantN_ want_ w => hostlaw_World_Send.B1 w0_ c_ sd_ data_b_ data_l_ data_c_ wantN_ want_ w  R)) h)
theorem hostlaw_World_Send.sound (w0 : Option Addr) (c sd : Int) (data_b : Option Addr) (data_l data_c : Nat) (w : World) (R : Bool → World → Prop) (h : hostlaw_World_Send.B0 w0 c sd data_b data_l data_c w R) : hostlaw_World_Send.Call w0 c sd data_b data_l data_c w R := by
  have hc := calls_of_block (args := #[.pointer w0, .int .i64 c, .int .i64 sd, .slice data_b data_l data_c]) Tryz.func47 (body := (Tryz.f47.body.getD .skip)) (by kernel_rfl) (by kernel_rfl) (args_slot _) (hostlaw_World_Send.B0_sound w0 c sd data_b data_l data_c w h)
  exact hc.mono fun e w' he => by
    obtain ⟨v, rfl, hv⟩ := he
    exact hostlaw_World_Send.RV_elim hv
def hostlaw_World_Recv.B3 (w0 : Option Addr) (c sd : Int) (got_b : Option Addr) (got_l got_c : Nat) (fr_b : Option Addr) (fr_l fr_c : Nat) (e : Int) (t92 : Bool) (w : World)   (R : Bool → World → Prop) : Prop :=
  Bm t92 (
    R false w) (
    Pn w0 fun a =>
    LdP (a.add 30) w fun x96 =>
    hostm_Net_Find.Call x96 c sd w fun r99 w1 =>
    Bm (e == (16 : Int)) (
      Bm (((fr_l : Nat) : Int) == (0 : Int)) (
        Pn w0 fun a_1 =>
        LdP (a_1.add 30) w1 fun x109 =>
        hostm_Net_EOF.Call x109 r99 w1 fun r111 w2 =>
        R r111 w2) (
        R false w1)) (
      Bm (e != (0 : Int)) (
        R (((fr_l : Nat) : Int) == (0 : Int)) w1) (
        Pn w0 fun a_2 =>
        LdP (a_2.add 30) w1 fun x121 =>
        hostm_Net_Read.Call x121 r99 got_b got_l got_c w1 fun r124 w3 =>
        Bm (!r124) (
          R false w3) (
          hostlaw_World_Own.Call w0 got_b got_l got_c w3 fun w4 =>
          hostlaw_World_Put.Call w0 c fr_b fr_l fr_c w4 fun w5 =>
          R true w5))))
theorem hostlaw_World_Recv.B3_eq (w0 : Option Addr) (c sd : Int) (got_b : Option Addr) (got_l got_c : Nat) (fr_b : Option Addr) (fr_l fr_c : Nat) (e : Int) (t92 : Bool) (w : World)   (R : Bool → World → Prop)  :
    (
  Bm t92 (
    R false w) (
    Pn w0 fun a =>
    LdP (a.add 30) w fun x96 =>
    hostm_Net_Find.Call x96 c sd w fun r99 w1 =>
    Bm (e == (16 : Int)) (
      Bm (((fr_l : Nat) : Int) == (0 : Int)) (
        Pn w0 fun a_1 =>
        LdP (a_1.add 30) w1 fun x109 =>
        hostm_Net_EOF.Call x109 r99 w1 fun r111 w2 =>
        R r111 w2) (
        R false w1)) (
      Bm (e != (0 : Int)) (
        R (((fr_l : Nat) : Int) == (0 : Int)) w1) (
        Pn w0 fun a_2 =>
        LdP (a_2.add 30) w1 fun x121 =>
        hostm_Net_Read.Call x121 r99 got_b got_l got_c w1 fun r124 w3 =>
        Bm (!r124) (
          R false w3) (
          hostlaw_World_Own.Call w0 got_b got_l got_c w3 fun w4 =>
          hostlaw_World_Put.Call w0 c fr_b fr_l fr_c w4 fun w5 =>
          R true w5))))) = kstep Tryz.prog 133 Tryz.f48.results.toList (Tryz.f48.body.getD .skip) (hostlaw_World_Recv.RV R) (kvc Tryz.prog 133 Tryz.f48.results.toList (Tryz.f48.body.getD .skip) (hostlaw_World_Recv.RV R) [] 2000) [(0, [1, 1, 1, 1, 1, 1, 0, 1]), (0, [1, 1, 1, 1, 1, 1, 1])] [(0, .pointer w0), (1, .int .i64 c), (2, .int .i64 sd), (13, .slice got_b got_l got_c), (14, .slice fr_b fr_l fr_c), (15, .int .i64 e), (92, .bool t92)] w := by kernel_rfl
theorem hostlaw_World_Recv.B3_sound {R : Bool → World → Prop}  (w0 : Option Addr) (c sd : Int) (got_b : Option Addr) (got_l got_c : Nat) (fr_b : Option Addr) (fr_l fr_c : Nat) (e : Int) (t92 : Bool) (w : World) (h : hostlaw_World_Recv.B3 w0 c sd got_b got_l got_c fr_b fr_l fr_c e t92 w   R) :
    KW Tryz.prog 48 133 (hostlaw_World_Recv.RV R) ([(0, [1, 1, 1, 1, 1, 1, 0, 1]), (0, [1, 1, 1, 1, 1, 1, 1])].map (toItem (Tryz.f48.body.getD .skip))) [(0, .pointer w0), (1, .int .i64 c), (2, .int .i64 sd), (13, .slice got_b got_l got_c), (14, .slice fr_b fr_l fr_c), (15, .int .i64 e), (92, .bool t92)] w := by
  exact block_spec Tryz.func48 Tryz.mixed stops_nil (Eq.mp (hostlaw_World_Recv.B3_eq w0 c sd got_b got_l got_c fr_b fr_l fr_c e t92 w   R ) h)
def hostlaw_World_Recv.B2 (w0 : Option Addr) (c sd wantN want : Int) (got_b : Option Addr) (got_l got_c : Nat) (fr_b : Option Addr) (fr_l fr_c : Nat) (e : Int) (got2_b : Option Addr) (got2_l got2_c : Nat) (fr2_b : Option Addr) (fr2_l fr2_c : Nat) (t73 : Bool) (w : World)   (R : Bool → World → Prop) : Prop :=
  Bm t73 (
    R false w) (
    hostlaw_SameFrames.Call fr_b fr_l fr_c fr2_b fr2_l fr2_c w fun r76 w1 =>
    Bm (!r76) (
      R false w1) (
      hostlaw_World_OwnAll.Call w0 fr2_b fr2_l fr2_c w1 fun w2 =>
      hostlaw_World_Own.Call w0 got2_b got2_l got2_c w2 fun w3 =>
      Bm (e != want) (
        hostlaw_World_Recv.B3 w0 c sd got_b got_l got_c fr_b fr_l fr_c e true w3  R) (
        hostlaw_World_Recv.B3 w0 c sd got_b got_l got_c fr_b fr_l fr_c e (((got_l : Nat) : Int) != wantN) w3  R)))
theorem hostlaw_World_Recv.B2_eq (w0 : Option Addr) (c sd wantN want : Int) (got_b : Option Addr) (got_l got_c : Nat) (fr_b : Option Addr) (fr_l fr_c : Nat) (e : Int) (got2_b : Option Addr) (got2_l got2_c : Nat) (fr2_b : Option Addr) (fr2_l fr2_c : Nat) (t73 : Bool) (w : World)   (R : Bool → World → Prop) (sB3 : Option Addr → Int → Int → Option Addr → Nat → Nat → Option Addr → Nat → Nat → Int → Bool → World → Prop) :
    (
  Bm t73 (
    R false w) (
    hostlaw_SameFrames.Call fr_b fr_l fr_c fr2_b fr2_l fr2_c w fun r76 w1 =>
    Bm (!r76) (
      R false w1) (
      hostlaw_World_OwnAll.Call w0 fr2_b fr2_l fr2_c w1 fun w2 =>
      hostlaw_World_Own.Call w0 got2_b got2_l got2_c w2 fun w3 =>
      Bm (e != want) (
        sB3 w0 c sd got_b got_l got_c fr_b fr_l fr_c e true w3) (
        sB3 w0 c sd got_b got_l got_c fr_b fr_l fr_c e (((got_l : Nat) : Int) != wantN) w3)))) = kstep Tryz.prog 133 Tryz.f48.results.toList (Tryz.f48.body.getD .skip) (hostlaw_World_Recv.RV R) (kvc Tryz.prog 133 Tryz.f48.results.toList (Tryz.f48.body.getD .skip) (hostlaw_World_Recv.RV R) [([(0, [1, 1, 1, 1, 1, 1, 0, 1]), (0, [1, 1, 1, 1, 1, 1, 1])], fun σ w => dP (slotOf σ 0) fun w0_ => dI .i64 (slotOf σ 1) fun c_ => dI .i64 (slotOf σ 2) fun sd_ => dL (slotOf σ 13) fun got_b_ got_l_ got_c_ => dL (slotOf σ 14) fun fr_b_ fr_l_ fr_c_ => dI .i64 (slotOf σ 15) fun e_ => dB (slotOf σ 92) fun t92_ => sB3 w0_ c_ sd_ got_b_ got_l_ got_c_ fr_b_ fr_l_ fr_c_ e_ t92_ w)] 2000) [(0, [1, 1, 1, 1, 1, 0, 1, 0, 1, 0, 1]), (0, [1, 1, 1, 1, 1, 0, 1, 0, 1, 1]), (0, [1, 1, 1, 1, 1, 1])] [(0, .pointer w0), (1, .int .i64 c), (2, .int .i64 sd), (11, .int .i64 wantN), (12, .int .i64 want), (13, .slice got_b got_l got_c), (14, .slice fr_b fr_l fr_c), (15, .int .i64 e), (16, .slice got2_b got2_l got2_c), (17, .slice fr2_b fr2_l fr2_c), (73, .bool t73)] w := by kernel_rfl
theorem hostlaw_World_Recv.B2_sound {R : Bool → World → Prop}  (w0 : Option Addr) (c sd wantN want : Int) (got_b : Option Addr) (got_l got_c : Nat) (fr_b : Option Addr) (fr_l fr_c : Nat) (e : Int) (got2_b : Option Addr) (got2_l got2_c : Nat) (fr2_b : Option Addr) (fr2_l fr2_c : Nat) (t73 : Bool) (w : World) (h : hostlaw_World_Recv.B2 w0 c sd wantN want got_b got_l got_c fr_b fr_l fr_c e got2_b got2_l got2_c fr2_b fr2_l fr2_c t73 w   R) :
    KW Tryz.prog 48 133 (hostlaw_World_Recv.RV R) ([(0, [1, 1, 1, 1, 1, 0, 1, 0, 1, 0, 1]), (0, [1, 1, 1, 1, 1, 0, 1, 0, 1, 1]), (0, [1, 1, 1, 1, 1, 1])].map (toItem (Tryz.f48.body.getD .skip))) [(0, .pointer w0), (1, .int .i64 c), (2, .int .i64 sd), (11, .int .i64 wantN), (12, .int .i64 want), (13, .slice got_b got_l got_c), (14, .slice fr_b fr_l fr_c), (15, .int .i64 e), (16, .slice got2_b got2_l got2_c), (17, .slice fr2_b fr2_l fr2_c), (73, .bool t73)] w := by
  exact block_spec Tryz.func48 Tryz.mixed (stops_cons (fun σ w h => by
      obtain ⟨w0_, e0, h⟩ := dP_elim h
      obtain ⟨c_, e1, h⟩ := dI_elim h
      obtain ⟨sd_, e2, h⟩ := dI_elim h
      obtain ⟨got_b_, got_l_, got_c_, e3, h⟩ := dL_elim h
      obtain ⟨fr_b_, fr_l_, fr_c_, e4, h⟩ := dL_elim h
      obtain ⟨e_, e5, h⟩ := dI_elim h
      obtain ⟨t92_, e6, h⟩ := dB_elim h
      exact (hostlaw_World_Recv.B3_sound  w0_ c_ sd_ got_b_ got_l_ got_c_ fr_b_ fr_l_ fr_c_ e_ t92_ w h).weaken (Sub.cons (Sub.cons (Sub.cons (Sub.cons (Sub.cons (Sub.cons (Sub.cons (Sub.nil _) e6) e5) e4) e3) e2) e1) e0)) stops_nil) (Eq.mp (hostlaw_World_Recv.B2_eq w0 c sd wantN want got_b got_l got_c fr_b fr_l fr_c e got2_b got2_l got2_c fr2_b fr2_l fr2_c t73 w   R (fun w0_ c_ sd_ got_b_ got_l_ got_c_ fr_b_ fr_l_ fr_c_ e_ t92_ w => hostlaw_World_Recv.B3 w0_ c_ sd_ got_b_ got_l_ got_c_ fr_b_ fr_l_ fr_c_ e_ t92_ w  R)) h)
def hostlaw_World_Recv.B1 (w0 : Option Addr) (c sd max wantN want : Int) (w : World)   (R : Bool → World → Prop) : Prop :=
  Pn w0 fun a =>
  (0 ≤ c ∧ c < ((3 : Nat) : Int)) ∧
  LdP (Addr.add a (c.toNat * 1)) w fun x41 =>
  host_Host_Recv.Call x41 sd max w fun r44_0_b r44_0_l r44_0_c r44_1_b r44_1_l r44_1_c r44_2 w1 =>
  Pn w0 fun a_1 =>
  LdB (a_1.add 27) w1 fun x51 =>
  Bm x51 (
    Pn w0 fun a_2 =>
    (0 ≤ c ∧ c < ((3 : Nat) : Int)) ∧
    LdP (Addr.add (a_2.add 24) (c.toNat * 1)) w1 fun x58 =>
    host_Host_Recv.Call x58 sd max w1 fun r61_0_b r61_0_l r61_0_c r61_1_b r61_1_l r61_1_c r61_2 w2 =>
    Bm (r61_2 != r44_2) (
      hostlaw_World_Recv.B2 w0 c sd wantN want r44_0_b r44_0_l r44_0_c r44_1_b r44_1_l r44_1_c r44_2 r61_0_b r61_0_l r61_0_c r61_1_b r61_1_l r61_1_c true w2  R) (
      api_SameBytes.Call r44_0_b r44_0_l r44_0_c r61_0_b r61_0_l r61_0_c w2 fun r71 w3 =>
      hostlaw_World_Recv.B2 w0 c sd wantN want r44_0_b r44_0_l r44_0_c r44_1_b r44_1_l r44_1_c r44_2 r61_0_b r61_0_l r61_0_c r61_1_b r61_1_l r61_1_c (!r71) w3  R)) (
    Bm (r44_2 != want) (
      hostlaw_World_Recv.B3 w0 c sd r44_0_b r44_0_l r44_0_c r44_1_b r44_1_l r44_1_c r44_2 true w1  R) (
      hostlaw_World_Recv.B3 w0 c sd r44_0_b r44_0_l r44_0_c r44_1_b r44_1_l r44_1_c r44_2 (((r44_0_l : Nat) : Int) != wantN) w1  R))
theorem hostlaw_World_Recv.B1_eq (w0 : Option Addr) (c sd max wantN want : Int) (w : World)   (R : Bool → World → Prop) (sB2 : Option Addr → Int → Int → Int → Int → Option Addr → Nat → Nat → Option Addr → Nat → Nat → Int → Option Addr → Nat → Nat → Option Addr → Nat → Nat → Bool → World → Prop) (sB3 : Option Addr → Int → Int → Option Addr → Nat → Nat → Option Addr → Nat → Nat → Int → Bool → World → Prop) :
    (
  Pn w0 fun a =>
  (0 ≤ c ∧ c < ((3 : Nat) : Int)) ∧
  LdP (Addr.add a (c.toNat * 1)) w fun x41 =>
  host_Host_Recv.Call x41 sd max w fun r44_0_b r44_0_l r44_0_c r44_1_b r44_1_l r44_1_c r44_2 w1 =>
  Pn w0 fun a_1 =>
  LdB (a_1.add 27) w1 fun x51 =>
  Bm x51 (
    Pn w0 fun a_2 =>
    (0 ≤ c ∧ c < ((3 : Nat) : Int)) ∧
    LdP (Addr.add (a_2.add 24) (c.toNat * 1)) w1 fun x58 =>
    host_Host_Recv.Call x58 sd max w1 fun r61_0_b r61_0_l r61_0_c r61_1_b r61_1_l r61_1_c r61_2 w2 =>
    Bm (r61_2 != r44_2) (
      sB2 w0 c sd wantN want r44_0_b r44_0_l r44_0_c r44_1_b r44_1_l r44_1_c r44_2 r61_0_b r61_0_l r61_0_c r61_1_b r61_1_l r61_1_c true w2) (
      api_SameBytes.Call r44_0_b r44_0_l r44_0_c r61_0_b r61_0_l r61_0_c w2 fun r71 w3 =>
      sB2 w0 c sd wantN want r44_0_b r44_0_l r44_0_c r44_1_b r44_1_l r44_1_c r44_2 r61_0_b r61_0_l r61_0_c r61_1_b r61_1_l r61_1_c (!r71) w3)) (
    Bm (r44_2 != want) (
      sB3 w0 c sd r44_0_b r44_0_l r44_0_c r44_1_b r44_1_l r44_1_c r44_2 true w1) (
      sB3 w0 c sd r44_0_b r44_0_l r44_0_c r44_1_b r44_1_l r44_1_c r44_2 (((r44_0_l : Nat) : Int) != wantN) w1))) = kstep Tryz.prog 133 Tryz.f48.results.toList (Tryz.f48.body.getD .skip) (hostlaw_World_Recv.RV R) (kvc Tryz.prog 133 Tryz.f48.results.toList (Tryz.f48.body.getD .skip) (hostlaw_World_Recv.RV R) [([(0, [1, 1, 1, 1, 1, 0, 1, 0, 1, 0, 1]), (0, [1, 1, 1, 1, 1, 0, 1, 0, 1, 1]), (0, [1, 1, 1, 1, 1, 1])], fun σ w => dP (slotOf σ 0) fun w0_ => dI .i64 (slotOf σ 1) fun c_ => dI .i64 (slotOf σ 2) fun sd_ => dI .i64 (slotOf σ 11) fun wantN_ => dI .i64 (slotOf σ 12) fun want_ => dL (slotOf σ 13) fun got_b_ got_l_ got_c_ => dL (slotOf σ 14) fun fr_b_ fr_l_ fr_c_ => dI .i64 (slotOf σ 15) fun e_ => dL (slotOf σ 16) fun got2_b_ got2_l_ got2_c_ => dL (slotOf σ 17) fun fr2_b_ fr2_l_ fr2_c_ => dB (slotOf σ 73) fun t73_ => sB2 w0_ c_ sd_ wantN_ want_ got_b_ got_l_ got_c_ fr_b_ fr_l_ fr_c_ e_ got2_b_ got2_l_ got2_c_ fr2_b_ fr2_l_ fr2_c_ t73_ w),
    ([(0, [1, 1, 1, 1, 1, 1, 0, 1]), (0, [1, 1, 1, 1, 1, 1, 1])], fun σ w => dP (slotOf σ 0) fun w0_ => dI .i64 (slotOf σ 1) fun c_ => dI .i64 (slotOf σ 2) fun sd_ => dL (slotOf σ 13) fun got_b_ got_l_ got_c_ => dL (slotOf σ 14) fun fr_b_ fr_l_ fr_c_ => dI .i64 (slotOf σ 15) fun e_ => dB (slotOf σ 92) fun t92_ => sB3 w0_ c_ sd_ got_b_ got_l_ got_c_ fr_b_ fr_l_ fr_c_ e_ t92_ w)] 2000) [(0, [1, 1, 1, 1])] [(0, .pointer w0), (1, .int .i64 c), (2, .int .i64 sd), (3, .int .i64 max), (11, .int .i64 wantN), (12, .int .i64 want)] w := by kernel_rfl
theorem hostlaw_World_Recv.B1_sound {R : Bool → World → Prop}  (w0 : Option Addr) (c sd max wantN want : Int) (w : World) (h : hostlaw_World_Recv.B1 w0 c sd max wantN want w   R) :
    KW Tryz.prog 48 133 (hostlaw_World_Recv.RV R) ([(0, [1, 1, 1, 1])].map (toItem (Tryz.f48.body.getD .skip))) [(0, .pointer w0), (1, .int .i64 c), (2, .int .i64 sd), (3, .int .i64 max), (11, .int .i64 wantN), (12, .int .i64 want)] w := by
  exact block_spec Tryz.func48 Tryz.mixed (stops_cons (fun σ w h => by
      obtain ⟨w0_, e0, h⟩ := dP_elim h
      obtain ⟨c_, e1, h⟩ := dI_elim h
      obtain ⟨sd_, e2, h⟩ := dI_elim h
      obtain ⟨wantN_, e3, h⟩ := dI_elim h
      obtain ⟨want_, e4, h⟩ := dI_elim h
      obtain ⟨got_b_, got_l_, got_c_, e5, h⟩ := dL_elim h
      obtain ⟨fr_b_, fr_l_, fr_c_, e6, h⟩ := dL_elim h
      obtain ⟨e_, e7, h⟩ := dI_elim h
      obtain ⟨got2_b_, got2_l_, got2_c_, e8, h⟩ := dL_elim h
      obtain ⟨fr2_b_, fr2_l_, fr2_c_, e9, h⟩ := dL_elim h
      obtain ⟨t73_, e10, h⟩ := dB_elim h
      exact (hostlaw_World_Recv.B2_sound  w0_ c_ sd_ wantN_ want_ got_b_ got_l_ got_c_ fr_b_ fr_l_ fr_c_ e_ got2_b_ got2_l_ got2_c_ fr2_b_ fr2_l_ fr2_c_ t73_ w h).weaken (Sub.cons (Sub.cons (Sub.cons (Sub.cons (Sub.cons (Sub.cons (Sub.cons (Sub.cons (Sub.cons (Sub.cons (Sub.cons (Sub.nil _) e10) e9) e8) e7) e6) e5) e4) e3) e2) e1) e0)) (stops_cons (fun σ w h => by
      obtain ⟨w0_, e0, h⟩ := dP_elim h
      obtain ⟨c_, e1, h⟩ := dI_elim h
      obtain ⟨sd_, e2, h⟩ := dI_elim h
      obtain ⟨got_b_, got_l_, got_c_, e3, h⟩ := dL_elim h
      obtain ⟨fr_b_, fr_l_, fr_c_, e4, h⟩ := dL_elim h
      obtain ⟨e_, e5, h⟩ := dI_elim h
      obtain ⟨t92_, e6, h⟩ := dB_elim h
      exact (hostlaw_World_Recv.B3_sound  w0_ c_ sd_ got_b_ got_l_ got_c_ fr_b_ fr_l_ fr_c_ e_ t92_ w h).weaken (Sub.cons (Sub.cons (Sub.cons (Sub.cons (Sub.cons (Sub.cons (Sub.cons (Sub.nil _) e6) e5) e4) e3) e2) e1) e0)) stops_nil)) (Eq.mp (hostlaw_World_Recv.B1_eq w0 c sd max wantN want w   R (fun w0_ c_ sd_ wantN_ want_ got_b_ got_l_ got_c_ fr_b_ fr_l_ fr_c_ e_ got2_b_ got2_l_ got2_c_ fr2_b_ fr2_l_ fr2_c_ t73_ w => hostlaw_World_Recv.B2 w0_ c_ sd_ wantN_ want_ got_b_ got_l_ got_c_ fr_b_ fr_l_ fr_c_ e_ got2_b_ got2_l_ got2_c_ fr2_b_ fr2_l_ fr2_c_ t73_ w  R) (fun w0_ c_ sd_ got_b_ got_l_ got_c_ fr_b_ fr_l_ fr_c_ e_ t92_ w => hostlaw_World_Recv.B3 w0_ c_ sd_ got_b_ got_l_ got_c_ fr_b_ fr_l_ fr_c_ e_ t92_ w  R)) h)
def hostlaw_World_Recv.B0 (w0 : Option Addr) (c sd max : Int) (w : World)   (R : Bool → World → Prop) : Prop :=
  hostlaw_World_ours.Call w0 c sd w fun r24_0_0 r24_0_1 r24_0_2 r24_0_3 r24_0_4 r24_0_5 r24_0_6 r24_0_7 r24_0_8 r24_1 w1 =>
  New (.cells #[.int .i64 (0 : Int), .int .i64 (0 : Int), .int .i64 (0 : Int), .int .i64 (0 : Int), .int .i64 (0 : Int), .int .i64 (0 : Int), .int .i64 (0 : Int), .bool false, .pointer none] 69) w1 fun s_ w2 =>
  Sts [.int .i64 r24_0_0, .int .i64 r24_0_1, .int .i64 r24_0_2, .int .i64 r24_0_3, .int .i64 r24_0_4, .int .i64 r24_0_5, .int .i64 r24_0_6, .bool r24_0_7, .pointer r24_0_8] ⟨s_, 0, none⟩ 0 w2 fun w3 =>
  Bm r24_1 (
    LdP ⟨s_, 8, none⟩ w3 fun x30 =>
    hostm_WantRecv.Call x30 max w3 fun r32_0 r32_1 w4 =>
    hostlaw_World_Recv.B1 w0 c sd max r32_0 r32_1 w4  R) (
    hostlaw_World_Recv.B1 w0 c sd max (0 : Int) (21 : Int) w3  R)
theorem hostlaw_World_Recv.B0_eq (w0 : Option Addr) (c sd max : Int) (w : World)   (R : Bool → World → Prop) (sB1 : Option Addr → Int → Int → Int → Int → Int → World → Prop) :
    (
  hostlaw_World_ours.Call w0 c sd w fun r24_0_0 r24_0_1 r24_0_2 r24_0_3 r24_0_4 r24_0_5 r24_0_6 r24_0_7 r24_0_8 r24_1 w1 =>
  New (.cells #[.int .i64 (0 : Int), .int .i64 (0 : Int), .int .i64 (0 : Int), .int .i64 (0 : Int), .int .i64 (0 : Int), .int .i64 (0 : Int), .int .i64 (0 : Int), .bool false, .pointer none] 69) w1 fun s_ w2 =>
  Sts [.int .i64 r24_0_0, .int .i64 r24_0_1, .int .i64 r24_0_2, .int .i64 r24_0_3, .int .i64 r24_0_4, .int .i64 r24_0_5, .int .i64 r24_0_6, .bool r24_0_7, .pointer r24_0_8] ⟨s_, 0, none⟩ 0 w2 fun w3 =>
  Bm r24_1 (
    LdP ⟨s_, 8, none⟩ w3 fun x30 =>
    hostm_WantRecv.Call x30 max w3 fun r32_0 r32_1 w4 =>
    sB1 w0 c sd max r32_0 r32_1 w4) (
    sB1 w0 c sd max (0 : Int) (21 : Int) w3)) = kstep Tryz.prog 133 Tryz.f48.results.toList (Tryz.f48.body.getD .skip) (hostlaw_World_Recv.RV R) (kvc Tryz.prog 133 Tryz.f48.results.toList (Tryz.f48.body.getD .skip) (hostlaw_World_Recv.RV R) [([(0, [1, 1, 1, 1])], fun σ w => dP (slotOf σ 0) fun w0_ => dI .i64 (slotOf σ 1) fun c_ => dI .i64 (slotOf σ 2) fun sd_ => dI .i64 (slotOf σ 3) fun max_ => dI .i64 (slotOf σ 11) fun wantN_ => dI .i64 (slotOf σ 12) fun want_ => sB1 w0_ c_ sd_ max_ wantN_ want_ w)] 2000) [(0, [])] [(0, .pointer w0), (1, .int .i64 c), (2, .int .i64 sd), (3, .int .i64 max)] w := by kernel_rfl
theorem hostlaw_World_Recv.B0_sound {R : Bool → World → Prop}  (w0 : Option Addr) (c sd max : Int) (w : World) (h : hostlaw_World_Recv.B0 w0 c sd max w   R) :
    KW Tryz.prog 48 133 (hostlaw_World_Recv.RV R) ([(0, [])].map (toItem (Tryz.f48.body.getD .skip))) [(0, .pointer w0), (1, .int .i64 c), (2, .int .i64 sd), (3, .int .i64 max)] w := by
  exact block_spec Tryz.func48 Tryz.mixed (stops_cons (fun σ w h => by
      obtain ⟨w0_, e0, h⟩ := dP_elim h
      obtain ⟨c_, e1, h⟩ := dI_elim h
      obtain ⟨sd_, e2, h⟩ := dI_elim h
      obtain ⟨max_, e3, h⟩ := dI_elim h
      obtain ⟨wantN_, e4, h⟩ := dI_elim h
      obtain ⟨want_, e5, h⟩ := dI_elim h
      exact (hostlaw_World_Recv.B1_sound  w0_ c_ sd_ max_ wantN_ want_ w h).weaken (Sub.cons (Sub.cons (Sub.cons (Sub.cons (Sub.cons (Sub.cons (Sub.nil _) e5) e4) e3) e2) e1) e0)) stops_nil) (Eq.mp (hostlaw_World_Recv.B0_eq w0 c sd max w   R (fun w0_ c_ sd_ max_ wantN_ want_ w => hostlaw_World_Recv.B1 w0_ c_ sd_ max_ wantN_ want_ w  R)) h)
theorem hostlaw_World_Recv.sound (w0 : Option Addr) (c sd max : Int) (w : World) (R : Bool → World → Prop) (h : hostlaw_World_Recv.B0 w0 c sd max w R) : hostlaw_World_Recv.Call w0 c sd max w R := by
  have hc := calls_of_block (args := #[.pointer w0, .int .i64 c, .int .i64 sd, .int .i64 max]) Tryz.func48 (body := (Tryz.f48.body.getD .skip)) (by kernel_rfl) (by kernel_rfl) (args_slot _) (hostlaw_World_Recv.B0_sound w0 c sd max w h)
  exact hc.mono fun e w' he => by
    obtain ⟨v, rfl, hv⟩ := he
    exact hostlaw_World_Recv.RV_elim hv
def hostlaw_World_End.B9 (w0 : Option Addr) (c sd : Int) (abort mine : Bool) (want : Int) (lis : Bool) (kids_b : Option Addr) (kids_l kids_c : Nat) (i : Int) (w : World) (N1 : Option Addr → Int → Int → Bool → Bool → Int → Bool → Option Addr → Nat → Nat → Int → World → Prop)  (R : Bool → World → Prop) : Prop :=
  N1 w0 c sd abort mine want lis kids_b kids_l kids_c (IntKind.i64.wrap (i + (1 : Int))) w
theorem hostlaw_World_End.B9_eq (w0 : Option Addr) (c sd : Int) (abort mine : Bool) (want : Int) (lis : Bool) (kids_b : Option Addr) (kids_l kids_c : Nat) (i : Int) (w : World) (N1 : Option Addr → Int → Int → Bool → Bool → Int → Bool → Option Addr → Nat → Nat → Int → World → Prop)  (R : Bool → World → Prop)  :
    (
  N1 w0 c sd abort mine want lis kids_b kids_l kids_c (IntKind.i64.wrap (i + (1 : Int))) w) = kstep Tryz.prog 293 Tryz.f49.results.toList (Tryz.f49.body.getD .skip) (hostlaw_World_End.RV R) (kvc Tryz.prog 293 Tryz.f49.results.toList (Tryz.f49.body.getD .skip) (hostlaw_World_End.RV R) [([(0, [1, 1, 1, 1, 1, 1, 0, 1, 0, 0]), (2, [1, 1, 1, 1, 1, 1, 0, 1, 0, 0]), (1, [0]), (0, [1, 1, 1, 1, 1, 1, 1])], fun σ w => dP (slotOf σ 0) fun w0_ => dI .i64 (slotOf σ 1) fun c_ => dI .i64 (slotOf σ 2) fun sd_ => dB (slotOf σ 3) fun abort_ => dB (slotOf σ 10) fun mine_ => dI .i64 (slotOf σ 11) fun want_ => dB (slotOf σ 12) fun lis_ => dL (slotOf σ 13) fun kids_b_ kids_l_ kids_c_ => dI .i64 (slotOf σ 14) fun i_ => N1 w0_ c_ sd_ abort_ mine_ want_ lis_ kids_b_ kids_l_ kids_c_ i_ w)] 2000) [(0, [1, 1, 1, 1, 1, 1, 0, 1, 0, 0, 1, 1]), (2, [1, 1, 1, 1, 1, 1, 0, 1, 0, 0]), (1, [0]), (0, [1, 1, 1, 1, 1, 1, 1])] [(0, .pointer w0), (1, .int .i64 c), (2, .int .i64 sd), (3, .bool abort), (10, .bool mine), (11, .int .i64 want), (12, .bool lis), (13, .slice kids_b kids_l kids_c), (14, .int .i64 i)] w := by kernel_rfl
theorem hostlaw_World_End.B9_sound {R : Bool → World → Prop} {N1 : Option Addr → Int → Int → Bool → Bool → Int → Bool → Option Addr → Nat → Nat → Int → World → Prop} (hN1 : ∀ w0 c sd abort mine want lis kids_b kids_l kids_c i w, N1 w0 c sd abort mine want lis kids_b kids_l kids_c i w → KW Tryz.prog 49 293 (hostlaw_World_End.RV R) ([(0, [1, 1, 1, 1, 1, 1, 0, 1, 0, 0]), (2, [1, 1, 1, 1, 1, 1, 0, 1, 0, 0]), (1, [0]), (0, [1, 1, 1, 1, 1, 1, 1])].map (toItem (Tryz.f49.body.getD .skip))) [(0, .pointer w0), (1, .int .i64 c), (2, .int .i64 sd), (3, .bool abort), (10, .bool mine), (11, .int .i64 want), (12, .bool lis), (13, .slice kids_b kids_l kids_c), (14, .int .i64 i)] w) (w0 : Option Addr) (c sd : Int) (abort mine : Bool) (want : Int) (lis : Bool) (kids_b : Option Addr) (kids_l kids_c : Nat) (i : Int) (w : World) (h : hostlaw_World_End.B9 w0 c sd abort mine want lis kids_b kids_l kids_c i w N1  R) :
    KW Tryz.prog 49 293 (hostlaw_World_End.RV R) ([(0, [1, 1, 1, 1, 1, 1, 0, 1, 0, 0, 1, 1]), (2, [1, 1, 1, 1, 1, 1, 0, 1, 0, 0]), (1, [0]), (0, [1, 1, 1, 1, 1, 1, 1])].map (toItem (Tryz.f49.body.getD .skip))) [(0, .pointer w0), (1, .int .i64 c), (2, .int .i64 sd), (3, .bool abort), (10, .bool mine), (11, .int .i64 want), (12, .bool lis), (13, .slice kids_b kids_l kids_c), (14, .int .i64 i)] w := by
  exact block_spec Tryz.func49 Tryz.mixed (stops_cons (fun σ w h => by
      obtain ⟨w0_, e0, h⟩ := dP_elim h
      obtain ⟨c_, e1, h⟩ := dI_elim h
      obtain ⟨sd_, e2, h⟩ := dI_elim h
      obtain ⟨abort_, e3, h⟩ := dB_elim h
      obtain ⟨mine_, e4, h⟩ := dB_elim h
      obtain ⟨want_, e5, h⟩ := dI_elim h
      obtain ⟨lis_, e6, h⟩ := dB_elim h
      obtain ⟨kids_b_, kids_l_, kids_c_, e7, h⟩ := dL_elim h
      obtain ⟨i_, e8, h⟩ := dI_elim h
      exact (hN1 w0_ c_ sd_ abort_ mine_ want_ lis_ kids_b_ kids_l_ kids_c_ i_ w h).weaken (Sub.cons (Sub.cons (Sub.cons (Sub.cons (Sub.cons (Sub.cons (Sub.cons (Sub.cons (Sub.cons (Sub.nil _) e8) e7) e6) e5) e4) e3) e2) e1) e0)) stops_nil) (Eq.mp (hostlaw_World_End.B9_eq w0 c sd abort mine want lis kids_b kids_l kids_c i w N1  R ) h)
def hostlaw_World_End.B6 (w0 : Option Addr) (c sd : Int) (abort mine : Bool) (want : Int) (lis : Bool) (kids_b : Option Addr) (kids_l kids_c : Nat) (i : Int) (t96 : Bool) (w : World) (N1 : Option Addr → Int → Int → Bool → Bool → Int → Bool → Option Addr → Nat → Nat → Int → World → Prop)  (R : Bool → World → Prop) : Prop :=
  Bm t96 (
    Pn w0 fun a =>
    (0 ≤ c ∧ c < ((3 : Nat) : Int)) ∧
    LdL (Addr.add (a.add 34) (c.toNat * 1)) w fun x103_b x103_l x103_c =>
    Pn x103_b fun a_1 =>
    (0 ≤ i ∧ i < ((x103_l : Nat) : Int)) ∧
    LdI .i64 (Addr.add a_1 (i.toNat * 1)) w fun x106 =>
    New (.cells #[.int .i64 x106] 3) w fun b107 w1 =>
    Append 3 (.int .i64 (0 : Int)) 1 8 kids_b kids_l kids_c (some ⟨b107, 0, none⟩) 1 w1 fun b108 c108 w2 =>
    hostlaw_World_End.B9 w0 c sd abort mine want lis b108 (kids_l + 1) c108 i w2 N1 R) (
    hostlaw_World_End.B9 w0 c sd abort mine want lis kids_b kids_l kids_c i w N1 R)
theorem hostlaw_World_End.B6_eq (w0 : Option Addr) (c sd : Int) (abort mine : Bool) (want : Int) (lis : Bool) (kids_b : Option Addr) (kids_l kids_c : Nat) (i : Int) (t96 : Bool) (w : World) (N1 : Option Addr → Int → Int → Bool → Bool → Int → Bool → Option Addr → Nat → Nat → Int → World → Prop)  (R : Bool → World → Prop) (sB9 : Option Addr → Int → Int → Bool → Bool → Int → Bool → Option Addr → Nat → Nat → Int → World → Prop) :
    (
  Bm t96 (
    Pn w0 fun a =>
    (0 ≤ c ∧ c < ((3 : Nat) : Int)) ∧
    LdL (Addr.add (a.add 34) (c.toNat * 1)) w fun x103_b x103_l x103_c =>
    Pn x103_b fun a_1 =>
    (0 ≤ i ∧ i < ((x103_l : Nat) : Int)) ∧
    LdI .i64 (Addr.add a_1 (i.toNat * 1)) w fun x106 =>
    New (.cells #[.int .i64 x106] 3) w fun b107 w1 =>
    Append 3 (.int .i64 (0 : Int)) 1 8 kids_b kids_l kids_c (some ⟨b107, 0, none⟩) 1 w1 fun b108 c108 w2 =>
    sB9 w0 c sd abort mine want lis b108 (kids_l + 1) c108 i w2) (
    sB9 w0 c sd abort mine want lis kids_b kids_l kids_c i w)) = kstep Tryz.prog 293 Tryz.f49.results.toList (Tryz.f49.body.getD .skip) (hostlaw_World_End.RV R) (kvc Tryz.prog 293 Tryz.f49.results.toList (Tryz.f49.body.getD .skip) (hostlaw_World_End.RV R) [([(0, [1, 1, 1, 1, 1, 1, 0, 1, 0, 0, 1, 1]), (2, [1, 1, 1, 1, 1, 1, 0, 1, 0, 0]), (1, [0]), (0, [1, 1, 1, 1, 1, 1, 1])], fun σ w => dP (slotOf σ 0) fun w0_ => dI .i64 (slotOf σ 1) fun c_ => dI .i64 (slotOf σ 2) fun sd_ => dB (slotOf σ 3) fun abort_ => dB (slotOf σ 10) fun mine_ => dI .i64 (slotOf σ 11) fun want_ => dB (slotOf σ 12) fun lis_ => dL (slotOf σ 13) fun kids_b_ kids_l_ kids_c_ => dI .i64 (slotOf σ 14) fun i_ => sB9 w0_ c_ sd_ abort_ mine_ want_ lis_ kids_b_ kids_l_ kids_c_ i_ w)] 2000) [(0, [1, 1, 1, 1, 1, 1, 0, 1, 0, 0, 1, 0, 0, 1, 1]), (1, [1]), (0, [1, 1, 1, 1, 1, 1, 0, 1, 0, 0, 1, 1]), (2, [1, 1, 1, 1, 1, 1, 0, 1, 0, 0]), (1, [0]), (0, [1, 1, 1, 1, 1, 1, 1])] [(0, .pointer w0), (1, .int .i64 c), (2, .int .i64 sd), (3, .bool abort), (10, .bool mine), (11, .int .i64 want), (12, .bool lis), (13, .slice kids_b kids_l kids_c), (14, .int .i64 i), (96, .bool t96)] w := by kernel_rfl
theorem hostlaw_World_End.B6_sound {R : Bool → World → Prop} {N1 : Option Addr → Int → Int → Bool → Bool → Int → Bool → Option Addr → Nat → Nat → Int → World → Prop} (hN1 : ∀ w0 c sd abort mine want lis kids_b kids_l kids_c i w, N1 w0 c sd abort mine want lis kids_b kids_l kids_c i w → KW Tryz.prog 49 293 (hostlaw_World_End.RV R) ([(0, [1, 1, 1, 1, 1, 1, 0, 1, 0, 0]), (2, [1, 1, 1, 1, 1, 1, 0, 1, 0, 0]), (1, [0]), (0, [1, 1, 1, 1, 1, 1, 1])].map (toItem (Tryz.f49.body.getD .skip))) [(0, .pointer w0), (1, .int .i64 c), (2, .int .i64 sd), (3, .bool abort), (10, .bool mine), (11, .int .i64 want), (12, .bool lis), (13, .slice kids_b kids_l kids_c), (14, .int .i64 i)] w) (w0 : Option Addr) (c sd : Int) (abort mine : Bool) (want : Int) (lis : Bool) (kids_b : Option Addr) (kids_l kids_c : Nat) (i : Int) (t96 : Bool) (w : World) (h : hostlaw_World_End.B6 w0 c sd abort mine want lis kids_b kids_l kids_c i t96 w N1  R) :
    KW Tryz.prog 49 293 (hostlaw_World_End.RV R) ([(0, [1, 1, 1, 1, 1, 1, 0, 1, 0, 0, 1, 0, 0, 1, 1]), (1, [1]), (0, [1, 1, 1, 1, 1, 1, 0, 1, 0, 0, 1, 1]), (2, [1, 1, 1, 1, 1, 1, 0, 1, 0, 0]), (1, [0]), (0, [1, 1, 1, 1, 1, 1, 1])].map (toItem (Tryz.f49.body.getD .skip))) [(0, .pointer w0), (1, .int .i64 c), (2, .int .i64 sd), (3, .bool abort), (10, .bool mine), (11, .int .i64 want), (12, .bool lis), (13, .slice kids_b kids_l kids_c), (14, .int .i64 i), (96, .bool t96)] w := by
  exact block_spec Tryz.func49 Tryz.mixed (stops_cons (fun σ w h => by
      obtain ⟨w0_, e0, h⟩ := dP_elim h
      obtain ⟨c_, e1, h⟩ := dI_elim h
      obtain ⟨sd_, e2, h⟩ := dI_elim h
      obtain ⟨abort_, e3, h⟩ := dB_elim h
      obtain ⟨mine_, e4, h⟩ := dB_elim h
      obtain ⟨want_, e5, h⟩ := dI_elim h
      obtain ⟨lis_, e6, h⟩ := dB_elim h
      obtain ⟨kids_b_, kids_l_, kids_c_, e7, h⟩ := dL_elim h
      obtain ⟨i_, e8, h⟩ := dI_elim h
      exact (hostlaw_World_End.B9_sound hN1 w0_ c_ sd_ abort_ mine_ want_ lis_ kids_b_ kids_l_ kids_c_ i_ w h).weaken (Sub.cons (Sub.cons (Sub.cons (Sub.cons (Sub.cons (Sub.cons (Sub.cons (Sub.cons (Sub.cons (Sub.nil _) e8) e7) e6) e5) e4) e3) e2) e1) e0)) stops_nil) (Eq.mp (hostlaw_World_End.B6_eq w0 c sd abort mine want lis kids_b kids_l kids_c i t96 w N1  R (fun w0_ c_ sd_ abort_ mine_ want_ lis_ kids_b_ kids_l_ kids_c_ i_ w => hostlaw_World_End.B9 w0_ c_ sd_ abort_ mine_ want_ lis_ kids_b_ kids_l_ kids_c_ i_ w N1 R)) h)
def hostlaw_World_End.B4 (w0 : Option Addr) (c sd : Int) (abort mine : Bool) (want : Int) (lis : Bool) (kids_b : Option Addr) (kids_l kids_c : Nat) (i : Int) (k : Nat) (e : Int) (w : World) (N1 : Option Addr → Int → Int → Bool → Bool → Int → Bool → Option Addr → Nat → Nat → Int → World → Prop)  (R : Bool → World → Prop) : Prop :=
  Bm (e == (0 : Int)) (
    LdI .i64 ⟨k, 6, none⟩ w fun x93 =>
    hostlaw_World_End.B6 w0 c sd abort mine want lis kids_b kids_l kids_c i (x93 == sd) w N1 R) (
    hostlaw_World_End.B6 w0 c sd abort mine want lis kids_b kids_l kids_c i false w N1 R)
theorem hostlaw_World_End.B4_eq (w0 : Option Addr) (c sd : Int) (abort mine : Bool) (want : Int) (lis : Bool) (kids_b : Option Addr) (kids_l kids_c : Nat) (i : Int) (k : Nat) (e : Int) (w : World) (N1 : Option Addr → Int → Int → Bool → Bool → Int → Bool → Option Addr → Nat → Nat → Int → World → Prop)  (R : Bool → World → Prop) (sB6 : Option Addr → Int → Int → Bool → Bool → Int → Bool → Option Addr → Nat → Nat → Int → Bool → World → Prop) :
    (
  Bm (e == (0 : Int)) (
    LdI .i64 ⟨k, 6, none⟩ w fun x93 =>
    sB6 w0 c sd abort mine want lis kids_b kids_l kids_c i (x93 == sd) w) (
    sB6 w0 c sd abort mine want lis kids_b kids_l kids_c i false w)) = kstep Tryz.prog 293 Tryz.f49.results.toList (Tryz.f49.body.getD .skip) (hostlaw_World_End.RV R) (kvc Tryz.prog 293 Tryz.f49.results.toList (Tryz.f49.body.getD .skip) (hostlaw_World_End.RV R) [([(0, [1, 1, 1, 1, 1, 1, 0, 1, 0, 0, 1, 0, 0, 1, 1]), (1, [1]), (0, [1, 1, 1, 1, 1, 1, 0, 1, 0, 0, 1, 1]), (2, [1, 1, 1, 1, 1, 1, 0, 1, 0, 0]), (1, [0]), (0, [1, 1, 1, 1, 1, 1, 1])], fun σ w => dP (slotOf σ 0) fun w0_ => dI .i64 (slotOf σ 1) fun c_ => dI .i64 (slotOf σ 2) fun sd_ => dB (slotOf σ 3) fun abort_ => dB (slotOf σ 10) fun mine_ => dI .i64 (slotOf σ 11) fun want_ => dB (slotOf σ 12) fun lis_ => dL (slotOf σ 13) fun kids_b_ kids_l_ kids_c_ => dI .i64 (slotOf σ 14) fun i_ => dB (slotOf σ 96) fun t96_ => sB6 w0_ c_ sd_ abort_ mine_ want_ lis_ kids_b_ kids_l_ kids_c_ i_ t96_ w)] 2000) [(0, [1, 1, 1, 1, 1, 1, 0, 1, 0, 0, 1, 0, 0, 1]), (1, [1]), (0, [1, 1, 1, 1, 1, 1, 0, 1, 0, 0, 1, 1]), (2, [1, 1, 1, 1, 1, 1, 0, 1, 0, 0]), (1, [0]), (0, [1, 1, 1, 1, 1, 1, 1])] [(0, .pointer w0), (1, .int .i64 c), (2, .int .i64 sd), (3, .bool abort), (10, .bool mine), (11, .int .i64 want), (12, .bool lis), (13, .slice kids_b kids_l kids_c), (14, .int .i64 i), (15, .pointer (some ⟨k, 0, none⟩)), (16, .int .i64 e)] w := by kernel_rfl
theorem hostlaw_World_End.B4_sound {R : Bool → World → Prop} {N1 : Option Addr → Int → Int → Bool → Bool → Int → Bool → Option Addr → Nat → Nat → Int → World → Prop} (hN1 : ∀ w0 c sd abort mine want lis kids_b kids_l kids_c i w, N1 w0 c sd abort mine want lis kids_b kids_l kids_c i w → KW Tryz.prog 49 293 (hostlaw_World_End.RV R) ([(0, [1, 1, 1, 1, 1, 1, 0, 1, 0, 0]), (2, [1, 1, 1, 1, 1, 1, 0, 1, 0, 0]), (1, [0]), (0, [1, 1, 1, 1, 1, 1, 1])].map (toItem (Tryz.f49.body.getD .skip))) [(0, .pointer w0), (1, .int .i64 c), (2, .int .i64 sd), (3, .bool abort), (10, .bool mine), (11, .int .i64 want), (12, .bool lis), (13, .slice kids_b kids_l kids_c), (14, .int .i64 i)] w) (w0 : Option Addr) (c sd : Int) (abort mine : Bool) (want : Int) (lis : Bool) (kids_b : Option Addr) (kids_l kids_c : Nat) (i : Int) (k : Nat) (e : Int) (w : World) (h : hostlaw_World_End.B4 w0 c sd abort mine want lis kids_b kids_l kids_c i k e w N1  R) :
    KW Tryz.prog 49 293 (hostlaw_World_End.RV R) ([(0, [1, 1, 1, 1, 1, 1, 0, 1, 0, 0, 1, 0, 0, 1]), (1, [1]), (0, [1, 1, 1, 1, 1, 1, 0, 1, 0, 0, 1, 1]), (2, [1, 1, 1, 1, 1, 1, 0, 1, 0, 0]), (1, [0]), (0, [1, 1, 1, 1, 1, 1, 1])].map (toItem (Tryz.f49.body.getD .skip))) [(0, .pointer w0), (1, .int .i64 c), (2, .int .i64 sd), (3, .bool abort), (10, .bool mine), (11, .int .i64 want), (12, .bool lis), (13, .slice kids_b kids_l kids_c), (14, .int .i64 i), (15, .pointer (some ⟨k, 0, none⟩)), (16, .int .i64 e)] w := by
  exact block_spec Tryz.func49 Tryz.mixed (stops_cons (fun σ w h => by
      obtain ⟨w0_, e0, h⟩ := dP_elim h
      obtain ⟨c_, e1, h⟩ := dI_elim h
      obtain ⟨sd_, e2, h⟩ := dI_elim h
      obtain ⟨abort_, e3, h⟩ := dB_elim h
      obtain ⟨mine_, e4, h⟩ := dB_elim h
      obtain ⟨want_, e5, h⟩ := dI_elim h
      obtain ⟨lis_, e6, h⟩ := dB_elim h
      obtain ⟨kids_b_, kids_l_, kids_c_, e7, h⟩ := dL_elim h
      obtain ⟨i_, e8, h⟩ := dI_elim h
      obtain ⟨t96_, e9, h⟩ := dB_elim h
      exact (hostlaw_World_End.B6_sound hN1 w0_ c_ sd_ abort_ mine_ want_ lis_ kids_b_ kids_l_ kids_c_ i_ t96_ w h).weaken (Sub.cons (Sub.cons (Sub.cons (Sub.cons (Sub.cons (Sub.cons (Sub.cons (Sub.cons (Sub.cons (Sub.cons (Sub.nil _) e9) e8) e7) e6) e5) e4) e3) e2) e1) e0)) stops_nil) (Eq.mp (hostlaw_World_End.B4_eq w0 c sd abort mine want lis kids_b kids_l kids_c i k e w N1  R (fun w0_ c_ sd_ abort_ mine_ want_ lis_ kids_b_ kids_l_ kids_c_ i_ t96_ w => hostlaw_World_End.B6 w0_ c_ sd_ abort_ mine_ want_ lis_ kids_b_ kids_l_ kids_c_ i_ t96_ w N1 R)) h)
def hostlaw_World_End.B16 (w0 : Option Addr) (c : Int) (kids_b : Option Addr) (kids_l kids_c : Nat) (fr_b : Option Addr) (fr_l fr_c : Nat) (i : Int) (t288 : Bool) (w : World) (N2 : Option Addr → Int → Option Addr → Nat → Nat → Option Addr → Nat → Nat → Int → World → Prop)  (R : Bool → World → Prop) : Prop :=
  Bm t288 (
    R false w) (
    N2 w0 c kids_b kids_l kids_c fr_b fr_l fr_c (IntKind.i64.wrap (i + (1 : Int))) w)
theorem hostlaw_World_End.B16_eq (w0 : Option Addr) (c : Int) (kids_b : Option Addr) (kids_l kids_c : Nat) (fr_b : Option Addr) (fr_l fr_c : Nat) (i : Int) (t288 : Bool) (w : World) (N2 : Option Addr → Int → Option Addr → Nat → Nat → Option Addr → Nat → Nat → Int → World → Prop)  (R : Bool → World → Prop)  :
    (
  Bm t288 (
    R false w) (
    N2 w0 c kids_b kids_l kids_c fr_b fr_l fr_c (IntKind.i64.wrap (i + (1 : Int))) w)) = kstep Tryz.prog 293 Tryz.f49.results.toList (Tryz.f49.body.getD .skip) (hostlaw_World_End.RV R) (kvc Tryz.prog 293 Tryz.f49.results.toList (Tryz.f49.body.getD .skip) (hostlaw_World_End.RV R) [([(0, [1, 1, 1, 1, 1, 1, 1, 1, 1, 1, 1, 1, 1, 1, 1, 1, 0, 1, 0, 0]), (2, [1, 1, 1, 1, 1, 1, 1, 1, 1, 1, 1, 1, 1, 1, 1, 1, 0, 1, 0, 0]), (1, [2]), (0, [1, 1, 1, 1, 1, 1, 1, 1, 1, 1, 1, 1, 1, 1, 1, 1, 1])], fun σ w => dP (slotOf σ 0) fun w0_ => dI .i64 (slotOf σ 1) fun c_ => dL (slotOf σ 13) fun kids_b_ kids_l_ kids_c_ => dL (slotOf σ 17) fun fr_b_ fr_l_ fr_c_ => dI .i64 (slotOf σ 26) fun i_ => N2 w0_ c_ kids_b_ kids_l_ kids_c_ fr_b_ fr_l_ fr_c_ i_ w)] 2000) [(0, [1, 1, 1, 1, 1, 1, 1, 1, 1, 1, 1, 1, 1, 1, 1, 1, 0, 1, 0, 0, 1, 0, 0, 1, 1]), (1, [3]), (0, [1, 1, 1, 1, 1, 1, 1, 1, 1, 1, 1, 1, 1, 1, 1, 1, 0, 1, 0, 0, 1, 1]), (2, [1, 1, 1, 1, 1, 1, 1, 1, 1, 1, 1, 1, 1, 1, 1, 1, 0, 1, 0, 0]), (1, [2]), (0, [1, 1, 1, 1, 1, 1, 1, 1, 1, 1, 1, 1, 1, 1, 1, 1, 1])] [(0, .pointer w0), (1, .int .i64 c), (13, .slice kids_b kids_l kids_c), (17, .slice fr_b fr_l fr_c), (26, .int .i64 i), (288, .bool t288)] w := by kernel_rfl
theorem hostlaw_World_End.B16_sound {R : Bool → World → Prop} {N2 : Option Addr → Int → Option Addr → Nat → Nat → Option Addr → Nat → Nat → Int → World → Prop} (hN2 : ∀ w0 c kids_b kids_l kids_c fr_b fr_l fr_c i w, N2 w0 c kids_b kids_l kids_c fr_b fr_l fr_c i w → KW Tryz.prog 49 293 (hostlaw_World_End.RV R) ([(0, [1, 1, 1, 1, 1, 1, 1, 1, 1, 1, 1, 1, 1, 1, 1, 1, 0, 1, 0, 0]), (2, [1, 1, 1, 1, 1, 1, 1, 1, 1, 1, 1, 1, 1, 1, 1, 1, 0, 1, 0, 0]), (1, [2]), (0, [1, 1, 1, 1, 1, 1, 1, 1, 1, 1, 1, 1, 1, 1, 1, 1, 1])].map (toItem (Tryz.f49.body.getD .skip))) [(0, .pointer w0), (1, .int .i64 c), (13, .slice kids_b kids_l kids_c), (17, .slice fr_b fr_l fr_c), (26, .int .i64 i)] w) (w0 : Option Addr) (c : Int) (kids_b : Option Addr) (kids_l kids_c : Nat) (fr_b : Option Addr) (fr_l fr_c : Nat) (i : Int) (t288 : Bool) (w : World) (h : hostlaw_World_End.B16 w0 c kids_b kids_l kids_c fr_b fr_l fr_c i t288 w N2  R) :
    KW Tryz.prog 49 293 (hostlaw_World_End.RV R) ([(0, [1, 1, 1, 1, 1, 1, 1, 1, 1, 1, 1, 1, 1, 1, 1, 1, 0, 1, 0, 0, 1, 0, 0, 1, 1]), (1, [3]), (0, [1, 1, 1, 1, 1, 1, 1, 1, 1, 1, 1, 1, 1, 1, 1, 1, 0, 1, 0, 0, 1, 1]), (2, [1, 1, 1, 1, 1, 1, 1, 1, 1, 1, 1, 1, 1, 1, 1, 1, 0, 1, 0, 0]), (1, [2]), (0, [1, 1, 1, 1, 1, 1, 1, 1, 1, 1, 1, 1, 1, 1, 1, 1, 1])].map (toItem (Tryz.f49.body.getD .skip))) [(0, .pointer w0), (1, .int .i64 c), (13, .slice kids_b kids_l kids_c), (17, .slice fr_b fr_l fr_c), (26, .int .i64 i), (288, .bool t288)] w := by
  exact block_spec Tryz.func49 Tryz.mixed (stops_cons (fun σ w h => by
      obtain ⟨w0_, e0, h⟩ := dP_elim h
      obtain ⟨c_, e1, h⟩ := dI_elim h
      obtain ⟨kids_b_, kids_l_, kids_c_, e2, h⟩ := dL_elim h
      obtain ⟨fr_b_, fr_l_, fr_c_, e3, h⟩ := dL_elim h
      obtain ⟨i_, e4, h⟩ := dI_elim h
      exact (hN2 w0_ c_ kids_b_ kids_l_ kids_c_ fr_b_ fr_l_ fr_c_ i_ w h).weaken (Sub.cons (Sub.cons (Sub.cons (Sub.cons (Sub.cons (Sub.nil _) e4) e3) e2) e1) e0)) stops_nil) (Eq.mp (hostlaw_World_End.B16_eq w0 c kids_b kids_l kids_c fr_b fr_l fr_c i t288 w N2  R ) h)
def hostlaw_World_End.B15 (w0 : Option Addr) (c : Int) (kids_b : Option Addr) (kids_l kids_c : Nat) (fr_b : Option Addr) (fr_l fr_c : Nat) (i : Int) (k : Nat) (e : Int) (w : World) (N2 : Option Addr → Int → Option Addr → Nat → Nat → Option Addr → Nat → Nat → Int → World → Prop)  (R : Bool → World → Prop) : Prop :=
  Bm (e != (0 : Int)) (
    hostlaw_World_End.B16 w0 c kids_b kids_l kids_c fr_b fr_l fr_c i true w N2 R) (
    LdI .i64 ⟨k, 6, none⟩ w fun x270 =>
    Bm (x270 != (0 : Int)) (
      hostlaw_World_End.B16 w0 c kids_b kids_l kids_c fr_b fr_l fr_c i true w N2 R) (
      LdP ⟨k, 8, none⟩ w fun x275 =>
      Pn x275 fun a =>
      LdI .i64 a w fun x278 =>
      Bm (x278 != (4 : Int)) (
        hostlaw_World_End.B16 w0 c kids_b kids_l kids_c fr_b fr_l fr_c i true w N2 R) (
        LdP ⟨k, 8, none⟩ w fun x283 =>
        Pn x283 fun a_1 =>
        LdI .i64 (a_1.add 1) w fun x286 =>
        hostlaw_World_End.B16 w0 c kids_b kids_l kids_c fr_b fr_l fr_c i (x286 == (0 : Int)) w N2 R)))
theorem hostlaw_World_End.B15_eq (w0 : Option Addr) (c : Int) (kids_b : Option Addr) (kids_l kids_c : Nat) (fr_b : Option Addr) (fr_l fr_c : Nat) (i : Int) (k : Nat) (e : Int) (w : World) (N2 : Option Addr → Int → Option Addr → Nat → Nat → Option Addr → Nat → Nat → Int → World → Prop)  (R : Bool → World → Prop) (sB16 : Option Addr → Int → Option Addr → Nat → Nat → Option Addr → Nat → Nat → Int → Bool → World → Prop) :
    (
  Bm (e != (0 : Int)) (
    sB16 w0 c kids_b kids_l kids_c fr_b fr_l fr_c i true w) (
    LdI .i64 ⟨k, 6, none⟩ w fun x270 =>
    Bm (x270 != (0 : Int)) (
      sB16 w0 c kids_b kids_l kids_c fr_b fr_l fr_c i true w) (
      LdP ⟨k, 8, none⟩ w fun x275 =>
      Pn x275 fun a =>
      LdI .i64 a w fun x278 =>
      Bm (x278 != (4 : Int)) (
        sB16 w0 c kids_b kids_l kids_c fr_b fr_l fr_c i true w) (
        LdP ⟨k, 8, none⟩ w fun x283 =>
        Pn x283 fun a_1 =>
        LdI .i64 (a_1.add 1) w fun x286 =>
        sB16 w0 c kids_b kids_l kids_c fr_b fr_l fr_c i (x286 == (0 : Int)) w)))) = kstep Tryz.prog 293 Tryz.f49.results.toList (Tryz.f49.body.getD .skip) (hostlaw_World_End.RV R) (kvc Tryz.prog 293 Tryz.f49.results.toList (Tryz.f49.body.getD .skip) (hostlaw_World_End.RV R) [([(0, [1, 1, 1, 1, 1, 1, 1, 1, 1, 1, 1, 1, 1, 1, 1, 1, 0, 1, 0, 0, 1, 0, 0, 1, 1]), (1, [3]), (0, [1, 1, 1, 1, 1, 1, 1, 1, 1, 1, 1, 1, 1, 1, 1, 1, 0, 1, 0, 0, 1, 1]), (2, [1, 1, 1, 1, 1, 1, 1, 1, 1, 1, 1, 1, 1, 1, 1, 1, 0, 1, 0, 0]), (1, [2]), (0, [1, 1, 1, 1, 1, 1, 1, 1, 1, 1, 1, 1, 1, 1, 1, 1, 1])], fun σ w => dP (slotOf σ 0) fun w0_ => dI .i64 (slotOf σ 1) fun c_ => dL (slotOf σ 13) fun kids_b_ kids_l_ kids_c_ => dL (slotOf σ 17) fun fr_b_ fr_l_ fr_c_ => dI .i64 (slotOf σ 26) fun i_ => dB (slotOf σ 288) fun t288_ => sB16 w0_ c_ kids_b_ kids_l_ kids_c_ fr_b_ fr_l_ fr_c_ i_ t288_ w)] 2000) [(0, [1, 1, 1, 1, 1, 1, 1, 1, 1, 1, 1, 1, 1, 1, 1, 1, 0, 1, 0, 0, 1, 0, 0, 1]), (1, [3]), (0, [1, 1, 1, 1, 1, 1, 1, 1, 1, 1, 1, 1, 1, 1, 1, 1, 0, 1, 0, 0, 1, 1]), (2, [1, 1, 1, 1, 1, 1, 1, 1, 1, 1, 1, 1, 1, 1, 1, 1, 0, 1, 0, 0]), (1, [2]), (0, [1, 1, 1, 1, 1, 1, 1, 1, 1, 1, 1, 1, 1, 1, 1, 1, 1])] [(0, .pointer w0), (1, .int .i64 c), (13, .slice kids_b kids_l kids_c), (17, .slice fr_b fr_l fr_c), (26, .int .i64 i), (27, .pointer (some ⟨k, 0, none⟩)), (28, .int .i64 e)] w := by kernel_rfl
theorem hostlaw_World_End.B15_sound {R : Bool → World → Prop} {N2 : Option Addr → Int → Option Addr → Nat → Nat → Option Addr → Nat → Nat → Int → World → Prop} (hN2 : ∀ w0 c kids_b kids_l kids_c fr_b fr_l fr_c i w, N2 w0 c kids_b kids_l kids_c fr_b fr_l fr_c i w → KW Tryz.prog 49 293 (hostlaw_World_End.RV R) ([(0, [1, 1, 1, 1, 1, 1, 1, 1, 1, 1, 1, 1, 1, 1, 1, 1, 0, 1, 0, 0]), (2, [1, 1, 1, 1, 1, 1, 1, 1, 1, 1, 1, 1, 1, 1, 1, 1, 0, 1, 0, 0]), (1, [2]), (0, [1, 1, 1, 1, 1, 1, 1, 1, 1, 1, 1, 1, 1, 1, 1, 1, 1])].map (toItem (Tryz.f49.body.getD .skip))) [(0, .pointer w0), (1, .int .i64 c), (13, .slice kids_b kids_l kids_c), (17, .slice fr_b fr_l fr_c), (26, .int .i64 i)] w) (w0 : Option Addr) (c : Int) (kids_b : Option Addr) (kids_l kids_c : Nat) (fr_b : Option Addr) (fr_l fr_c : Nat) (i : Int) (k : Nat) (e : Int) (w : World) (h : hostlaw_World_End.B15 w0 c kids_b kids_l kids_c fr_b fr_l fr_c i k e w N2  R) :
    KW Tryz.prog 49 293 (hostlaw_World_End.RV R) ([(0, [1, 1, 1, 1, 1, 1, 1, 1, 1, 1, 1, 1, 1, 1, 1, 1, 0, 1, 0, 0, 1, 0, 0, 1]), (1, [3]), (0, [1, 1, 1, 1, 1, 1, 1, 1, 1, 1, 1, 1, 1, 1, 1, 1, 0, 1, 0, 0, 1, 1]), (2, [1, 1, 1, 1, 1, 1, 1, 1, 1, 1, 1, 1, 1, 1, 1, 1, 0, 1, 0, 0]), (1, [2]), (0, [1, 1, 1, 1, 1, 1, 1, 1, 1, 1, 1, 1, 1, 1, 1, 1, 1])].map (toItem (Tryz.f49.body.getD .skip))) [(0, .pointer w0), (1, .int .i64 c), (13, .slice kids_b kids_l kids_c), (17, .slice fr_b fr_l fr_c), (26, .int .i64 i), (27, .pointer (some ⟨k, 0, none⟩)), (28, .int .i64 e)] w := by
  exact block_spec Tryz.func49 Tryz.mixed (stops_cons (fun σ w h => by
      obtain ⟨w0_, e0, h⟩ := dP_elim h
      obtain ⟨c_, e1, h⟩ := dI_elim h
      obtain ⟨kids_b_, kids_l_, kids_c_, e2, h⟩ := dL_elim h
      obtain ⟨fr_b_, fr_l_, fr_c_, e3, h⟩ := dL_elim h
      obtain ⟨i_, e4, h⟩ := dI_elim h
      obtain ⟨t288_, e5, h⟩ := dB_elim h
      exact (hostlaw_World_End.B16_sound hN2 w0_ c_ kids_b_ kids_l_ kids_c_ fr_b_ fr_l_ fr_c_ i_ t288_ w h).weaken (Sub.cons (Sub.cons (Sub.cons (Sub.cons (Sub.cons (Sub.cons (Sub.nil _) e5) e4) e3) e2) e1) e0)) stops_nil) (Eq.mp (hostlaw_World_End.B15_eq w0 c kids_b kids_l kids_c fr_b fr_l fr_c i k e w N2  R (fun w0_ c_ kids_b_ kids_l_ kids_c_ fr_b_ fr_l_ fr_c_ i_ t288_ w => hostlaw_World_End.B16 w0_ c_ kids_b_ kids_l_ kids_c_ fr_b_ fr_l_ fr_c_ i_ t288_ w N2 R)) h)
def hostlaw_World_End.L2b (w0 : Option Addr) (c : Int) (kids_b : Option Addr) (kids_l kids_c : Nat) (fr_b : Option Addr) (fr_l fr_c : Nat) (i : Int) (w : World)  (N2 : Option Addr → Int → Option Addr → Nat → Nat → Option Addr → Nat → Nat → Int → World → Prop) (R : Bool → World → Prop) : Prop :=
  Bm (decide (i < ((kids_l : Nat) : Int))) (
    Pn w0 fun a =>
    (0 ≤ c ∧ c < ((3 : Nat) : Int)) ∧
    LdP (Addr.add a (c.toNat * 1)) w.drew fun x257 =>
    Pn kids_b fun a_1 =>
    (0 ≤ i ∧ i < ((kids_l : Nat) : Int)) ∧
    LdI .i64 (Addr.add a_1 (i.toNat * 1)) w.drew fun x261 =>
    ((
      host_Host_Info.Call x257 x261 w.drew fun r262_0_0 r262_0_1 r262_0_2 r262_0_3 r262_0_4 r262_0_5 r262_0_6 r262_0_7 r262_0_8 r262_1 w1 =>
      New (.cells #[.int .i64 (0 : Int), .int .i64 (0 : Int), .int .i64 (0 : Int), .int .i64 (0 : Int), .int .i64 (0 : Int), .int .i64 (0 : Int), .int .i64 (0 : Int), .bool false, .pointer none] 69) w1 fun k_ w2 =>
      Sts [.int .i64 r262_0_0, .int .i64 r262_0_1, .int .i64 r262_0_2, .int .i64 r262_0_3, .int .i64 r262_0_4, .int .i64 r262_0_5, .int .i64 r262_0_6, .bool r262_0_7, .pointer r262_0_8] ⟨k_, 0, none⟩ 0 w2 fun w3 =>
      hostlaw_World_End.B15 w0 c kids_b kids_l kids_c fr_b fr_l fr_c i k_ r262_1 w3 N2 R) ∧ (
      New (.cells #[.int .i64 (0 : Int), .int .i64 (0 : Int), .int .i64 (0 : Int), .int .i64 (0 : Int), .int .i64 (0 : Int), .int .i64 (0 : Int), .int .i64 (0 : Int), .bool false, .pointer none] 69) w.drew fun k__1 w4 =>
      w4.cell? (Addr.add a_1 (i.toNat * 1)) = some (.int .i64 x261) ∧
      w4.cell? (Addr.add a (c.toNat * 1)) = some (.pointer x257) ∧
      host_Host_Info.Call x257 x261 w4 fun r262_0_0_1 r262_0_1_1 r262_0_2_1 r262_0_3_1 r262_0_4_1 r262_0_5_1 r262_0_6_1 r262_0_7_1 r262_0_8_1 r262_1_1 w5 =>
      Sts [.int .i64 r262_0_0_1, .int .i64 r262_0_1_1, .int .i64 r262_0_2_1, .int .i64 r262_0_3_1, .int .i64 r262_0_4_1, .int .i64 r262_0_5_1, .int .i64 r262_0_6_1, .bool r262_0_7_1, .pointer r262_0_8_1] ⟨k__1, 0, none⟩ 0 w5 fun w6 =>
      hostlaw_World_End.B15 w0 c kids_b kids_l kids_c fr_b fr_l fr_c i k__1 r262_1_1 w6 N2 R))) (
    hostlaw_World_Put.Call w0 c fr_b fr_l fr_c w fun w7 =>
    R true w7)
theorem hostlaw_World_End.L2b_eq (w0 : Option Addr) (c : Int) (kids_b : Option Addr) (kids_l kids_c : Nat) (fr_b : Option Addr) (fr_l fr_c : Nat) (i : Int) (w : World)  (N2 : Option Addr → Int → Option Addr → Nat → Nat → Option Addr → Nat → Nat → Int → World → Prop) (R : Bool → World → Prop) (sB15 : Option Addr → Int → Option Addr → Nat → Nat → Option Addr → Nat → Nat → Int → Nat → Int → World → Prop) :
    (
  Bm (decide (i < ((kids_l : Nat) : Int))) (
    Pn w0 fun a =>
    (0 ≤ c ∧ c < ((3 : Nat) : Int)) ∧
    LdP (Addr.add a (c.toNat * 1)) w.drew fun x257 =>
    Pn kids_b fun a_1 =>
    (0 ≤ i ∧ i < ((kids_l : Nat) : Int)) ∧
    LdI .i64 (Addr.add a_1 (i.toNat * 1)) w.drew fun x261 =>
    ((
      host_Host_Info.Call x257 x261 w.drew fun r262_0_0 r262_0_1 r262_0_2 r262_0_3 r262_0_4 r262_0_5 r262_0_6 r262_0_7 r262_0_8 r262_1 w1 =>
      New (.cells #[.int .i64 (0 : Int), .int .i64 (0 : Int), .int .i64 (0 : Int), .int .i64 (0 : Int), .int .i64 (0 : Int), .int .i64 (0 : Int), .int .i64 (0 : Int), .bool false, .pointer none] 69) w1 fun k_ w2 =>
      Sts [.int .i64 r262_0_0, .int .i64 r262_0_1, .int .i64 r262_0_2, .int .i64 r262_0_3, .int .i64 r262_0_4, .int .i64 r262_0_5, .int .i64 r262_0_6, .bool r262_0_7, .pointer r262_0_8] ⟨k_, 0, none⟩ 0 w2 fun w3 =>
      sB15 w0 c kids_b kids_l kids_c fr_b fr_l fr_c i k_ r262_1 w3) ∧ (
      New (.cells #[.int .i64 (0 : Int), .int .i64 (0 : Int), .int .i64 (0 : Int), .int .i64 (0 : Int), .int .i64 (0 : Int), .int .i64 (0 : Int), .int .i64 (0 : Int), .bool false, .pointer none] 69) w.drew fun k__1 w4 =>
      w4.cell? (Addr.add a_1 (i.toNat * 1)) = some (.int .i64 x261) ∧
      w4.cell? (Addr.add a (c.toNat * 1)) = some (.pointer x257) ∧
      host_Host_Info.Call x257 x261 w4 fun r262_0_0_1 r262_0_1_1 r262_0_2_1 r262_0_3_1 r262_0_4_1 r262_0_5_1 r262_0_6_1 r262_0_7_1 r262_0_8_1 r262_1_1 w5 =>
      Sts [.int .i64 r262_0_0_1, .int .i64 r262_0_1_1, .int .i64 r262_0_2_1, .int .i64 r262_0_3_1, .int .i64 r262_0_4_1, .int .i64 r262_0_5_1, .int .i64 r262_0_6_1, .bool r262_0_7_1, .pointer r262_0_8_1] ⟨k__1, 0, none⟩ 0 w5 fun w6 =>
      sB15 w0 c kids_b kids_l kids_c fr_b fr_l fr_c i k__1 r262_1_1 w6))) (
    hostlaw_World_Put.Call w0 c fr_b fr_l fr_c w fun w7 =>
    R true w7)) = kstep Tryz.prog 293 Tryz.f49.results.toList (Tryz.f49.body.getD .skip) (hostlaw_World_End.RV R) (kvc Tryz.prog 293 Tryz.f49.results.toList (Tryz.f49.body.getD .skip) (hostlaw_World_End.RV R) [([(0, [1, 1, 1, 1, 1, 1, 1, 1, 1, 1, 1, 1, 1, 1, 1, 1, 0, 1, 0, 0, 1, 0, 0, 1]), (1, [3]), (0, [1, 1, 1, 1, 1, 1, 1, 1, 1, 1, 1, 1, 1, 1, 1, 1, 0, 1, 0, 0, 1, 1]), (2, [1, 1, 1, 1, 1, 1, 1, 1, 1, 1, 1, 1, 1, 1, 1, 1, 0, 1, 0, 0]), (1, [2]), (0, [1, 1, 1, 1, 1, 1, 1, 1, 1, 1, 1, 1, 1, 1, 1, 1, 1])], fun σ w => dP (slotOf σ 0) fun w0_ => dI .i64 (slotOf σ 1) fun c_ => dL (slotOf σ 13) fun kids_b_ kids_l_ kids_c_ => dL (slotOf σ 17) fun fr_b_ fr_l_ fr_c_ => dI .i64 (slotOf σ 26) fun i_ => dK (slotOf σ 27) fun k_ => dI .i64 (slotOf σ 28) fun e_ => sB15 w0_ c_ kids_b_ kids_l_ kids_c_ fr_b_ fr_l_ fr_c_ i_ k_ e_ w)] 2000) [(0, [1, 1, 1, 1, 1, 1, 1, 1, 1, 1, 1, 1, 1, 1, 1, 1, 0, 1, 0, 0]), (2, [1, 1, 1, 1, 1, 1, 1, 1, 1, 1, 1, 1, 1, 1, 1, 1, 0, 1, 0, 0]), (1, [2]), (0, [1, 1, 1, 1, 1, 1, 1, 1, 1, 1, 1, 1, 1, 1, 1, 1, 1])] [(0, .pointer w0), (1, .int .i64 c), (13, .slice kids_b kids_l kids_c), (17, .slice fr_b fr_l fr_c), (26, .int .i64 i)] w := by kernel_rfl
theorem hostlaw_World_End.L2b_sound {R : Bool → World → Prop} {N2 : Option Addr → Int → Option Addr → Nat → Nat → Option Addr → Nat → Nat → Int → World → Prop} (hN2 : ∀ w0 c kids_b kids_l kids_c fr_b fr_l fr_c i w, N2 w0 c kids_b kids_l kids_c fr_b fr_l fr_c i w → KW Tryz.prog 49 293 (hostlaw_World_End.RV R) ([(0, [1, 1, 1, 1, 1, 1, 1, 1, 1, 1, 1, 1, 1, 1, 1, 1, 0, 1, 0, 0]), (2, [1, 1, 1, 1, 1, 1, 1, 1, 1, 1, 1, 1, 1, 1, 1, 1, 0, 1, 0, 0]), (1, [2]), (0, [1, 1, 1, 1, 1, 1, 1, 1, 1, 1, 1, 1, 1, 1, 1, 1, 1])].map (toItem (Tryz.f49.body.getD .skip))) [(0, .pointer w0), (1, .int .i64 c), (13, .slice kids_b kids_l kids_c), (17, .slice fr_b fr_l fr_c), (26, .int .i64 i)] w) (w0 : Option Addr) (c : Int) (kids_b : Option Addr) (kids_l kids_c : Nat) (fr_b : Option Addr) (fr_l fr_c : Nat) (i : Int) (w : World) (h : hostlaw_World_End.L2b w0 c kids_b kids_l kids_c fr_b fr_l fr_c i w  N2 R) :
    KW Tryz.prog 49 293 (hostlaw_World_End.RV R) ([(0, [1, 1, 1, 1, 1, 1, 1, 1, 1, 1, 1, 1, 1, 1, 1, 1, 0, 1, 0, 0]), (2, [1, 1, 1, 1, 1, 1, 1, 1, 1, 1, 1, 1, 1, 1, 1, 1, 0, 1, 0, 0]), (1, [2]), (0, [1, 1, 1, 1, 1, 1, 1, 1, 1, 1, 1, 1, 1, 1, 1, 1, 1])].map (toItem (Tryz.f49.body.getD .skip))) [(0, .pointer w0), (1, .int .i64 c), (13, .slice kids_b kids_l kids_c), (17, .slice fr_b fr_l fr_c), (26, .int .i64 i)] w := by
  exact block_spec Tryz.func49 Tryz.mixed (stops_cons (fun σ w h => by
      obtain ⟨w0_, e0, h⟩ := dP_elim h
      obtain ⟨c_, e1, h⟩ := dI_elim h
      obtain ⟨kids_b_, kids_l_, kids_c_, e2, h⟩ := dL_elim h
      obtain ⟨fr_b_, fr_l_, fr_c_, e3, h⟩ := dL_elim h
      obtain ⟨i_, e4, h⟩ := dI_elim h
      obtain ⟨k_, e5, h⟩ := dK_elim h
      obtain ⟨e_, e6, h⟩ := dI_elim h
      exact (hostlaw_World_End.B15_sound hN2 w0_ c_ kids_b_ kids_l_ kids_c_ fr_b_ fr_l_ fr_c_ i_ k_ e_ w h).weaken (Sub.cons (Sub.cons (Sub.cons (Sub.cons (Sub.cons (Sub.cons (Sub.cons (Sub.nil _) e6) e5) e4) e3) e2) e1) e0)) stops_nil) (Eq.mp (hostlaw_World_End.L2b_eq w0 c kids_b kids_l kids_c fr_b fr_l fr_c i w  N2 R (fun w0_ c_ kids_b_ kids_l_ kids_c_ fr_b_ fr_l_ fr_c_ i_ k_ e_ w => hostlaw_World_End.B15 w0_ c_ kids_b_ kids_l_ kids_c_ fr_b_ fr_l_ fr_c_ i_ k_ e_ w N2 R)) h)
def hostlaw_World_End.L2 (w0 : Option Addr) (c : Int) (kids_b : Option Addr) (kids_l kids_c : Nat) (fr_b : Option Addr) (fr_l fr_c : Nat) (i : Int) (w : World)  (R : Bool → World → Prop) : Prop :=
  ∃ (I : Nat → Option Addr → Int → Option Addr → Nat → Nat → Option Addr → Nat → Nat → Int → World → Prop) (m : Nat), I m w0 c kids_b kids_l kids_c fr_b fr_l fr_c i w ∧ ∀ m w0 c kids_b kids_l kids_c fr_b fr_l fr_c i w, I m w0 c kids_b kids_l kids_c fr_b fr_l fr_c i w → hostlaw_World_End.L2b w0 c kids_b kids_l kids_c fr_b fr_l fr_c i w  (fun w0' c' kids_b' kids_l' kids_c' fr_b' fr_l' fr_c' i' w' => ∃ m', m' < m ∧ I m' w0' c' kids_b' kids_l' kids_c' fr_b' fr_l' fr_c' i' w') R
theorem hostlaw_World_End.L2_sound {R : Bool → World → Prop}  (w0 : Option Addr) (c : Int) (kids_b : Option Addr) (kids_l kids_c : Nat) (fr_b : Option Addr) (fr_l fr_c : Nat) (i : Int) (w : World) (h : hostlaw_World_End.L2 w0 c kids_b kids_l kids_c fr_b fr_l fr_c i w  R) :
    KW Tryz.prog 49 293 (hostlaw_World_End.RV R) ([(0, [1, 1, 1, 1, 1, 1, 1, 1, 1, 1, 1, 1, 1, 1, 1, 1, 0, 1, 0, 0]), (2, [1, 1, 1, 1, 1, 1, 1, 1, 1, 1, 1, 1, 1, 1, 1, 1, 0, 1, 0, 0]), (1, [2]), (0, [1, 1, 1, 1, 1, 1, 1, 1, 1, 1, 1, 1, 1, 1, 1, 1, 1])].map (toItem (Tryz.f49.body.getD .skip))) [(0, .pointer w0), (1, .int .i64 c), (13, .slice kids_b kids_l kids_c), (17, .slice fr_b fr_l fr_c), (26, .int .i64 i)] w := by
  obtain ⟨I, m, hBase, hr⟩ := h
  refine KW.loop (fun m σ w => ∃ (w0 : Option Addr) (c : Int) (kids_b : Option Addr) (kids_l kids_c : Nat) (fr_b : Option Addr) (fr_l fr_c : Nat) (i : Int), σ = [(0, .pointer w0), (1, .int .i64 c), (13, .slice kids_b kids_l kids_c), (17, .slice fr_b fr_l fr_c), (26, .int .i64 i)] ∧ I m w0 c kids_b kids_l kids_c fr_b fr_l fr_c i w) ?_ m _ w ⟨w0, c, kids_b, kids_l, kids_c, fr_b, fr_l, fr_c, i, rfl, hBase⟩
  rintro m ih σ w ⟨w0, c, kids_b, kids_l, kids_c, fr_b, fr_l, fr_c, i, rfl, hI⟩
  exact hostlaw_World_End.L2b_sound  (N2 := fun w0' c' kids_b' kids_l' kids_c' fr_b' fr_l' fr_c' i' w' => ∃ m', m' < m ∧ I m' w0' c' kids_b' kids_l' kids_c' fr_b' fr_l' fr_c' i' w') (fun w0' c' kids_b' kids_l' kids_c' fr_b' fr_l' fr_c' i' w' hx => by obtain ⟨m', hlt, hI'⟩ := hx; exact ih m' hlt _ w' ⟨w0', c', kids_b', kids_l', kids_c', fr_b', fr_l', fr_c', i', rfl, hI'⟩) w0 c kids_b kids_l kids_c fr_b fr_l fr_c i w (hr m w0 c kids_b kids_l kids_c fr_b fr_l fr_c i w hI)
def hostlaw_World_End.B14 (w0 : Option Addr) (c : Int) (kids_b : Option Addr) (kids_l kids_c : Nat) (fr_b : Option Addr) (fr_l fr_c : Nat) (t244 : Bool) (w : World)   (R : Bool → World → Prop) : Prop :=
  Bm t244 (
    R false w) (
    hostlaw_World_End.L2 w0 c kids_b kids_l kids_c fr_b fr_l fr_c (0 : Int) w  R)
theorem hostlaw_World_End.B14_eq (w0 : Option Addr) (c : Int) (kids_b : Option Addr) (kids_l kids_c : Nat) (fr_b : Option Addr) (fr_l fr_c : Nat) (t244 : Bool) (w : World)   (R : Bool → World → Prop) (sL2 : Option Addr → Int → Option Addr → Nat → Nat → Option Addr → Nat → Nat → Int → World → Prop) :
    (
  Bm t244 (
    R false w) (
    sL2 w0 c kids_b kids_l kids_c fr_b fr_l fr_c (0 : Int) w)) = kstep Tryz.prog 293 Tryz.f49.results.toList (Tryz.f49.body.getD .skip) (hostlaw_World_End.RV R) (kvc Tryz.prog 293 Tryz.f49.results.toList (Tryz.f49.body.getD .skip) (hostlaw_World_End.RV R) [([(0, [1, 1, 1, 1, 1, 1, 1, 1, 1, 1, 1, 1, 1, 1, 1, 1, 0, 1, 0, 0]), (2, [1, 1, 1, 1, 1, 1, 1, 1, 1, 1, 1, 1, 1, 1, 1, 1, 0, 1, 0, 0]), (1, [2]), (0, [1, 1, 1, 1, 1, 1, 1, 1, 1, 1, 1, 1, 1, 1, 1, 1, 1])], fun σ w => dP (slotOf σ 0) fun w0_ => dI .i64 (slotOf σ 1) fun c_ => dL (slotOf σ 13) fun kids_b_ kids_l_ kids_c_ => dL (slotOf σ 17) fun fr_b_ fr_l_ fr_c_ => dI .i64 (slotOf σ 26) fun i_ => sL2 w0_ c_ kids_b_ kids_l_ kids_c_ fr_b_ fr_l_ fr_c_ i_ w)] 2000) [(0, [1, 1, 1, 1, 1, 1, 1, 1, 1, 1, 1, 1, 1, 1, 1, 0, 1, 0, 1, 1]), (0, [1, 1, 1, 1, 1, 1, 1, 1, 1, 1, 1, 1, 1, 1, 1, 1])] [(0, .pointer w0), (1, .int .i64 c), (13, .slice kids_b kids_l kids_c), (17, .slice fr_b fr_l fr_c), (244, .bool t244)] w := by kernel_rfl
theorem hostlaw_World_End.B14_sound {R : Bool → World → Prop}  (w0 : Option Addr) (c : Int) (kids_b : Option Addr) (kids_l kids_c : Nat) (fr_b : Option Addr) (fr_l fr_c : Nat) (t244 : Bool) (w : World) (h : hostlaw_World_End.B14 w0 c kids_b kids_l kids_c fr_b fr_l fr_c t244 w   R) :
    KW Tryz.prog 49 293 (hostlaw_World_End.RV R) ([(0, [1, 1, 1, 1, 1, 1, 1, 1, 1, 1, 1, 1, 1, 1, 1, 0, 1, 0, 1, 1]), (0, [1, 1, 1, 1, 1, 1, 1, 1, 1, 1, 1, 1, 1, 1, 1, 1])].map (toItem (Tryz.f49.body.getD .skip))) [(0, .pointer w0), (1, .int .i64 c), (13, .slice kids_b kids_l kids_c), (17, .slice fr_b fr_l fr_c), (244, .bool t244)] w := by
  exact block_spec Tryz.func49 Tryz.mixed (stops_cons (fun σ w h => by
      obtain ⟨w0_, e0, h⟩ := dP_elim h
      obtain ⟨c_, e1, h⟩ := dI_elim h
      obtain ⟨kids_b_, kids_l_, kids_c_, e2, h⟩ := dL_elim h
      obtain ⟨fr_b_, fr_l_, fr_c_, e3, h⟩ := dL_elim h
      obtain ⟨i_, e4, h⟩ := dI_elim h
      exact (hostlaw_World_End.L2_sound  w0_ c_ kids_b_ kids_l_ kids_c_ fr_b_ fr_l_ fr_c_ i_ w h).weaken (Sub.cons (Sub.cons (Sub.cons (Sub.cons (Sub.cons (Sub.nil _) e4) e3) e2) e1) e0)) stops_nil) (Eq.mp (hostlaw_World_End.B14_eq w0 c kids_b kids_l kids_c fr_b fr_l fr_c t244 w   R (fun w0_ c_ kids_b_ kids_l_ kids_c_ fr_b_ fr_l_ fr_c_ i_ w => hostlaw_World_End.L2 w0_ c_ kids_b_ kids_l_ kids_c_ fr_b_ fr_l_ fr_c_ i_ w  R)) h)
def hostlaw_World_End.B13 (w0 : Option Addr) (c sd : Int) (kids_b : Option Addr) (kids_l kids_c : Nat) (fr_b : Option Addr) (fr_l fr_c : Nat) (t215 : Bool) (w : World)   (R : Bool → World → Prop) : Prop :=
  Bm t215 (
    Pn w0 fun a =>
    (0 ≤ c ∧ c < ((3 : Nat) : Int)) ∧
    LdP (Addr.add a (c.toNat * 1)) w fun x222 =>
    host_Host_Info.Call x222 sd w fun r224_0_0 r224_0_1 r224_0_2 r224_0_3 r224_0_4 r224_0_5 r224_0_6 r224_0_7 r224_0_8 r224_1 w1 =>
    New (.cells #[.int .i64 (0 : Int), .int .i64 (0 : Int), .int .i64 (0 : Int), .int .i64 (0 : Int), .int .i64 (0 : Int), .int .i64 (0 : Int), .int .i64 (0 : Int), .bool false, .pointer none] 69) w1 fun k_ w2 =>
    Sts [.int .i64 r224_0_0, .int .i64 r224_0_1, .int .i64 r224_0_2, .int .i64 r224_0_3, .int .i64 r224_0_4, .int .i64 r224_0_5, .int .i64 r224_0_6, .bool r224_0_7, .pointer r224_0_8] ⟨k_, 0, none⟩ 0 w2 fun w3 =>
    Bm (r224_1 != (0 : Int)) (
      hostlaw_World_End.B14 w0 c kids_b kids_l kids_c fr_b fr_l fr_c true w3  R) (
      LdP ⟨k_, 8, none⟩ w3 fun x231 =>
      Pn x231 fun a_1 =>
      LdI .i64 a_1 w3 fun x234 =>
      Bm (x234 != (4 : Int)) (
        hostlaw_World_End.B14 w0 c kids_b kids_l kids_c fr_b fr_l fr_c true w3  R) (
        LdP ⟨k_, 8, none⟩ w3 fun x239 =>
        Pn x239 fun a_2 =>
        LdI .i64 (a_2.add 1) w3 fun x242 =>
        hostlaw_World_End.B14 w0 c kids_b kids_l kids_c fr_b fr_l fr_c (x242 == (0 : Int)) w3  R))) (
    hostlaw_World_End.L2 w0 c kids_b kids_l kids_c fr_b fr_l fr_c (0 : Int) w  R)
theorem hostlaw_World_End.B13_eq (w0 : Option Addr) (c sd : Int) (kids_b : Option Addr) (kids_l kids_c : Nat) (fr_b : Option Addr) (fr_l fr_c : Nat) (t215 : Bool) (w : World)   (R : Bool → World → Prop) (sB14 : Option Addr → Int → Option Addr → Nat → Nat → Option Addr → Nat → Nat → Bool → World → Prop) (sL2 : Option Addr → Int → Option Addr → Nat → Nat → Option Addr → Nat → Nat → Int → World → Prop) :
    (
  Bm t215 (
    Pn w0 fun a =>
    (0 ≤ c ∧ c < ((3 : Nat) : Int)) ∧
    LdP (Addr.add a (c.toNat * 1)) w fun x222 =>
    host_Host_Info.Call x222 sd w fun r224_0_0 r224_0_1 r224_0_2 r224_0_3 r224_0_4 r224_0_5 r224_0_6 r224_0_7 r224_0_8 r224_1 w1 =>
    New (.cells #[.int .i64 (0 : Int), .int .i64 (0 : Int), .int .i64 (0 : Int), .int .i64 (0 : Int), .int .i64 (0 : Int), .int .i64 (0 : Int), .int .i64 (0 : Int), .bool false, .pointer none] 69) w1 fun k_ w2 =>
    Sts [.int .i64 r224_0_0, .int .i64 r224_0_1, .int .i64 r224_0_2, .int .i64 r224_0_3, .int .i64 r224_0_4, .int .i64 r224_0_5, .int .i64 r224_0_6, .bool r224_0_7, .pointer r224_0_8] ⟨k_, 0, none⟩ 0 w2 fun w3 =>
    Bm (r224_1 != (0 : Int)) (
      sB14 w0 c kids_b kids_l kids_c fr_b fr_l fr_c true w3) (
      LdP ⟨k_, 8, none⟩ w3 fun x231 =>
      Pn x231 fun a_1 =>
      LdI .i64 a_1 w3 fun x234 =>
      Bm (x234 != (4 : Int)) (
        sB14 w0 c kids_b kids_l kids_c fr_b fr_l fr_c true w3) (
        LdP ⟨k_, 8, none⟩ w3 fun x239 =>
        Pn x239 fun a_2 =>
        LdI .i64 (a_2.add 1) w3 fun x242 =>
        sB14 w0 c kids_b kids_l kids_c fr_b fr_l fr_c (x242 == (0 : Int)) w3))) (
    sL2 w0 c kids_b kids_l kids_c fr_b fr_l fr_c (0 : Int) w)) = kstep Tryz.prog 293 Tryz.f49.results.toList (Tryz.f49.body.getD .skip) (hostlaw_World_End.RV R) (kvc Tryz.prog 293 Tryz.f49.results.toList (Tryz.f49.body.getD .skip) (hostlaw_World_End.RV R) [([(0, [1, 1, 1, 1, 1, 1, 1, 1, 1, 1, 1, 1, 1, 1, 1, 0, 1, 0, 1, 1]), (0, [1, 1, 1, 1, 1, 1, 1, 1, 1, 1, 1, 1, 1, 1, 1, 1])], fun σ w => dP (slotOf σ 0) fun w0_ => dI .i64 (slotOf σ 1) fun c_ => dL (slotOf σ 13) fun kids_b_ kids_l_ kids_c_ => dL (slotOf σ 17) fun fr_b_ fr_l_ fr_c_ => dB (slotOf σ 244) fun t244_ => sB14 w0_ c_ kids_b_ kids_l_ kids_c_ fr_b_ fr_l_ fr_c_ t244_ w),
    ([(0, [1, 1, 1, 1, 1, 1, 1, 1, 1, 1, 1, 1, 1, 1, 1, 1, 0, 1, 0, 0]), (2, [1, 1, 1, 1, 1, 1, 1, 1, 1, 1, 1, 1, 1, 1, 1, 1, 0, 1, 0, 0]), (1, [2]), (0, [1, 1, 1, 1, 1, 1, 1, 1, 1, 1, 1, 1, 1, 1, 1, 1, 1])], fun σ w => dP (slotOf σ 0) fun w0_ => dI .i64 (slotOf σ 1) fun c_ => dL (slotOf σ 13) fun kids_b_ kids_l_ kids_c_ => dL (slotOf σ 17) fun fr_b_ fr_l_ fr_c_ => dI .i64 (slotOf σ 26) fun i_ => sL2 w0_ c_ kids_b_ kids_l_ kids_c_ fr_b_ fr_l_ fr_c_ i_ w)] 2000) [(0, [1, 1, 1, 1, 1, 1, 1, 1, 1, 1, 1, 1, 1, 1, 1, 0, 1]), (0, [1, 1, 1, 1, 1, 1, 1, 1, 1, 1, 1, 1, 1, 1, 1, 1])] [(0, .pointer w0), (1, .int .i64 c), (2, .int .i64 sd), (13, .slice kids_b kids_l kids_c), (17, .slice fr_b fr_l fr_c), (215, .bool t215)] w := by kernel_rfl
theorem hostlaw_World_End.B13_sound {R : Bool → World → Prop}  (w0 : Option Addr) (c sd : Int) (kids_b : Option Addr) (kids_l kids_c : Nat) (fr_b : Option Addr) (fr_l fr_c : Nat) (t215 : Bool) (w : World) (h : hostlaw_World_End.B13 w0 c sd kids_b kids_l kids_c fr_b fr_l fr_c t215 w   R) :
    KW Tryz.prog 49 293 (hostlaw_World_End.RV R) ([(0, [1, 1, 1, 1, 1, 1, 1, 1, 1, 1, 1, 1, 1, 1, 1, 0, 1]), (0, [1, 1, 1, 1, 1, 1, 1, 1, 1, 1, 1, 1, 1, 1, 1, 1])].map (toItem (Tryz.f49.body.getD .skip))) [(0, .pointer w0), (1, .int .i64 c), (2, .int .i64 sd), (13, .slice kids_b kids_l kids_c), (17, .slice fr_b fr_l fr_c), (215, .bool t215)] w := by
  exact block_spec Tryz.func49 Tryz.mixed (stops_cons (fun σ w h => by
      obtain ⟨w0_, e0, h⟩ := dP_elim h
      obtain ⟨c_, e1, h⟩ := dI_elim h
      obtain ⟨kids_b_, kids_l_, kids_c_, e2, h⟩ := dL_elim h
      obtain ⟨fr_b_, fr_l_, fr_c_, e3, h⟩ := dL_elim h
      obtain ⟨t244_, e4, h⟩ := dB_elim h
      exact (hostlaw_World_End.B14_sound  w0_ c_ kids_b_ kids_l_ kids_c_ fr_b_ fr_l_ fr_c_ t244_ w h).weaken (Sub.cons (Sub.cons (Sub.cons (Sub.cons (Sub.cons (Sub.nil _) e4) e3) e2) e1) e0)) (stops_cons (fun σ w h => by
      obtain ⟨w0_, e0, h⟩ := dP_elim h
      obtain ⟨c_, e1, h⟩ := dI_elim h
      obtain ⟨kids_b_, kids_l_, kids_c_, e2, h⟩ := dL_elim h
      obtain ⟨fr_b_, fr_l_, fr_c_, e3, h⟩ := dL_elim h
      obtain ⟨i_, e4, h⟩ := dI_elim h
      exact (hostlaw_World_End.L2_sound  w0_ c_ kids_b_ kids_l_ kids_c_ fr_b_ fr_l_ fr_c_ i_ w h).weaken (Sub.cons (Sub.cons (Sub.cons (Sub.cons (Sub.cons (Sub.nil _) e4) e3) e2) e1) e0)) stops_nil)) (Eq.mp (hostlaw_World_End.B13_eq w0 c sd kids_b kids_l kids_c fr_b fr_l fr_c t215 w   R (fun w0_ c_ kids_b_ kids_l_ kids_c_ fr_b_ fr_l_ fr_c_ t244_ w => hostlaw_World_End.B14 w0_ c_ kids_b_ kids_l_ kids_c_ fr_b_ fr_l_ fr_c_ t244_ w  R) (fun w0_ c_ kids_b_ kids_l_ kids_c_ fr_b_ fr_l_ fr_c_ i_ w => hostlaw_World_End.L2 w0_ c_ kids_b_ kids_l_ kids_c_ fr_b_ fr_l_ fr_c_ i_ w  R)) h)
def hostlaw_World_End.B12 (w0 : Option Addr) (c sd : Int) (abort mine : Bool) (kids_b : Option Addr) (kids_l kids_c : Nat) (fr_b : Option Addr) (fr_l fr_c : Nat) (w : World)   (R : Bool → World → Prop) : Prop :=
  Bm mine (
    hostlaw_World_End.B13 w0 c sd kids_b kids_l kids_c fr_b fr_l fr_c abort w  R) (
    hostlaw_World_End.B13 w0 c sd kids_b kids_l kids_c fr_b fr_l fr_c false w  R)
theorem hostlaw_World_End.B12_eq (w0 : Option Addr) (c sd : Int) (abort mine : Bool) (kids_b : Option Addr) (kids_l kids_c : Nat) (fr_b : Option Addr) (fr_l fr_c : Nat) (w : World)   (R : Bool → World → Prop) (sB13 : Option Addr → Int → Int → Option Addr → Nat → Nat → Option Addr → Nat → Nat → Bool → World → Prop) :
    (
  Bm mine (
    sB13 w0 c sd kids_b kids_l kids_c fr_b fr_l fr_c abort w) (
    sB13 w0 c sd kids_b kids_l kids_c fr_b fr_l fr_c false w)) = kstep Tryz.prog 293 Tryz.f49.results.toList (Tryz.f49.body.getD .skip) (hostlaw_World_End.RV R) (kvc Tryz.prog 293 Tryz.f49.results.toList (Tryz.f49.body.getD .skip) (hostlaw_World_End.RV R) [([(0, [1, 1, 1, 1, 1, 1, 1, 1, 1, 1, 1, 1, 1, 1, 1, 0, 1]), (0, [1, 1, 1, 1, 1, 1, 1, 1, 1, 1, 1, 1, 1, 1, 1, 1])], fun σ w => dP (slotOf σ 0) fun w0_ => dI .i64 (slotOf σ 1) fun c_ => dI .i64 (slotOf σ 2) fun sd_ => dL (slotOf σ 13) fun kids_b_ kids_l_ kids_c_ => dL (slotOf σ 17) fun fr_b_ fr_l_ fr_c_ => dB (slotOf σ 215) fun t215_ => sB13 w0_ c_ sd_ kids_b_ kids_l_ kids_c_ fr_b_ fr_l_ fr_c_ t215_ w)] 2000) [(0, [1, 1, 1, 1, 1, 1, 1, 1, 1, 1, 1, 1, 1, 1, 1])] [(0, .pointer w0), (1, .int .i64 c), (2, .int .i64 sd), (3, .bool abort), (10, .bool mine), (13, .slice kids_b kids_l kids_c), (17, .slice fr_b fr_l fr_c)] w := by kernel_rfl
theorem hostlaw_World_End.B12_sound {R : Bool → World → Prop}  (w0 : Option Addr) (c sd : Int) (abort mine : Bool) (kids_b : Option Addr) (kids_l kids_c : Nat) (fr_b : Option Addr) (fr_l fr_c : Nat) (w : World) (h : hostlaw_World_End.B12 w0 c sd abort mine kids_b kids_l kids_c fr_b fr_l fr_c w   R) :
    KW Tryz.prog 49 293 (hostlaw_World_End.RV R) ([(0, [1, 1, 1, 1, 1, 1, 1, 1, 1, 1, 1, 1, 1, 1, 1])].map (toItem (Tryz.f49.body.getD .skip))) [(0, .pointer w0), (1, .int .i64 c), (2, .int .i64 sd), (3, .bool abort), (10, .bool mine), (13, .slice kids_b kids_l kids_c), (17, .slice fr_b fr_l fr_c)] w := by
  exact block_spec Tryz.func49 Tryz.mixed (stops_cons (fun σ w h => by
      obtain ⟨w0_, e0, h⟩ := dP_elim h
      obtain ⟨c_, e1, h⟩ := dI_elim h
      obtain ⟨sd_, e2, h⟩ := dI_elim h
      obtain ⟨kids_b_, kids_l_, kids_c_, e3, h⟩ := dL_elim h
      obtain ⟨fr_b_, fr_l_, fr_c_, e4, h⟩ := dL_elim h
      obtain ⟨t215_, e5, h⟩ := dB_elim h
      exact (hostlaw_World_End.B13_sound  w0_ c_ sd_ kids_b_ kids_l_ kids_c_ fr_b_ fr_l_ fr_c_ t215_ w h).weaken (Sub.cons (Sub.cons (Sub.cons (Sub.cons (Sub.cons (Sub.cons (Sub.nil _) e5) e4) e3) e2) e1) e0)) stops_nil) (Eq.mp (hostlaw_World_End.B12_eq w0 c sd abort mine kids_b kids_l kids_c fr_b fr_l fr_c w   R (fun w0_ c_ sd_ kids_b_ kids_l_ kids_c_ fr_b_ fr_l_ fr_c_ t215_ w => hostlaw_World_End.B13 w0_ c_ sd_ kids_b_ kids_l_ kids_c_ fr_b_ fr_l_ fr_c_ t215_ w  R)) h)
def hostlaw_World_End.B11 (w0 : Option Addr) (c sd : Int) (abort mine lis : Bool) (kids_b : Option Addr) (kids_l kids_c : Nat) (fr_b : Option Addr) (fr_l fr_c : Nat) (w : World)   (R : Bool → World → Prop) : Prop :=
  Bm lis (
    Pn w0 fun a =>
    (0 ≤ c ∧ c < ((3 : Nat) : Int)) ∧
    LdP (Addr.add a (c.toNat * 1)) w fun x205 =>
    host_Host_Info.Call x205 sd w fun r207_0_0 r207_0_1 r207_0_2 r207_0_3 r207_0_4 r207_0_5 r207_0_6 r207_0_7 r207_0_8 r207_1 w1 =>
    New (.cells #[.int .i64 (0 : Int), .int .i64 (0 : Int), .int .i64 (0 : Int), .int .i64 (0 : Int), .int .i64 (0 : Int), .int .i64 (0 : Int), .int .i64 (0 : Int), .bool false, .pointer none] 69) w1 fun v__ w2 =>
    Sts [.int .i64 r207_0_0, .int .i64 r207_0_1, .int .i64 r207_0_2, .int .i64 r207_0_3, .int .i64 r207_0_4, .int .i64 r207_0_5, .int .i64 r207_0_6, .bool r207_0_7, .pointer r207_0_8] ⟨v__, 0, none⟩ 0 w2 fun w3 =>
    Bm (r207_1 != (21 : Int)) (
      R false w3) (
      hostlaw_World_End.B12 w0 c sd abort mine kids_b kids_l kids_c fr_b fr_l fr_c w3  R)) (
    hostlaw_World_End.B12 w0 c sd abort mine kids_b kids_l kids_c fr_b fr_l fr_c w  R)
theorem hostlaw_World_End.B11_eq (w0 : Option Addr) (c sd : Int) (abort mine lis : Bool) (kids_b : Option Addr) (kids_l kids_c : Nat) (fr_b : Option Addr) (fr_l fr_c : Nat) (w : World)   (R : Bool → World → Prop) (sB12 : Option Addr → Int → Int → Bool → Bool → Option Addr → Nat → Nat → Option Addr → Nat → Nat → World → Prop) :
    (
  Bm lis (
    Pn w0 fun a =>
    (0 ≤ c ∧ c < ((3 : Nat) : Int)) ∧
    LdP (Addr.add a (c.toNat * 1)) w fun x205 =>
    host_Host_Info.Call x205 sd w fun r207_0_0 r207_0_1 r207_0_2 r207_0_3 r207_0_4 r207_0_5 r207_0_6 r207_0_7 r207_0_8 r207_1 w1 =>
    New (.cells #[.int .i64 (0 : Int), .int .i64 (0 : Int), .int .i64 (0 : Int), .int .i64 (0 : Int), .int .i64 (0 : Int), .int .i64 (0 : Int), .int .i64 (0 : Int), .bool false, .pointer none] 69) w1 fun v__ w2 =>
    Sts [.int .i64 r207_0_0, .int .i64 r207_0_1, .int .i64 r207_0_2, .int .i64 r207_0_3, .int .i64 r207_0_4, .int .i64 r207_0_5, .int .i64 r207_0_6, .bool r207_0_7, .pointer r207_0_8] ⟨v__, 0, none⟩ 0 w2 fun w3 =>
    Bm (r207_1 != (21 : Int)) (
      R false w3) (
      sB12 w0 c sd abort mine kids_b kids_l kids_c fr_b fr_l fr_c w3)) (
    sB12 w0 c sd abort mine kids_b kids_l kids_c fr_b fr_l fr_c w)) = kstep Tryz.prog 293 Tryz.f49.results.toList (Tryz.f49.body.getD .skip) (hostlaw_World_End.RV R) (kvc Tryz.prog 293 Tryz.f49.results.toList (Tryz.f49.body.getD .skip) (hostlaw_World_End.RV R) [([(0, [1, 1, 1, 1, 1, 1, 1, 1, 1, 1, 1, 1, 1, 1, 1])], fun σ w => dP (slotOf σ 0) fun w0_ => dI .i64 (slotOf σ 1) fun c_ => dI .i64 (slotOf σ 2) fun sd_ => dB (slotOf σ 3) fun abort_ => dB (slotOf σ 10) fun mine_ => dL (slotOf σ 13) fun kids_b_ kids_l_ kids_c_ => dL (slotOf σ 17) fun fr_b_ fr_l_ fr_c_ => sB12 w0_ c_ sd_ abort_ mine_ kids_b_ kids_l_ kids_c_ fr_b_ fr_l_ fr_c_ w)] 2000) [(0, [1, 1, 1, 1, 1, 1, 1, 1, 1, 1, 1, 1, 1, 1])] [(0, .pointer w0), (1, .int .i64 c), (2, .int .i64 sd), (3, .bool abort), (10, .bool mine), (12, .bool lis), (13, .slice kids_b kids_l kids_c), (17, .slice fr_b fr_l fr_c)] w := by kernel_rfl
theorem hostlaw_World_End.B11_sound {R : Bool → World → Prop}  (w0 : Option Addr) (c sd : Int) (abort mine lis : Bool) (kids_b : Option Addr) (kids_l kids_c : Nat) (fr_b : Option Addr) (fr_l fr_c : Nat) (w : World) (h : hostlaw_World_End.B11 w0 c sd abort mine lis kids_b kids_l kids_c fr_b fr_l fr_c w   R) :
    KW Tryz.prog 49 293 (hostlaw_World_End.RV R) ([(0, [1, 1, 1, 1, 1, 1, 1, 1, 1, 1, 1, 1, 1, 1])].map (toItem (Tryz.f49.body.getD .skip))) [(0, .pointer w0), (1, .int .i64 c), (2, .int .i64 sd), (3, .bool abort), (10, .bool mine), (12, .bool lis), (13, .slice kids_b kids_l kids_c), (17, .slice fr_b fr_l fr_c)] w := by
  exact block_spec Tryz.func49 Tryz.mixed (stops_cons (fun σ w h => by
      obtain ⟨w0_, e0, h⟩ := dP_elim h
      obtain ⟨c_, e1, h⟩ := dI_elim h
      obtain ⟨sd_, e2, h⟩ := dI_elim h
      obtain ⟨abort_, e3, h⟩ := dB_elim h
      obtain ⟨mine_, e4, h⟩ := dB_elim h
      obtain ⟨kids_b_, kids_l_, kids_c_, e5, h⟩ := dL_elim h
      obtain ⟨fr_b_, fr_l_, fr_c_, e6, h⟩ := dL_elim h
      exact (hostlaw_World_End.B12_sound  w0_ c_ sd_ abort_ mine_ kids_b_ kids_l_ kids_c_ fr_b_ fr_l_ fr_c_ w h).weaken (Sub.cons (Sub.cons (Sub.cons (Sub.cons (Sub.cons (Sub.cons (Sub.cons (Sub.nil _) e6) e5) e4) e3) e2) e1) e0)) stops_nil) (Eq.mp (hostlaw_World_End.B11_eq w0 c sd abort mine lis kids_b kids_l kids_c fr_b fr_l fr_c w   R (fun w0_ c_ sd_ abort_ mine_ kids_b_ kids_l_ kids_c_ fr_b_ fr_l_ fr_c_ w => hostlaw_World_End.B12 w0_ c_ sd_ abort_ mine_ kids_b_ kids_l_ kids_c_ fr_b_ fr_l_ fr_c_ w  R)) h)
def hostlaw_World_End.B8 (w0 : Option Addr) (c sd : Int) (abort mine lis : Bool) (kids_b : Option Addr) (kids_l kids_c : Nat) (fr_b : Option Addr) (fr_l fr_c : Nat) (t183 : Bool) (w : World)   (R : Bool → World → Prop) : Prop :=
  Bm t183 (
    Pn w0 fun a =>
    LdP (a.add 30) w fun x187 =>
    hostm_Net_Find.Call x187 c sd w fun r190 w1 =>
    Pn w0 fun a_1 =>
    LdP (a_1.add 30) w1 fun x194 =>
    hostm_Net_ClosedBy.Call x194 r190 w1 fun r196 w2 =>
    Bm (!r196) (
      R false w2) (
      hostlaw_World_End.B11 w0 c sd abort mine lis kids_b kids_l kids_c fr_b fr_l fr_c w2  R)) (
    hostlaw_World_End.B11 w0 c sd abort mine lis kids_b kids_l kids_c fr_b fr_l fr_c w  R)
theorem hostlaw_World_End.B8_eq (w0 : Option Addr) (c sd : Int) (abort mine lis : Bool) (kids_b : Option Addr) (kids_l kids_c : Nat) (fr_b : Option Addr) (fr_l fr_c : Nat) (t183 : Bool) (w : World)   (R : Bool → World → Prop) (sB11 : Option Addr → Int → Int → Bool → Bool → Bool → Option Addr → Nat → Nat → Option Addr → Nat → Nat → World → Prop) :
    (
  Bm t183 (
    Pn w0 fun a =>
    LdP (a.add 30) w fun x187 =>
    hostm_Net_Find.Call x187 c sd w fun r190 w1 =>
    Pn w0 fun a_1 =>
    LdP (a_1.add 30) w1 fun x194 =>
    hostm_Net_ClosedBy.Call x194 r190 w1 fun r196 w2 =>
    Bm (!r196) (
      R false w2) (
      sB11 w0 c sd abort mine lis kids_b kids_l kids_c fr_b fr_l fr_c w2)) (
    sB11 w0 c sd abort mine lis kids_b kids_l kids_c fr_b fr_l fr_c w)) = kstep Tryz.prog 293 Tryz.f49.results.toList (Tryz.f49.body.getD .skip) (hostlaw_World_End.RV R) (kvc Tryz.prog 293 Tryz.f49.results.toList (Tryz.f49.body.getD .skip) (hostlaw_World_End.RV R) [([(0, [1, 1, 1, 1, 1, 1, 1, 1, 1, 1, 1, 1, 1, 1])], fun σ w => dP (slotOf σ 0) fun w0_ => dI .i64 (slotOf σ 1) fun c_ => dI .i64 (slotOf σ 2) fun sd_ => dB (slotOf σ 3) fun abort_ => dB (slotOf σ 10) fun mine_ => dB (slotOf σ 12) fun lis_ => dL (slotOf σ 13) fun kids_b_ kids_l_ kids_c_ => dL (slotOf σ 17) fun fr_b_ fr_l_ fr_c_ => sB11 w0_ c_ sd_ abort_ mine_ lis_ kids_b_ kids_l_ kids_c_ fr_b_ fr_l_ fr_c_ w)] 2000) [(0, [1, 1, 1, 1, 1, 1, 1, 1, 1, 1, 1, 1, 1, 0, 1]), (0, [1, 1, 1, 1, 1, 1, 1, 1, 1, 1, 1, 1, 1, 1])] [(0, .pointer w0), (1, .int .i64 c), (2, .int .i64 sd), (3, .bool abort), (10, .bool mine), (12, .bool lis), (13, .slice kids_b kids_l kids_c), (17, .slice fr_b fr_l fr_c), (183, .bool t183)] w := by kernel_rfl
theorem hostlaw_World_End.B8_sound {R : Bool → World → Prop}  (w0 : Option Addr) (c sd : Int) (abort mine lis : Bool) (kids_b : Option Addr) (kids_l kids_c : Nat) (fr_b : Option Addr) (fr_l fr_c : Nat) (t183 : Bool) (w : World) (h : hostlaw_World_End.B8 w0 c sd abort mine lis kids_b kids_l kids_c fr_b fr_l fr_c t183 w   R) :
    KW Tryz.prog 49 293 (hostlaw_World_End.RV R) ([(0, [1, 1, 1, 1, 1, 1, 1, 1, 1, 1, 1, 1, 1, 0, 1]), (0, [1, 1, 1, 1, 1, 1, 1, 1, 1, 1, 1, 1, 1, 1])].map (toItem (Tryz.f49.body.getD .skip))) [(0, .pointer w0), (1, .int .i64 c), (2, .int .i64 sd), (3, .bool abort), (10, .bool mine), (12, .bool lis), (13, .slice kids_b kids_l kids_c), (17, .slice fr_b fr_l fr_c), (183, .bool t183)] w := by
  exact block_spec Tryz.func49 Tryz.mixed (stops_cons (fun σ w h => by
      obtain ⟨w0_, e0, h⟩ := dP_elim h
      obtain ⟨c_, e1, h⟩ := dI_elim h
      obtain ⟨sd_, e2, h⟩ := dI_elim h
      obtain ⟨abort_, e3, h⟩ := dB_elim h
      obtain ⟨mine_, e4, h⟩ := dB_elim h
      obtain ⟨lis_, e5, h⟩ := dB_elim h
      obtain ⟨kids_b_, kids_l_, kids_c_, e6, h⟩ := dL_elim h
      obtain ⟨fr_b_, fr_l_, fr_c_, e7, h⟩ := dL_elim h
      exact (hostlaw_World_End.B11_sound  w0_ c_ sd_ abort_ mine_ lis_ kids_b_ kids_l_ kids_c_ fr_b_ fr_l_ fr_c_ w h).weaken (Sub.cons (Sub.cons (Sub.cons (Sub.cons (Sub.cons (Sub.cons (Sub.cons (Sub.cons (Sub.nil _) e7) e6) e5) e4) e3) e2) e1) e0)) stops_nil) (Eq.mp (hostlaw_World_End.B8_eq w0 c sd abort mine lis kids_b kids_l kids_c fr_b fr_l fr_c t183 w   R (fun w0_ c_ sd_ abort_ mine_ lis_ kids_b_ kids_l_ kids_c_ fr_b_ fr_l_ fr_c_ w => hostlaw_World_End.B11 w0_ c_ sd_ abort_ mine_ lis_ kids_b_ kids_l_ kids_c_ fr_b_ fr_l_ fr_c_ w  R)) h)
def hostlaw_World_End.B10 (w0 : Option Addr) (c sd : Int) (abort mine : Bool) (want : Int) (lis : Bool) (kids_b : Option Addr) (kids_l kids_c : Nat) (fr_b : Option Addr) (fr_l fr_c : Nat) (fr2_b : Option Addr) (fr2_l fr2_c : Nat) (e : Int) (t167 : Bool) (w : World)   (R : Bool → World → Prop) : Prop :=
  Bm t167 (
    R false w) (
    hostlaw_World_OwnAll.Call w0 fr2_b fr2_l fr2_c w fun w1 =>
    Bm (e != want) (
      R false w1) (
      Bm (e != (0 : Int)) (
        R (((fr_l : Nat) : Int) == (0 : Int)) w1) (
        Bm mine (
          hostlaw_World_End.B8 w0 c sd abort mine lis kids_b kids_l kids_c fr_b fr_l fr_c (!abort) w1  R) (
          hostlaw_World_End.B8 w0 c sd abort mine lis kids_b kids_l kids_c fr_b fr_l fr_c false w1  R))))
theorem hostlaw_World_End.B10_eq (w0 : Option Addr) (c sd : Int) (abort mine : Bool) (want : Int) (lis : Bool) (kids_b : Option Addr) (kids_l kids_c : Nat) (fr_b : Option Addr) (fr_l fr_c : Nat) (fr2_b : Option Addr) (fr2_l fr2_c : Nat) (e : Int) (t167 : Bool) (w : World)   (R : Bool → World → Prop) (sB8 : Option Addr → Int → Int → Bool → Bool → Bool → Option Addr → Nat → Nat → Option Addr → Nat → Nat → Bool → World → Prop) :
    (
  Bm t167 (
    R false w) (
    hostlaw_World_OwnAll.Call w0 fr2_b fr2_l fr2_c w fun w1 =>
    Bm (e != want) (
      R false w1) (
      Bm (e != (0 : Int)) (
        R (((fr_l : Nat) : Int) == (0 : Int)) w1) (
        Bm mine (
          sB8 w0 c sd abort mine lis kids_b kids_l kids_c fr_b fr_l fr_c (!abort) w1) (
          sB8 w0 c sd abort mine lis kids_b kids_l kids_c fr_b fr_l fr_c false w1))))) = kstep Tryz.prog 293 Tryz.f49.results.toList (Tryz.f49.body.getD .skip) (hostlaw_World_End.RV R) (kvc Tryz.prog 293 Tryz.f49.results.toList (Tryz.f49.body.getD .skip) (hostlaw_World_End.RV R) [([(0, [1, 1, 1, 1, 1, 1, 1, 1, 1, 1, 1, 1, 1, 0, 1]), (0, [1, 1, 1, 1, 1, 1, 1, 1, 1, 1, 1, 1, 1, 1])], fun σ w => dP (slotOf σ 0) fun w0_ => dI .i64 (slotOf σ 1) fun c_ => dI .i64 (slotOf σ 2) fun sd_ => dB (slotOf σ 3) fun abort_ => dB (slotOf σ 10) fun mine_ => dB (slotOf σ 12) fun lis_ => dL (slotOf σ 13) fun kids_b_ kids_l_ kids_c_ => dL (slotOf σ 17) fun fr_b_ fr_l_ fr_c_ => dB (slotOf σ 183) fun t183_ => sB8 w0_ c_ sd_ abort_ mine_ lis_ kids_b_ kids_l_ kids_c_ fr_b_ fr_l_ fr_c_ t183_ w)] 2000) [(0, [1, 1, 1, 1, 1, 1, 1, 1, 1, 1, 0, 1, 0, 1, 0, 1]), (0, [1, 1, 1, 1, 1, 1, 1, 1, 1, 1, 0, 1, 0, 1, 1]), (0, [1, 1, 1, 1, 1, 1, 1, 1, 1, 1, 1])] [(0, .pointer w0), (1, .int .i64 c), (2, .int .i64 sd), (3, .bool abort), (10, .bool mine), (11, .int .i64 want), (12, .bool lis), (13, .slice kids_b kids_l kids_c), (17, .slice fr_b fr_l fr_c), (18, .slice fr2_b fr2_l fr2_c), (19, .int .i64 e), (167, .bool t167)] w := by kernel_rfl
theorem hostlaw_World_End.B10_sound {R : Bool → World → Prop}  (w0 : Option Addr) (c sd : Int) (abort mine : Bool) (want : Int) (lis : Bool) (kids_b : Option Addr) (kids_l kids_c : Nat) (fr_b : Option Addr) (fr_l fr_c : Nat) (fr2_b : Option Addr) (fr2_l fr2_c : Nat) (e : Int) (t167 : Bool) (w : World) (h : hostlaw_World_End.B10 w0 c sd abort mine want lis kids_b kids_l kids_c fr_b fr_l fr_c fr2_b fr2_l fr2_c e t167 w   R) :
    KW Tryz.prog 49 293 (hostlaw_World_End.RV R) ([(0, [1, 1, 1, 1, 1, 1, 1, 1, 1, 1, 0, 1, 0, 1, 0, 1]), (0, [1, 1, 1, 1, 1, 1, 1, 1, 1, 1, 0, 1, 0, 1, 1]), (0, [1, 1, 1, 1, 1, 1, 1, 1, 1, 1, 1])].map (toItem (Tryz.f49.body.getD .skip))) [(0, .pointer w0), (1, .int .i64 c), (2, .int .i64 sd), (3, .bool abort), (10, .bool mine), (11, .int .i64 want), (12, .bool lis), (13, .slice kids_b kids_l kids_c), (17, .slice fr_b fr_l fr_c), (18, .slice fr2_b fr2_l fr2_c), (19, .int .i64 e), (167, .bool t167)] w := by
  exact block_spec Tryz.func49 Tryz.mixed (stops_cons (fun σ w h => by
      obtain ⟨w0_, e0, h⟩ := dP_elim h
      obtain ⟨c_, e1, h⟩ := dI_elim h
      obtain ⟨sd_, e2, h⟩ := dI_elim h
      obtain ⟨abort_, e3, h⟩ := dB_elim h
      obtain ⟨mine_, e4, h⟩ := dB_elim h
      obtain ⟨lis_, e5, h⟩ := dB_elim h
      obtain ⟨kids_b_, kids_l_, kids_c_, e6, h⟩ := dL_elim h
      obtain ⟨fr_b_, fr_l_, fr_c_, e7, h⟩ := dL_elim h
      obtain ⟨t183_, e8, h⟩ := dB_elim h
      exact (hostlaw_World_End.B8_sound  w0_ c_ sd_ abort_ mine_ lis_ kids_b_ kids_l_ kids_c_ fr_b_ fr_l_ fr_c_ t183_ w h).weaken (Sub.cons (Sub.cons (Sub.cons (Sub.cons (Sub.cons (Sub.cons (Sub.cons (Sub.cons (Sub.cons (Sub.nil _) e8) e7) e6) e5) e4) e3) e2) e1) e0)) stops_nil) (Eq.mp (hostlaw_World_End.B10_eq w0 c sd abort mine want lis kids_b kids_l kids_c fr_b fr_l fr_c fr2_b fr2_l fr2_c e t167 w   R (fun w0_ c_ sd_ abort_ mine_ lis_ kids_b_ kids_l_ kids_c_ fr_b_ fr_l_ fr_c_ t183_ w => hostlaw_World_End.B8 w0_ c_ sd_ abort_ mine_ lis_ kids_b_ kids_l_ kids_c_ fr_b_ fr_l_ fr_c_ t183_ w  R)) h)
def hostlaw_World_End.B7 (w0 : Option Addr) (c sd : Int) (abort mine : Bool) (want : Int) (lis : Bool) (kids_b : Option Addr) (kids_l kids_c : Nat) (fr_b : Option Addr) (fr_l fr_c : Nat) (fr2_b : Option Addr) (fr2_l fr2_c : Nat) (e e2 : Int) (w : World)   (R : Bool → World → Prop) : Prop :=
  Bm (e2 != e) (
    hostlaw_World_End.B10 w0 c sd abort mine want lis kids_b kids_l kids_c fr_b fr_l fr_c fr2_b fr2_l fr2_c e true w  R) (
    hostlaw_SameFrames.Call fr_b fr_l fr_c fr2_b fr2_l fr2_c w fun r165 w1 =>
    hostlaw_World_End.B10 w0 c sd abort mine want lis kids_b kids_l kids_c fr_b fr_l fr_c fr2_b fr2_l fr2_c e (!r165) w1  R)
theorem hostlaw_World_End.B7_eq (w0 : Option Addr) (c sd : Int) (abort mine : Bool) (want : Int) (lis : Bool) (kids_b : Option Addr) (kids_l kids_c : Nat) (fr_b : Option Addr) (fr_l fr_c : Nat) (fr2_b : Option Addr) (fr2_l fr2_c : Nat) (e e2 : Int) (w : World)   (R : Bool → World → Prop) (sB10 : Option Addr → Int → Int → Bool → Bool → Int → Bool → Option Addr → Nat → Nat → Option Addr → Nat → Nat → Option Addr → Nat → Nat → Int → Bool → World → Prop) :
    (
  Bm (e2 != e) (
    sB10 w0 c sd abort mine want lis kids_b kids_l kids_c fr_b fr_l fr_c fr2_b fr2_l fr2_c e true w) (
    hostlaw_SameFrames.Call fr_b fr_l fr_c fr2_b fr2_l fr2_c w fun r165 w1 =>
    sB10 w0 c sd abort mine want lis kids_b kids_l kids_c fr_b fr_l fr_c fr2_b fr2_l fr2_c e (!r165) w1)) = kstep Tryz.prog 293 Tryz.f49.results.toList (Tryz.f49.body.getD .skip) (hostlaw_World_End.RV R) (kvc Tryz.prog 293 Tryz.f49.results.toList (Tryz.f49.body.getD .skip) (hostlaw_World_End.RV R) [([(0, [1, 1, 1, 1, 1, 1, 1, 1, 1, 1, 0, 1, 0, 1, 0, 1]), (0, [1, 1, 1, 1, 1, 1, 1, 1, 1, 1, 0, 1, 0, 1, 1]), (0, [1, 1, 1, 1, 1, 1, 1, 1, 1, 1, 1])], fun σ w => dP (slotOf σ 0) fun w0_ => dI .i64 (slotOf σ 1) fun c_ => dI .i64 (slotOf σ 2) fun sd_ => dB (slotOf σ 3) fun abort_ => dB (slotOf σ 10) fun mine_ => dI .i64 (slotOf σ 11) fun want_ => dB (slotOf σ 12) fun lis_ => dL (slotOf σ 13) fun kids_b_ kids_l_ kids_c_ => dL (slotOf σ 17) fun fr_b_ fr_l_ fr_c_ => dL (slotOf σ 18) fun fr2_b_ fr2_l_ fr2_c_ => dI .i64 (slotOf σ 19) fun e_ => dB (slotOf σ 167) fun t167_ => sB10 w0_ c_ sd_ abort_ mine_ want_ lis_ kids_b_ kids_l_ kids_c_ fr_b_ fr_l_ fr_c_ fr2_b_ fr2_l_ fr2_c_ e_ t167_ w)] 2000) [(0, [1, 1, 1, 1, 1, 1, 1, 1, 1, 1, 0, 1, 0, 1]), (0, [1, 1, 1, 1, 1, 1, 1, 1, 1, 1, 1])] [(0, .pointer w0), (1, .int .i64 c), (2, .int .i64 sd), (3, .bool abort), (10, .bool mine), (11, .int .i64 want), (12, .bool lis), (13, .slice kids_b kids_l kids_c), (17, .slice fr_b fr_l fr_c), (18, .slice fr2_b fr2_l fr2_c), (19, .int .i64 e), (20, .int .i64 e2)] w := by kernel_rfl
theorem hostlaw_World_End.B7_sound {R : Bool → World → Prop}  (w0 : Option Addr) (c sd : Int) (abort mine : Bool) (want : Int) (lis : Bool) (kids_b : Option Addr) (kids_l kids_c : Nat) (fr_b : Option Addr) (fr_l fr_c : Nat) (fr2_b : Option Addr) (fr2_l fr2_c : Nat) (e e2 : Int) (w : World) (h : hostlaw_World_End.B7 w0 c sd abort mine want lis kids_b kids_l kids_c fr_b fr_l fr_c fr2_b fr2_l fr2_c e e2 w   R) :
    KW Tryz.prog 49 293 (hostlaw_World_End.RV R) ([(0, [1, 1, 1, 1, 1, 1, 1, 1, 1, 1, 0, 1, 0, 1]), (0, [1, 1, 1, 1, 1, 1, 1, 1, 1, 1, 1])].map (toItem (Tryz.f49.body.getD .skip))) [(0, .pointer w0), (1, .int .i64 c), (2, .int .i64 sd), (3, .bool abort), (10, .bool mine), (11, .int .i64 want), (12, .bool lis), (13, .slice kids_b kids_l kids_c), (17, .slice fr_b fr_l fr_c), (18, .slice fr2_b fr2_l fr2_c), (19, .int .i64 e), (20, .int .i64 e2)] w := by
  exact block_spec Tryz.func49 Tryz.mixed (stops_cons (fun σ w h => by
      obtain ⟨w0_, e0, h⟩ := dP_elim h
      obtain ⟨c_, e1, h⟩ := dI_elim h
      obtain ⟨sd_, e2, h⟩ := dI_elim h
      obtain ⟨abort_, e3, h⟩ := dB_elim h
      obtain ⟨mine_, e4, h⟩ := dB_elim h
      obtain ⟨want_, e5, h⟩ := dI_elim h
      obtain ⟨lis_, e6, h⟩ := dB_elim h
      obtain ⟨kids_b_, kids_l_, kids_c_, e7, h⟩ := dL_elim h
      obtain ⟨fr_b_, fr_l_, fr_c_, e8, h⟩ := dL_elim h
      obtain ⟨fr2_b_, fr2_l_, fr2_c_, e9, h⟩ := dL_elim h
      obtain ⟨e_, e10, h⟩ := dI_elim h
      obtain ⟨t167_, e11, h⟩ := dB_elim h
      exact (hostlaw_World_End.B10_sound  w0_ c_ sd_ abort_ mine_ want_ lis_ kids_b_ kids_l_ kids_c_ fr_b_ fr_l_ fr_c_ fr2_b_ fr2_l_ fr2_c_ e_ t167_ w h).weaken (Sub.cons (Sub.cons (Sub.cons (Sub.cons (Sub.cons (Sub.cons (Sub.cons (Sub.cons (Sub.cons (Sub.cons (Sub.cons (Sub.cons (Sub.nil _) e11) e10) e9) e8) e7) e6) e5) e4) e3) e2) e1) e0)) stops_nil) (Eq.mp (hostlaw_World_End.B7_eq w0 c sd abort mine want lis kids_b kids_l kids_c fr_b fr_l fr_c fr2_b fr2_l fr2_c e e2 w   R (fun w0_ c_ sd_ abort_ mine_ want_ lis_ kids_b_ kids_l_ kids_c_ fr_b_ fr_l_ fr_c_ fr2_b_ fr2_l_ fr2_c_ e_ t167_ w => hostlaw_World_End.B10 w0_ c_ sd_ abort_ mine_ want_ lis_ kids_b_ kids_l_ kids_c_ fr_b_ fr_l_ fr_c_ fr2_b_ fr2_l_ fr2_c_ e_ t167_ w  R)) h)
def hostlaw_World_End.B5 (w0 : Option Addr) (c sd : Int) (abort mine : Bool) (want : Int) (lis : Bool) (kids_b : Option Addr) (kids_l kids_c : Nat) (fr_b : Option Addr) (fr_l fr_c : Nat) (e : Int) (w : World)   (R : Bool → World → Prop) : Prop :=
  Pn w0 fun a =>
  LdB (a.add 27) w fun x135 =>
  Bm x135 (
    Bm abort (
      Pn w0 fun a_1 =>
      (0 ≤ c ∧ c < ((3 : Nat) : Int)) ∧
      LdP (Addr.add (a_1.add 24) (c.toNat * 1)) w fun x143 =>
      host_Host_Abort.Call x143 sd w fun r145_0_b r145_0_l r145_0_c r145_1 w1 =>
      hostlaw_World_End.B7 w0 c sd abort mine want lis kids_b kids_l kids_c fr_b fr_l fr_c r145_0_b r145_0_l r145_0_c e r145_1 w1  R) (
      Pn w0 fun a_2 =>
      (0 ≤ c ∧ c < ((3 : Nat) : Int)) ∧
      LdP (Addr.add (a_2.add 24) (c.toNat * 1)) w fun x154 =>
      host_Host_Close.Call x154 sd w fun r156_0_b r156_0_l r156_0_c r156_1 w2 =>
      hostlaw_World_End.B7 w0 c sd abort mine want lis kids_b kids_l kids_c fr_b fr_l fr_c r156_0_b r156_0_l r156_0_c e r156_1 w2  R)) (
    Bm (e != want) (
      R false w) (
      Bm (e != (0 : Int)) (
        R (((fr_l : Nat) : Int) == (0 : Int)) w) (
        Bm mine (
          hostlaw_World_End.B8 w0 c sd abort mine lis kids_b kids_l kids_c fr_b fr_l fr_c (!abort) w  R) (
          hostlaw_World_End.B8 w0 c sd abort mine lis kids_b kids_l kids_c fr_b fr_l fr_c false w  R))))
theorem hostlaw_World_End.B5_eq (w0 : Option Addr) (c sd : Int) (abort mine : Bool) (want : Int) (lis : Bool) (kids_b : Option Addr) (kids_l kids_c : Nat) (fr_b : Option Addr) (fr_l fr_c : Nat) (e : Int) (w : World)   (R : Bool → World → Prop) (sB7 : Option Addr → Int → Int → Bool → Bool → Int → Bool → Option Addr → Nat → Nat → Option Addr → Nat → Nat → Option Addr → Nat → Nat → Int → Int → World → Prop) (sB8 : Option Addr → Int → Int → Bool → Bool → Bool → Option Addr → Nat → Nat → Option Addr → Nat → Nat → Bool → World → Prop) :
    (
  Pn w0 fun a =>
  LdB (a.add 27) w fun x135 =>
  Bm x135 (
    Bm abort (
      Pn w0 fun a_1 =>
      (0 ≤ c ∧ c < ((3 : Nat) : Int)) ∧
      LdP (Addr.add (a_1.add 24) (c.toNat * 1)) w fun x143 =>
      host_Host_Abort.Call x143 sd w fun r145_0_b r145_0_l r145_0_c r145_1 w1 =>
      sB7 w0 c sd abort mine want lis kids_b kids_l kids_c fr_b fr_l fr_c r145_0_b r145_0_l r145_0_c e r145_1 w1) (
      Pn w0 fun a_2 =>
      (0 ≤ c ∧ c < ((3 : Nat) : Int)) ∧
      LdP (Addr.add (a_2.add 24) (c.toNat * 1)) w fun x154 =>
      host_Host_Close.Call x154 sd w fun r156_0_b r156_0_l r156_0_c r156_1 w2 =>
      sB7 w0 c sd abort mine want lis kids_b kids_l kids_c fr_b fr_l fr_c r156_0_b r156_0_l r156_0_c e r156_1 w2)) (
    Bm (e != want) (
      R false w) (
      Bm (e != (0 : Int)) (
        R (((fr_l : Nat) : Int) == (0 : Int)) w) (
        Bm mine (
          sB8 w0 c sd abort mine lis kids_b kids_l kids_c fr_b fr_l fr_c (!abort) w) (
          sB8 w0 c sd abort mine lis kids_b kids_l kids_c fr_b fr_l fr_c false w))))) = kstep Tryz.prog 293 Tryz.f49.results.toList (Tryz.f49.body.getD .skip) (hostlaw_World_End.RV R) (kvc Tryz.prog 293 Tryz.f49.results.toList (Tryz.f49.body.getD .skip) (hostlaw_World_End.RV R) [([(0, [1, 1, 1, 1, 1, 1, 1, 1, 1, 1, 0, 1, 0, 1]), (0, [1, 1, 1, 1, 1, 1, 1, 1, 1, 1, 1])], fun σ w => dP (slotOf σ 0) fun w0_ => dI .i64 (slotOf σ 1) fun c_ => dI .i64 (slotOf σ 2) fun sd_ => dB (slotOf σ 3) fun abort_ => dB (slotOf σ 10) fun mine_ => dI .i64 (slotOf σ 11) fun want_ => dB (slotOf σ 12) fun lis_ => dL (slotOf σ 13) fun kids_b_ kids_l_ kids_c_ => dL (slotOf σ 17) fun fr_b_ fr_l_ fr_c_ => dL (slotOf σ 18) fun fr2_b_ fr2_l_ fr2_c_ => dI .i64 (slotOf σ 19) fun e_ => dI .i64 (slotOf σ 20) fun e2_ => sB7 w0_ c_ sd_ abort_ mine_ want_ lis_ kids_b_ kids_l_ kids_c_ fr_b_ fr_l_ fr_c_ fr2_b_ fr2_l_ fr2_c_ e_ e2_ w),
    ([(0, [1, 1, 1, 1, 1, 1, 1, 1, 1, 1, 1, 1, 1, 0, 1]), (0, [1, 1, 1, 1, 1, 1, 1, 1, 1, 1, 1, 1, 1, 1])], fun σ w => dP (slotOf σ 0) fun w0_ => dI .i64 (slotOf σ 1) fun c_ => dI .i64 (slotOf σ 2) fun sd_ => dB (slotOf σ 3) fun abort_ => dB (slotOf σ 10) fun mine_ => dB (slotOf σ 12) fun lis_ => dL (slotOf σ 13) fun kids_b_ kids_l_ kids_c_ => dL (slotOf σ 17) fun fr_b_ fr_l_ fr_c_ => dB (slotOf σ 183) fun t183_ => sB8 w0_ c_ sd_ abort_ mine_ lis_ kids_b_ kids_l_ kids_c_ fr_b_ fr_l_ fr_c_ t183_ w)] 2000) [(0, [1, 1, 1, 1, 1, 1, 1, 1, 1, 1])] [(0, .pointer w0), (1, .int .i64 c), (2, .int .i64 sd), (3, .bool abort), (10, .bool mine), (11, .int .i64 want), (12, .bool lis), (13, .slice kids_b kids_l kids_c), (17, .slice fr_b fr_l fr_c), (19, .int .i64 e)] w := by kernel_rfl
theorem hostlaw_World_End.B5_sound {R : Bool → World → Prop}  (w0 : Option Addr) (c sd : Int) (abort mine : Bool) (want : Int) (lis : Bool) (kids_b : Option Addr) (kids_l kids_c : Nat) (fr_b : Option Addr) (fr_l fr_c : Nat) (e : Int) (w : World) (h : hostlaw_World_End.B5 w0 c sd abort mine want lis kids_b kids_l kids_c fr_b fr_l fr_c e w   R) :
    KW Tryz.prog 49 293 (hostlaw_World_End.RV R) ([(0, [1, 1, 1, 1, 1, 1, 1, 1, 1, 1])].map (toItem (Tryz.f49.body.getD .skip))) [(0, .pointer w0), (1, .int .i64 c), (2, .int .i64 sd), (3, .bool abort), (10, .bool mine), (11, .int .i64 want), (12, .bool lis), (13, .slice kids_b kids_l kids_c), (17, .slice fr_b fr_l fr_c), (19, .int .i64 e)] w := by
  exact block_spec Tryz.func49 Tryz.mixed (stops_cons (fun σ w h => by
      obtain ⟨w0_, e0, h⟩ := dP_elim h
      obtain ⟨c_, e1, h⟩ := dI_elim h
      obtain ⟨sd_, e2, h⟩ := dI_elim h
      obtain ⟨abort_, e3, h⟩ := dB_elim h
      obtain ⟨mine_, e4, h⟩ := dB_elim h
      obtain ⟨want_, e5, h⟩ := dI_elim h
      obtain ⟨lis_, e6, h⟩ := dB_elim h
      obtain ⟨kids_b_, kids_l_, kids_c_, e7, h⟩ := dL_elim h
      obtain ⟨fr_b_, fr_l_, fr_c_, e8, h⟩ := dL_elim h
      obtain ⟨fr2_b_, fr2_l_, fr2_c_, e9, h⟩ := dL_elim h
      obtain ⟨e_, e10, h⟩ := dI_elim h
      obtain ⟨e2_, e11, h⟩ := dI_elim h
      exact (hostlaw_World_End.B7_sound  w0_ c_ sd_ abort_ mine_ want_ lis_ kids_b_ kids_l_ kids_c_ fr_b_ fr_l_ fr_c_ fr2_b_ fr2_l_ fr2_c_ e_ e2_ w h).weaken (Sub.cons (Sub.cons (Sub.cons (Sub.cons (Sub.cons (Sub.cons (Sub.cons (Sub.cons (Sub.cons (Sub.cons (Sub.cons (Sub.cons (Sub.nil _) e11) e10) e9) e8) e7) e6) e5) e4) e3) e2) e1) e0)) (stops_cons (fun σ w h => by
      obtain ⟨w0_, e0, h⟩ := dP_elim h
      obtain ⟨c_, e1, h⟩ := dI_elim h
      obtain ⟨sd_, e2, h⟩ := dI_elim h
      obtain ⟨abort_, e3, h⟩ := dB_elim h
      obtain ⟨mine_, e4, h⟩ := dB_elim h
      obtain ⟨lis_, e5, h⟩ := dB_elim h
      obtain ⟨kids_b_, kids_l_, kids_c_, e6, h⟩ := dL_elim h
      obtain ⟨fr_b_, fr_l_, fr_c_, e7, h⟩ := dL_elim h
      obtain ⟨t183_, e8, h⟩ := dB_elim h
      exact (hostlaw_World_End.B8_sound  w0_ c_ sd_ abort_ mine_ lis_ kids_b_ kids_l_ kids_c_ fr_b_ fr_l_ fr_c_ t183_ w h).weaken (Sub.cons (Sub.cons (Sub.cons (Sub.cons (Sub.cons (Sub.cons (Sub.cons (Sub.cons (Sub.cons (Sub.nil _) e8) e7) e6) e5) e4) e3) e2) e1) e0)) stops_nil)) (Eq.mp (hostlaw_World_End.B5_eq w0 c sd abort mine want lis kids_b kids_l kids_c fr_b fr_l fr_c e w   R (fun w0_ c_ sd_ abort_ mine_ want_ lis_ kids_b_ kids_l_ kids_c_ fr_b_ fr_l_ fr_c_ fr2_b_ fr2_l_ fr2_c_ e_ e2_ w => hostlaw_World_End.B7 w0_ c_ sd_ abort_ mine_ want_ lis_ kids_b_ kids_l_ kids_c_ fr_b_ fr_l_ fr_c_ fr2_b_ fr2_l_ fr2_c_ e_ e2_ w  R) (fun w0_ c_ sd_ abort_ mine_ lis_ kids_b_ kids_l_ kids_c_ fr_b_ fr_l_ fr_c_ t183_ w => hostlaw_World_End.B8 w0_ c_ sd_ abort_ mine_ lis_ kids_b_ kids_l_ kids_c_ fr_b_ fr_l_ fr_c_ t183_ w  R)) h)
def hostlaw_World_End.B3 (w0 : Option Addr) (c sd : Int) (abort mine : Bool) (want : Int) (lis : Bool) (kids_b : Option Addr) (kids_l kids_c : Nat) (i : Int) (t66 : Bool) (w : World) (N1 : Option Addr → Int → Int → Bool → Bool → Int → Bool → Option Addr → Nat → Nat → Int → World → Prop)  (R : Bool → World → Prop) : Prop :=
  Bm t66 (
    Pn w0 fun a =>
    (0 ≤ c ∧ c < ((3 : Nat) : Int)) ∧
    LdP (Addr.add a (c.toNat * 1)) w.drew fun x75 =>
    Pn w0 fun a_1 =>
    (0 ≤ c ∧ c < ((3 : Nat) : Int)) ∧
    LdL (Addr.add (a_1.add 34) (c.toNat * 1)) w.drew fun x81_b x81_l x81_c =>
    Pn x81_b fun a_2 =>
    (0 ≤ i ∧ i < ((x81_l : Nat) : Int)) ∧
    LdI .i64 (Addr.add a_2 (i.toNat * 1)) w.drew fun x84 =>
    ((
      host_Host_Info.Call x75 x84 w.drew fun r85_0_0 r85_0_1 r85_0_2 r85_0_3 r85_0_4 r85_0_5 r85_0_6 r85_0_7 r85_0_8 r85_1 w1 =>
      New (.cells #[.int .i64 (0 : Int), .int .i64 (0 : Int), .int .i64 (0 : Int), .int .i64 (0 : Int), .int .i64 (0 : Int), .int .i64 (0 : Int), .int .i64 (0 : Int), .bool false, .pointer none] 69) w1 fun k_ w2 =>
      Sts [.int .i64 r85_0_0, .int .i64 r85_0_1, .int .i64 r85_0_2, .int .i64 r85_0_3, .int .i64 r85_0_4, .int .i64 r85_0_5, .int .i64 r85_0_6, .bool r85_0_7, .pointer r85_0_8] ⟨k_, 0, none⟩ 0 w2 fun w3 =>
      hostlaw_World_End.B4 w0 c sd abort mine want lis kids_b kids_l kids_c i k_ r85_1 w3 N1 R) ∧ (
      New (.cells #[.int .i64 (0 : Int), .int .i64 (0 : Int), .int .i64 (0 : Int), .int .i64 (0 : Int), .int .i64 (0 : Int), .int .i64 (0 : Int), .int .i64 (0 : Int), .bool false, .pointer none] 69) w.drew fun k__1 w4 =>
      w4.cell? (Addr.add a_2 (i.toNat * 1)) = some (.int .i64 x84) ∧
      w4.cell? (Addr.add (a_1.add 34) (c.toNat * 1)) = some (.slice x81_b x81_l x81_c) ∧
      w4.cell? (Addr.add a (c.toNat * 1)) = some (.pointer x75) ∧
      host_Host_Info.Call x75 x84 w4 fun r85_0_0_1 r85_0_1_1 r85_0_2_1 r85_0_3_1 r85_0_4_1 r85_0_5_1 r85_0_6_1 r85_0_7_1 r85_0_8_1 r85_1_1 w5 =>
      Sts [.int .i64 r85_0_0_1, .int .i64 r85_0_1_1, .int .i64 r85_0_2_1, .int .i64 r85_0_3_1, .int .i64 r85_0_4_1, .int .i64 r85_0_5_1, .int .i64 r85_0_6_1, .bool r85_0_7_1, .pointer r85_0_8_1] ⟨k__1, 0, none⟩ 0 w5 fun w6 =>
      hostlaw_World_End.B4 w0 c sd abort mine want lis kids_b kids_l kids_c i k__1 r85_1_1 w6 N1 R))) (
    Bm abort (
      Pn w0 fun a_3 =>
      (0 ≤ c ∧ c < ((3 : Nat) : Int)) ∧
      LdP (Addr.add a_3 (c.toNat * 1)) w fun x116 =>
      host_Host_Abort.Call x116 sd w fun r118_0_b r118_0_l r118_0_c r118_1 w7 =>
      hostlaw_World_End.B5 w0 c sd abort mine want lis kids_b kids_l kids_c r118_0_b r118_0_l r118_0_c r118_1 w7  R) (
      Pn w0 fun a_4 =>
      (0 ≤ c ∧ c < ((3 : Nat) : Int)) ∧
      LdP (Addr.add a_4 (c.toNat * 1)) w fun x127 =>
      host_Host_Close.Call x127 sd w fun r129_0_b r129_0_l r129_0_c r129_1 w8 =>
      hostlaw_World_End.B5 w0 c sd abort mine want lis kids_b kids_l kids_c r129_0_b r129_0_l r129_0_c r129_1 w8  R))
theorem hostlaw_World_End.B3_eq (w0 : Option Addr) (c sd : Int) (abort mine : Bool) (want : Int) (lis : Bool) (kids_b : Option Addr) (kids_l kids_c : Nat) (i : Int) (t66 : Bool) (w : World) (N1 : Option Addr → Int → Int → Bool → Bool → Int → Bool → Option Addr → Nat → Nat → Int → World → Prop)  (R : Bool → World → Prop) (sB4 : Option Addr → Int → Int → Bool → Bool → Int → Bool → Option Addr → Nat → Nat → Int → Nat → Int → World → Prop) (sB5 : Option Addr → Int → Int → Bool → Bool → Int → Bool → Option Addr → Nat → Nat → Option Addr → Nat → Nat → Int → World → Prop) :
    (
  Bm t66 (
    Pn w0 fun a =>
    (0 ≤ c ∧ c < ((3 : Nat) : Int)) ∧
    LdP (Addr.add a (c.toNat * 1)) w.drew fun x75 =>
    Pn w0 fun a_1 =>
    (0 ≤ c ∧ c < ((3 : Nat) : Int)) ∧
    LdL (Addr.add (a_1.add 34) (c.toNat * 1)) w.drew fun x81_b x81_l x81_c =>
    Pn x81_b fun a_2 =>
    (0 ≤ i ∧ i < ((x81_l : Nat) : Int)) ∧
    LdI .i64 (Addr.add a_2 (i.toNat * 1)) w.drew fun x84 =>
    ((
      host_Host_Info.Call x75 x84 w.drew fun r85_0_0 r85_0_1 r85_0_2 r85_0_3 r85_0_4 r85_0_5 r85_0_6 r85_0_7 r85_0_8 r85_1 w1 =>
      New (.cells #[.int .i64 (0 : Int), .int .i64 (0 : Int), .int .i64 (0 : Int), .int .i64 (0 : Int), .int .i64 (0 : Int), .int .i64 (0 : Int), .int .i64 (0 : Int), .bool false, .pointer none] 69) w1 fun k_ w2 =>
      Sts [.int .i64 r85_0_0, .int .i64 r85_0_1, .int .i64 r85_0_2, .int .i64 r85_0_3, .int .i64 r85_0_4, .int .i64 r85_0_5, .int .i64 r85_0_6, .bool r85_0_7, .pointer r85_0_8] ⟨k_, 0, none⟩ 0 w2 fun w3 =>
      sB4 w0 c sd abort mine want lis kids_b kids_l kids_c i k_ r85_1 w3) ∧ (
      New (.cells #[.int .i64 (0 : Int), .int .i64 (0 : Int), .int .i64 (0 : Int), .int .i64 (0 : Int), .int .i64 (0 : Int), .int .i64 (0 : Int), .int .i64 (0 : Int), .bool false, .pointer none] 69) w.drew fun k__1 w4 =>
      w4.cell? (Addr.add a_2 (i.toNat * 1)) = some (.int .i64 x84) ∧
      w4.cell? (Addr.add (a_1.add 34) (c.toNat * 1)) = some (.slice x81_b x81_l x81_c) ∧
      w4.cell? (Addr.add a (c.toNat * 1)) = some (.pointer x75) ∧
      host_Host_Info.Call x75 x84 w4 fun r85_0_0_1 r85_0_1_1 r85_0_2_1 r85_0_3_1 r85_0_4_1 r85_0_5_1 r85_0_6_1 r85_0_7_1 r85_0_8_1 r85_1_1 w5 =>
      Sts [.int .i64 r85_0_0_1, .int .i64 r85_0_1_1, .int .i64 r85_0_2_1, .int .i64 r85_0_3_1, .int .i64 r85_0_4_1, .int .i64 r85_0_5_1, .int .i64 r85_0_6_1, .bool r85_0_7_1, .pointer r85_0_8_1] ⟨k__1, 0, none⟩ 0 w5 fun w6 =>
      sB4 w0 c sd abort mine want lis kids_b kids_l kids_c i k__1 r85_1_1 w6))) (
    Bm abort (
      Pn w0 fun a_3 =>
      (0 ≤ c ∧ c < ((3 : Nat) : Int)) ∧
      LdP (Addr.add a_3 (c.toNat * 1)) w fun x116 =>
      host_Host_Abort.Call x116 sd w fun r118_0_b r118_0_l r118_0_c r118_1 w7 =>
      sB5 w0 c sd abort mine want lis kids_b kids_l kids_c r118_0_b r118_0_l r118_0_c r118_1 w7) (
      Pn w0 fun a_4 =>
      (0 ≤ c ∧ c < ((3 : Nat) : Int)) ∧
      LdP (Addr.add a_4 (c.toNat * 1)) w fun x127 =>
      host_Host_Close.Call x127 sd w fun r129_0_b r129_0_l r129_0_c r129_1 w8 =>
      sB5 w0 c sd abort mine want lis kids_b kids_l kids_c r129_0_b r129_0_l r129_0_c r129_1 w8))) = kstep Tryz.prog 293 Tryz.f49.results.toList (Tryz.f49.body.getD .skip) (hostlaw_World_End.RV R) (kvc Tryz.prog 293 Tryz.f49.results.toList (Tryz.f49.body.getD .skip) (hostlaw_World_End.RV R) [([(0, [1, 1, 1, 1, 1, 1, 0, 1, 0, 0, 1, 0, 0, 1]), (1, [1]), (0, [1, 1, 1, 1, 1, 1, 0, 1, 0, 0, 1, 1]), (2, [1, 1, 1, 1, 1, 1, 0, 1, 0, 0]), (1, [0]), (0, [1, 1, 1, 1, 1, 1, 1])], fun σ w => dP (slotOf σ 0) fun w0_ => dI .i64 (slotOf σ 1) fun c_ => dI .i64 (slotOf σ 2) fun sd_ => dB (slotOf σ 3) fun abort_ => dB (slotOf σ 10) fun mine_ => dI .i64 (slotOf σ 11) fun want_ => dB (slotOf σ 12) fun lis_ => dL (slotOf σ 13) fun kids_b_ kids_l_ kids_c_ => dI .i64 (slotOf σ 14) fun i_ => dK (slotOf σ 15) fun k_ => dI .i64 (slotOf σ 16) fun e_ => sB4 w0_ c_ sd_ abort_ mine_ want_ lis_ kids_b_ kids_l_ kids_c_ i_ k_ e_ w),
    ([(0, [1, 1, 1, 1, 1, 1, 1, 1, 1, 1])], fun σ w => dP (slotOf σ 0) fun w0_ => dI .i64 (slotOf σ 1) fun c_ => dI .i64 (slotOf σ 2) fun sd_ => dB (slotOf σ 3) fun abort_ => dB (slotOf σ 10) fun mine_ => dI .i64 (slotOf σ 11) fun want_ => dB (slotOf σ 12) fun lis_ => dL (slotOf σ 13) fun kids_b_ kids_l_ kids_c_ => dL (slotOf σ 17) fun fr_b_ fr_l_ fr_c_ => dI .i64 (slotOf σ 19) fun e_ => sB5 w0_ c_ sd_ abort_ mine_ want_ lis_ kids_b_ kids_l_ kids_c_ fr_b_ fr_l_ fr_c_ e_ w)] 2000) [(0, [1, 1, 1, 1, 1, 1, 0, 1, 0, 0, 0, 1]), (0, [1, 1, 1, 1, 1, 1, 0, 1, 0, 0, 1]), (2, [1, 1, 1, 1, 1, 1, 0, 1, 0, 0]), (1, [0]), (0, [1, 1, 1, 1, 1, 1, 1])] [(0, .pointer w0), (1, .int .i64 c), (2, .int .i64 sd), (3, .bool abort), (10, .bool mine), (11, .int .i64 want), (12, .bool lis), (13, .slice kids_b kids_l kids_c), (14, .int .i64 i), (66, .bool t66)] w := by kernel_rfl
theorem hostlaw_World_End.B3_sound {R : Bool → World → Prop} {N1 : Option Addr → Int → Int → Bool → Bool → Int → Bool → Option Addr → Nat → Nat → Int → World → Prop} (hN1 : ∀ w0 c sd abort mine want lis kids_b kids_l kids_c i w, N1 w0 c sd abort mine want lis kids_b kids_l kids_c i w → KW Tryz.prog 49 293 (hostlaw_World_End.RV R) ([(0, [1, 1, 1, 1, 1, 1, 0, 1, 0, 0]), (2, [1, 1, 1, 1, 1, 1, 0, 1, 0, 0]), (1, [0]), (0, [1, 1, 1, 1, 1, 1, 1])].map (toItem (Tryz.f49.body.getD .skip))) [(0, .pointer w0), (1, .int .i64 c), (2, .int .i64 sd), (3, .bool abort), (10, .bool mine), (11, .int .i64 want), (12, .bool lis), (13, .slice kids_b kids_l kids_c), (14, .int .i64 i)] w) (w0 : Option Addr) (c sd : Int) (abort mine : Bool) (want : Int) (lis : Bool) (kids_b : Option Addr) (kids_l kids_c : Nat) (i : Int) (t66 : Bool) (w : World) (h : hostlaw_World_End.B3 w0 c sd abort mine want lis kids_b kids_l kids_c i t66 w N1  R) :
    KW Tryz.prog 49 293 (hostlaw_World_End.RV R) ([(0, [1, 1, 1, 1, 1, 1, 0, 1, 0, 0, 0, 1]), (0, [1, 1, 1, 1, 1, 1, 0, 1, 0, 0, 1]), (2, [1, 1, 1, 1, 1, 1, 0, 1, 0, 0]), (1, [0]), (0, [1, 1, 1, 1, 1, 1, 1])].map (toItem (Tryz.f49.body.getD .skip))) [(0, .pointer w0), (1, .int .i64 c), (2, .int .i64 sd), (3, .bool abort), (10, .bool mine), (11, .int .i64 want), (12, .bool lis), (13, .slice kids_b kids_l kids_c), (14, .int .i64 i), (66, .bool t66)] w := by
  exact block_spec Tryz.func49 Tryz.mixed (stops_cons (fun σ w h => by
      obtain ⟨w0_, e0, h⟩ := dP_elim h
      obtain ⟨c_, e1, h⟩ := dI_elim h
      obtain ⟨sd_, e2, h⟩ := dI_elim h
      obtain ⟨abort_, e3, h⟩ := dB_elim h
      obtain ⟨mine_, e4, h⟩ := dB_elim h
      obtain ⟨want_, e5, h⟩ := dI_elim h
      obtain ⟨lis_, e6, h⟩ := dB_elim h
      obtain ⟨kids_b_, kids_l_, kids_c_, e7, h⟩ := dL_elim h
      obtain ⟨i_, e8, h⟩ := dI_elim h
      obtain ⟨k_, e9, h⟩ := dK_elim h
      obtain ⟨e_, e10, h⟩ := dI_elim h
      exact (hostlaw_World_End.B4_sound hN1 w0_ c_ sd_ abort_ mine_ want_ lis_ kids_b_ kids_l_ kids_c_ i_ k_ e_ w h).weaken (Sub.cons (Sub.cons (Sub.cons (Sub.cons (Sub.cons (Sub.cons (Sub.cons (Sub.cons (Sub.cons (Sub.cons (Sub.cons (Sub.nil _) e10) e9) e8) e7) e6) e5) e4) e3) e2) e1) e0)) (stops_cons (fun σ w h => by
      obtain ⟨w0_, e0, h⟩ := dP_elim h
      obtain ⟨c_, e1, h⟩ := dI_elim h
      obtain ⟨sd_, e2, h⟩ := dI_elim h
      obtain ⟨abort_, e3, h⟩ := dB_elim h
      obtain ⟨mine_, e4, h⟩ := dB_elim h
      obtain ⟨want_, e5, h⟩ := dI_elim h
      obtain ⟨lis_, e6, h⟩ := dB_elim h
      obtain ⟨kids_b_, kids_l_, kids_c_, e7, h⟩ := dL_elim h
      obtain ⟨fr_b_, fr_l_, fr_c_, e8, h⟩ := dL_elim h
      obtain ⟨e_, e9, h⟩ := dI_elim h
      exact (hostlaw_World_End.B5_sound  w0_ c_ sd_ abort_ mine_ want_ lis_ kids_b_ kids_l_ kids_c_ fr_b_ fr_l_ fr_c_ e_ w h).weaken (Sub.cons (Sub.cons (Sub.cons (Sub.cons (Sub.cons (Sub.cons (Sub.cons (Sub.cons (Sub.cons (Sub.cons (Sub.nil _) e9) e8) e7) e6) e5) e4) e3) e2) e1) e0)) stops_nil)) (Eq.mp (hostlaw_World_End.B3_eq w0 c sd abort mine want lis kids_b kids_l kids_c i t66 w N1  R (fun w0_ c_ sd_ abort_ mine_ want_ lis_ kids_b_ kids_l_ kids_c_ i_ k_ e_ w => hostlaw_World_End.B4 w0_ c_ sd_ abort_ mine_ want_ lis_ kids_b_ kids_l_ kids_c_ i_ k_ e_ w N1 R) (fun w0_ c_ sd_ abort_ mine_ want_ lis_ kids_b_ kids_l_ kids_c_ fr_b_ fr_l_ fr_c_ e_ w => hostlaw_World_End.B5 w0_ c_ sd_ abort_ mine_ want_ lis_ kids_b_ kids_l_ kids_c_ fr_b_ fr_l_ fr_c_ e_ w  R)) h)
def hostlaw_World_End.L1b (w0 : Option Addr) (c sd : Int) (abort mine : Bool) (want : Int) (lis : Bool) (kids_b : Option Addr) (kids_l kids_c : Nat) (i : Int) (w : World)  (N1 : Option Addr → Int → Int → Bool → Bool → Int → Bool → Option Addr → Nat → Nat → Int → World → Prop) (R : Bool → World → Prop) : Prop :=
  Pn w0 fun a =>
  (0 ≤ c ∧ c < ((3 : Nat) : Int)) ∧
  LdL (Addr.add (a.add 34) (c.toNat * 1)) w fun x56_b x56_l x56_c =>
  Bm (decide (i < ((x56_l : Nat) : Int))) (
    Bm (want == (0 : Int)) (
      hostlaw_World_End.B3 w0 c sd abort mine want lis kids_b kids_l kids_c i (!mine) w N1 R) (
      hostlaw_World_End.B3 w0 c sd abort mine want lis kids_b kids_l kids_c i false w N1 R)) (
    hostlaw_World_End.B3 w0 c sd abort mine want lis kids_b kids_l kids_c i false w N1 R)
theorem hostlaw_World_End.L1b_eq (w0 : Option Addr) (c sd : Int) (abort mine : Bool) (want : Int) (lis : Bool) (kids_b : Option Addr) (kids_l kids_c : Nat) (i : Int) (w : World)  (N1 : Option Addr → Int → Int → Bool → Bool → Int → Bool → Option Addr → Nat → Nat → Int → World → Prop) (R : Bool → World → Prop) (sB3 : Option Addr → Int → Int → Bool → Bool → Int → Bool → Option Addr → Nat → Nat → Int → Bool → World → Prop) :
    (
  Pn w0 fun a =>
  (0 ≤ c ∧ c < ((3 : Nat) : Int)) ∧
  LdL (Addr.add (a.add 34) (c.toNat * 1)) w fun x56_b x56_l x56_c =>
  Bm (decide (i < ((x56_l : Nat) : Int))) (
    Bm (want == (0 : Int)) (
      sB3 w0 c sd abort mine want lis kids_b kids_l kids_c i (!mine) w) (
      sB3 w0 c sd abort mine want lis kids_b kids_l kids_c i false w)) (
    sB3 w0 c sd abort mine want lis kids_b kids_l kids_c i false w)) = kstep Tryz.prog 293 Tryz.f49.results.toList (Tryz.f49.body.getD .skip) (hostlaw_World_End.RV R) (kvc Tryz.prog 293 Tryz.f49.results.toList (Tryz.f49.body.getD .skip) (hostlaw_World_End.RV R) [([(0, [1, 1, 1, 1, 1, 1, 0, 1, 0, 0, 0, 1]), (0, [1, 1, 1, 1, 1, 1, 0, 1, 0, 0, 1]), (2, [1, 1, 1, 1, 1, 1, 0, 1, 0, 0]), (1, [0]), (0, [1, 1, 1, 1, 1, 1, 1])], fun σ w => dP (slotOf σ 0) fun w0_ => dI .i64 (slotOf σ 1) fun c_ => dI .i64 (slotOf σ 2) fun sd_ => dB (slotOf σ 3) fun abort_ => dB (slotOf σ 10) fun mine_ => dI .i64 (slotOf σ 11) fun want_ => dB (slotOf σ 12) fun lis_ => dL (slotOf σ 13) fun kids_b_ kids_l_ kids_c_ => dI .i64 (slotOf σ 14) fun i_ => dB (slotOf σ 66) fun t66_ => sB3 w0_ c_ sd_ abort_ mine_ want_ lis_ kids_b_ kids_l_ kids_c_ i_ t66_ w)] 2000) [(0, [1, 1, 1, 1, 1, 1, 0, 1, 0, 0]), (2, [1, 1, 1, 1, 1, 1, 0, 1, 0, 0]), (1, [0]), (0, [1, 1, 1, 1, 1, 1, 1])] [(0, .pointer w0), (1, .int .i64 c), (2, .int .i64 sd), (3, .bool abort), (10, .bool mine), (11, .int .i64 want), (12, .bool lis), (13, .slice kids_b kids_l kids_c), (14, .int .i64 i)] w := by kernel_rfl
theorem hostlaw_World_End.L1b_sound {R : Bool → World → Prop} {N1 : Option Addr → Int → Int → Bool → Bool → Int → Bool → Option Addr → Nat → Nat → Int → World → Prop} (hN1 : ∀ w0 c sd abort mine want lis kids_b kids_l kids_c i w, N1 w0 c sd abort mine want lis kids_b kids_l kids_c i w → KW Tryz.prog 49 293 (hostlaw_World_End.RV R) ([(0, [1, 1, 1, 1, 1, 1, 0, 1, 0, 0]), (2, [1, 1, 1, 1, 1, 1, 0, 1, 0, 0]), (1, [0]), (0, [1, 1, 1, 1, 1, 1, 1])].map (toItem (Tryz.f49.body.getD .skip))) [(0, .pointer w0), (1, .int .i64 c), (2, .int .i64 sd), (3, .bool abort), (10, .bool mine), (11, .int .i64 want), (12, .bool lis), (13, .slice kids_b kids_l kids_c), (14, .int .i64 i)] w) (w0 : Option Addr) (c sd : Int) (abort mine : Bool) (want : Int) (lis : Bool) (kids_b : Option Addr) (kids_l kids_c : Nat) (i : Int) (w : World) (h : hostlaw_World_End.L1b w0 c sd abort mine want lis kids_b kids_l kids_c i w  N1 R) :
    KW Tryz.prog 49 293 (hostlaw_World_End.RV R) ([(0, [1, 1, 1, 1, 1, 1, 0, 1, 0, 0]), (2, [1, 1, 1, 1, 1, 1, 0, 1, 0, 0]), (1, [0]), (0, [1, 1, 1, 1, 1, 1, 1])].map (toItem (Tryz.f49.body.getD .skip))) [(0, .pointer w0), (1, .int .i64 c), (2, .int .i64 sd), (3, .bool abort), (10, .bool mine), (11, .int .i64 want), (12, .bool lis), (13, .slice kids_b kids_l kids_c), (14, .int .i64 i)] w := by
  exact block_spec Tryz.func49 Tryz.mixed (stops_cons (fun σ w h => by
      obtain ⟨w0_, e0, h⟩ := dP_elim h
      obtain ⟨c_, e1, h⟩ := dI_elim h
      obtain ⟨sd_, e2, h⟩ := dI_elim h
      obtain ⟨abort_, e3, h⟩ := dB_elim h
      obtain ⟨mine_, e4, h⟩ := dB_elim h
      obtain ⟨want_, e5, h⟩ := dI_elim h
      obtain ⟨lis_, e6, h⟩ := dB_elim h
      obtain ⟨kids_b_, kids_l_, kids_c_, e7, h⟩ := dL_elim h
      obtain ⟨i_, e8, h⟩ := dI_elim h
      obtain ⟨t66_, e9, h⟩ := dB_elim h
      exact (hostlaw_World_End.B3_sound hN1 w0_ c_ sd_ abort_ mine_ want_ lis_ kids_b_ kids_l_ kids_c_ i_ t66_ w h).weaken (Sub.cons (Sub.cons (Sub.cons (Sub.cons (Sub.cons (Sub.cons (Sub.cons (Sub.cons (Sub.cons (Sub.cons (Sub.nil _) e9) e8) e7) e6) e5) e4) e3) e2) e1) e0)) stops_nil) (Eq.mp (hostlaw_World_End.L1b_eq w0 c sd abort mine want lis kids_b kids_l kids_c i w  N1 R (fun w0_ c_ sd_ abort_ mine_ want_ lis_ kids_b_ kids_l_ kids_c_ i_ t66_ w => hostlaw_World_End.B3 w0_ c_ sd_ abort_ mine_ want_ lis_ kids_b_ kids_l_ kids_c_ i_ t66_ w N1 R)) h)
def hostlaw_World_End.L1 (w0 : Option Addr) (c sd : Int) (abort mine : Bool) (want : Int) (lis : Bool) (kids_b : Option Addr) (kids_l kids_c : Nat) (i : Int) (w : World)  (R : Bool → World → Prop) : Prop :=
  ∃ (I : Nat → Option Addr → Int → Int → Bool → Bool → Int → Bool → Option Addr → Nat → Nat → Int → World → Prop) (m : Nat), I m w0 c sd abort mine want lis kids_b kids_l kids_c i w ∧ ∀ m w0 c sd abort mine want lis kids_b kids_l kids_c i w, I m w0 c sd abort mine want lis kids_b kids_l kids_c i w → hostlaw_World_End.L1b w0 c sd abort mine want lis kids_b kids_l kids_c i w  (fun w0' c' sd' abort' mine' want' lis' kids_b' kids_l' kids_c' i' w' => ∃ m', m' < m ∧ I m' w0' c' sd' abort' mine' want' lis' kids_b' kids_l' kids_c' i' w') R
theorem hostlaw_World_End.L1_sound {R : Bool → World → Prop}  (w0 : Option Addr) (c sd : Int) (abort mine : Bool) (want : Int) (lis : Bool) (kids_b : Option Addr) (kids_l kids_c : Nat) (i : Int) (w : World) (h : hostlaw_World_End.L1 w0 c sd abort mine want lis kids_b kids_l kids_c i w  R) :
    KW Tryz.prog 49 293 (hostlaw_World_End.RV R) ([(0, [1, 1, 1, 1, 1, 1, 0, 1, 0, 0]), (2, [1, 1, 1, 1, 1, 1, 0, 1, 0, 0]), (1, [0]), (0, [1, 1, 1, 1, 1, 1, 1])].map (toItem (Tryz.f49.body.getD .skip))) [(0, .pointer w0), (1, .int .i64 c), (2, .int .i64 sd), (3, .bool abort), (10, .bool mine), (11, .int .i64 want), (12, .bool lis), (13, .slice kids_b kids_l kids_c), (14, .int .i64 i)] w := by
  obtain ⟨I, m, hBase, hr⟩ := h
  refine KW.loop (fun m σ w => ∃ (w0 : Option Addr) (c sd : Int) (abort mine : Bool) (want : Int) (lis : Bool) (kids_b : Option Addr) (kids_l kids_c : Nat) (i : Int), σ = [(0, .pointer w0), (1, .int .i64 c), (2, .int .i64 sd), (3, .bool abort), (10, .bool mine), (11, .int .i64 want), (12, .bool lis), (13, .slice kids_b kids_l kids_c), (14, .int .i64 i)] ∧ I m w0 c sd abort mine want lis kids_b kids_l kids_c i w) ?_ m _ w ⟨w0, c, sd, abort, mine, want, lis, kids_b, kids_l, kids_c, i, rfl, hBase⟩
  rintro m ih σ w ⟨w0, c, sd, abort, mine, want, lis, kids_b, kids_l, kids_c, i, rfl, hI⟩
  exact hostlaw_World_End.L1b_sound  (N1 := fun w0' c' sd' abort' mine' want' lis' kids_b' kids_l' kids_c' i' w' => ∃ m', m' < m ∧ I m' w0' c' sd' abort' mine' want' lis' kids_b' kids_l' kids_c' i' w') (fun w0' c' sd' abort' mine' want' lis' kids_b' kids_l' kids_c' i' w' hx => by obtain ⟨m', hlt, hI'⟩ := hx; exact ih m' hlt _ w' ⟨w0', c', sd', abort', mine', want', lis', kids_b', kids_l', kids_c', i', rfl, hI'⟩) w0 c sd abort mine want lis kids_b kids_l kids_c i w (hr m w0 c sd abort mine want lis kids_b kids_l kids_c i w hI)
def hostlaw_World_End.B1 (w0 : Option Addr) (c sd : Int) (abort mine : Bool) (want : Int) (lis : Bool) (w : World)   (R : Bool → World → Prop) : Prop :=
  New (.cells #[] 3) w fun b49 w1 =>
  hostlaw_World_End.L1 w0 c sd abort mine want lis (some ⟨b49, 0, none⟩) 0 0 (0 : Int) w1  R
theorem hostlaw_World_End.B1_eq (w0 : Option Addr) (c sd : Int) (abort mine : Bool) (want : Int) (lis : Bool) (w : World)   (R : Bool → World → Prop) (sL1 : Option Addr → Int → Int → Bool → Bool → Int → Bool → Option Addr → Nat → Nat → Int → World → Prop) :
    (
  New (.cells #[] 3) w fun b49 w1 =>
  sL1 w0 c sd abort mine want lis (some ⟨b49, 0, none⟩) 0 0 (0 : Int) w1) = kstep Tryz.prog 293 Tryz.f49.results.toList (Tryz.f49.body.getD .skip) (hostlaw_World_End.RV R) (kvc Tryz.prog 293 Tryz.f49.results.toList (Tryz.f49.body.getD .skip) (hostlaw_World_End.RV R) [([(0, [1, 1, 1, 1, 1, 1, 0, 1, 0, 0]), (2, [1, 1, 1, 1, 1, 1, 0, 1, 0, 0]), (1, [0]), (0, [1, 1, 1, 1, 1, 1, 1])], fun σ w => dP (slotOf σ 0) fun w0_ => dI .i64 (slotOf σ 1) fun c_ => dI .i64 (slotOf σ 2) fun sd_ => dB (slotOf σ 3) fun abort_ => dB (slotOf σ 10) fun mine_ => dI .i64 (slotOf σ 11) fun want_ => dB (slotOf σ 12) fun lis_ => dL (slotOf σ 13) fun kids_b_ kids_l_ kids_c_ => dI .i64 (slotOf σ 14) fun i_ => sL1 w0_ c_ sd_ abort_ mine_ want_ lis_ kids_b_ kids_l_ kids_c_ i_ w)] 2000) [(0, [1, 1, 1, 1, 1])] [(0, .pointer w0), (1, .int .i64 c), (2, .int .i64 sd), (3, .bool abort), (10, .bool mine), (11, .int .i64 want), (12, .bool lis)] w := by kernel_rfl
theorem hostlaw_World_End.B1_sound {R : Bool → World → Prop}  (w0 : Option Addr) (c sd : Int) (abort mine : Bool) (want : Int) (lis : Bool) (w : World) (h : hostlaw_World_End.B1 w0 c sd abort mine want lis w   R) :
    KW Tryz.prog 49 293 (hostlaw_World_End.RV R) ([(0, [1, 1, 1, 1, 1])].map (toItem (Tryz.f49.body.getD .skip))) [(0, .pointer w0), (1, .int .i64 c), (2, .int .i64 sd), (3, .bool abort), (10, .bool mine), (11, .int .i64 want), (12, .bool lis)] w := by
  exact block_spec Tryz.func49 Tryz.mixed (stops_cons (fun σ w h => by
      obtain ⟨w0_, e0, h⟩ := dP_elim h
      obtain ⟨c_, e1, h⟩ := dI_elim h
      obtain ⟨sd_, e2, h⟩ := dI_elim h
      obtain ⟨abort_, e3, h⟩ := dB_elim h
      obtain ⟨mine_, e4, h⟩ := dB_elim h
      obtain ⟨want_, e5, h⟩ := dI_elim h
      obtain ⟨lis_, e6, h⟩ := dB_elim h
      obtain ⟨kids_b_, kids_l_, kids_c_, e7, h⟩ := dL_elim h
      obtain ⟨i_, e8, h⟩ := dI_elim h
      exact (hostlaw_World_End.L1_sound  w0_ c_ sd_ abort_ mine_ want_ lis_ kids_b_ kids_l_ kids_c_ i_ w h).weaken (Sub.cons (Sub.cons (Sub.cons (Sub.cons (Sub.cons (Sub.cons (Sub.cons (Sub.cons (Sub.cons (Sub.nil _) e8) e7) e6) e5) e4) e3) e2) e1) e0)) stops_nil) (Eq.mp (hostlaw_World_End.B1_eq w0 c sd abort mine want lis w   R (fun w0_ c_ sd_ abort_ mine_ want_ lis_ kids_b_ kids_l_ kids_c_ i_ w => hostlaw_World_End.L1 w0_ c_ sd_ abort_ mine_ want_ lis_ kids_b_ kids_l_ kids_c_ i_ w  R)) h)
def hostlaw_World_End.B2 (w0 : Option Addr) (c sd : Int) (abort : Bool) (s : Nat) (mine : Bool) (want : Int) (lis t44 : Bool) (w : World)   (R : Bool → World → Prop) : Prop :=
  Bm t44 (
    hostlaw_World_End.B1 w0 c sd abort mine (0 : Int) lis w  R) (
    Bm mine (
      LdP ⟨s, 8, none⟩ w fun x47 =>
      hostm_WantClose.Call x47 w fun r48 w1 =>
      hostlaw_World_End.B1 w0 c sd abort mine r48 lis w1  R) (
      hostlaw_World_End.B1 w0 c sd abort mine want lis w  R))
theorem hostlaw_World_End.B2_eq (w0 : Option Addr) (c sd : Int) (abort : Bool) (s : Nat) (mine : Bool) (want : Int) (lis t44 : Bool) (w : World)   (R : Bool → World → Prop) (sB1 : Option Addr → Int → Int → Bool → Bool → Int → Bool → World → Prop) :
    (
  Bm t44 (
    sB1 w0 c sd abort mine (0 : Int) lis w) (
    Bm mine (
      LdP ⟨s, 8, none⟩ w fun x47 =>
      hostm_WantClose.Call x47 w fun r48 w1 =>
      sB1 w0 c sd abort mine r48 lis w1) (
      sB1 w0 c sd abort mine want lis w))) = kstep Tryz.prog 293 Tryz.f49.results.toList (Tryz.f49.body.getD .skip) (hostlaw_World_End.RV R) (kvc Tryz.prog 293 Tryz.f49.results.toList (Tryz.f49.body.getD .skip) (hostlaw_World_End.RV R) [([(0, [1, 1, 1, 1, 1])], fun σ w => dP (slotOf σ 0) fun w0_ => dI .i64 (slotOf σ 1) fun c_ => dI .i64 (slotOf σ 2) fun sd_ => dB (slotOf σ 3) fun abort_ => dB (slotOf σ 10) fun mine_ => dI .i64 (slotOf σ 11) fun want_ => dB (slotOf σ 12) fun lis_ => sB1 w0_ c_ sd_ abort_ mine_ want_ lis_ w)] 2000) [(0, [1, 1, 1, 1, 0, 1, 1, 1]), (0, [1, 1, 1, 1, 1])] [(0, .pointer w0), (1, .int .i64 c), (2, .int .i64 sd), (3, .bool abort), (9, .pointer (some ⟨s, 0, none⟩)), (10, .bool mine), (11, .int .i64 want), (12, .bool lis), (44, .bool t44)] w := by kernel_rfl
theorem hostlaw_World_End.B2_sound {R : Bool → World → Prop}  (w0 : Option Addr) (c sd : Int) (abort : Bool) (s : Nat) (mine : Bool) (want : Int) (lis t44 : Bool) (w : World) (h : hostlaw_World_End.B2 w0 c sd abort s mine want lis t44 w   R) :
    KW Tryz.prog 49 293 (hostlaw_World_End.RV R) ([(0, [1, 1, 1, 1, 0, 1, 1, 1]), (0, [1, 1, 1, 1, 1])].map (toItem (Tryz.f49.body.getD .skip))) [(0, .pointer w0), (1, .int .i64 c), (2, .int .i64 sd), (3, .bool abort), (9, .pointer (some ⟨s, 0, none⟩)), (10, .bool mine), (11, .int .i64 want), (12, .bool lis), (44, .bool t44)] w := by
  exact block_spec Tryz.func49 Tryz.mixed (stops_cons (fun σ w h => by
      obtain ⟨w0_, e0, h⟩ := dP_elim h
      obtain ⟨c_, e1, h⟩ := dI_elim h
      obtain ⟨sd_, e2, h⟩ := dI_elim h
      obtain ⟨abort_, e3, h⟩ := dB_elim h
      obtain ⟨mine_, e4, h⟩ := dB_elim h
      obtain ⟨want_, e5, h⟩ := dI_elim h
      obtain ⟨lis_, e6, h⟩ := dB_elim h
      exact (hostlaw_World_End.B1_sound  w0_ c_ sd_ abort_ mine_ want_ lis_ w h).weaken (Sub.cons (Sub.cons (Sub.cons (Sub.cons (Sub.cons (Sub.cons (Sub.cons (Sub.nil _) e6) e5) e4) e3) e2) e1) e0)) stops_nil) (Eq.mp (hostlaw_World_End.B2_eq w0 c sd abort s mine want lis t44 w   R (fun w0_ c_ sd_ abort_ mine_ want_ lis_ w => hostlaw_World_End.B1 w0_ c_ sd_ abort_ mine_ want_ lis_ w  R)) h)
def hostlaw_World_End.B0 (w0 : Option Addr) (c sd : Int) (abort : Bool) (w : World)   (R : Bool → World → Prop) : Prop :=
  hostlaw_World_ours.Call w0 c sd w fun r33_0_0 r33_0_1 r33_0_2 r33_0_3 r33_0_4 r33_0_5 r33_0_6 r33_0_7 r33_0_8 r33_1 w1 =>
  New (.cells #[.int .i64 (0 : Int), .int .i64 (0 : Int), .int .i64 (0 : Int), .int .i64 (0 : Int), .int .i64 (0 : Int), .int .i64 (0 : Int), .int .i64 (0 : Int), .bool false, .pointer none] 69) w1 fun s_ w2 =>
  Sts [.int .i64 r33_0_0, .int .i64 r33_0_1, .int .i64 r33_0_2, .int .i64 r33_0_3, .int .i64 r33_0_4, .int .i64 r33_0_5, .int .i64 r33_0_6, .bool r33_0_7, .pointer r33_0_8] ⟨s_, 0, none⟩ 0 w2 fun w3 =>
  hostlaw_World_isListener.Call w0 c sd w3 fun r39 w4 =>
  Bm r39 (
    hostlaw_World_End.B1 w0 c sd abort r33_1 (0 : Int) r39 w4  R) (
    Bm r33_1 (
      hostlaw_World_End.B2 w0 c sd abort s_ r33_1 (21 : Int) r39 abort w4  R) (
      hostlaw_World_End.B2 w0 c sd abort s_ r33_1 (21 : Int) r39 false w4  R))
theorem hostlaw_World_End.B0_eq (w0 : Option Addr) (c sd : Int) (abort : Bool) (w : World)   (R : Bool → World → Prop) (sB1 : Option Addr → Int → Int → Bool → Bool → Int → Bool → World → Prop) (sB2 : Option Addr → Int → Int → Bool → Nat → Bool → Int → Bool → Bool → World → Prop) :
    (
  hostlaw_World_ours.Call w0 c sd w fun r33_0_0 r33_0_1 r33_0_2 r33_0_3 r33_0_4 r33_0_5 r33_0_6 r33_0_7 r33_0_8 r33_1 w1 =>
  New (.cells #[.int .i64 (0 : Int), .int .i64 (0 : Int), .int .i64 (0 : Int), .int .i64 (0 : Int), .int .i64 (0 : Int), .int .i64 (0 : Int), .int .i64 (0 : Int), .bool false, .pointer none] 69) w1 fun s_ w2 =>
  Sts [.int .i64 r33_0_0, .int .i64 r33_0_1, .int .i64 r33_0_2, .int .i64 r33_0_3, .int .i64 r33_0_4, .int .i64 r33_0_5, .int .i64 r33_0_6, .bool r33_0_7, .pointer r33_0_8] ⟨s_, 0, none⟩ 0 w2 fun w3 =>
  hostlaw_World_isListener.Call w0 c sd w3 fun r39 w4 =>
  Bm r39 (
    sB1 w0 c sd abort r33_1 (0 : Int) r39 w4) (
    Bm r33_1 (
      sB2 w0 c sd abort s_ r33_1 (21 : Int) r39 abort w4) (
      sB2 w0 c sd abort s_ r33_1 (21 : Int) r39 false w4))) = kstep Tryz.prog 293 Tryz.f49.results.toList (Tryz.f49.body.getD .skip) (hostlaw_World_End.RV R) (kvc Tryz.prog 293 Tryz.f49.results.toList (Tryz.f49.body.getD .skip) (hostlaw_World_End.RV R) [([(0, [1, 1, 1, 1, 1])], fun σ w => dP (slotOf σ 0) fun w0_ => dI .i64 (slotOf σ 1) fun c_ => dI .i64 (slotOf σ 2) fun sd_ => dB (slotOf σ 3) fun abort_ => dB (slotOf σ 10) fun mine_ => dI .i64 (slotOf σ 11) fun want_ => dB (slotOf σ 12) fun lis_ => sB1 w0_ c_ sd_ abort_ mine_ want_ lis_ w),
    ([(0, [1, 1, 1, 1, 0, 1, 1, 1]), (0, [1, 1, 1, 1, 1])], fun σ w => dP (slotOf σ 0) fun w0_ => dI .i64 (slotOf σ 1) fun c_ => dI .i64 (slotOf σ 2) fun sd_ => dB (slotOf σ 3) fun abort_ => dK (slotOf σ 9) fun s_ => dB (slotOf σ 10) fun mine_ => dI .i64 (slotOf σ 11) fun want_ => dB (slotOf σ 12) fun lis_ => dB (slotOf σ 44) fun t44_ => sB2 w0_ c_ sd_ abort_ s_ mine_ want_ lis_ t44_ w)] 2000) [(0, [])] [(0, .pointer w0), (1, .int .i64 c), (2, .int .i64 sd), (3, .bool abort)] w := by kernel_rfl
theorem hostlaw_World_End.B0_sound {R : Bool → World → Prop}  (w0 : Option Addr) (c sd : Int) (abort : Bool) (w : World) (h : hostlaw_World_End.B0 w0 c sd abort w   R) :
    KW Tryz.prog 49 293 (hostlaw_World_End.RV R) ([(0, [])].map (toItem (Tryz.f49.body.getD .skip))) [(0, .pointer w0), (1, .int .i64 c), (2, .int .i64 sd), (3, .bool abort)] w := by
  exact block_spec Tryz.func49 Tryz.mixed (stops_cons (fun σ w h => by
      obtain ⟨w0_, e0, h⟩ := dP_elim h
      obtain ⟨c_, e1, h⟩ := dI_elim h
      obtain ⟨sd_, e2, h⟩ := dI_elim h
      obtain ⟨abort_, e3, h⟩ := dB_elim h
      obtain ⟨mine_, e4, h⟩ := dB_elim h
      obtain ⟨want_, e5, h⟩ := dI_elim h
      obtain ⟨lis_, e6, h⟩ := dB_elim h
      exact (hostlaw_World_End.B1_sound  w0_ c_ sd_ abort_ mine_ want_ lis_ w h).weaken (Sub.cons (Sub.cons (Sub.cons (Sub.cons (Sub.cons (Sub.cons (Sub.cons (Sub.nil _) e6) e5) e4) e3) e2) e1) e0)) (stops_cons (fun σ w h => by
      obtain ⟨w0_, e0, h⟩ := dP_elim h
      obtain ⟨c_, e1, h⟩ := dI_elim h
      obtain ⟨sd_, e2, h⟩ := dI_elim h
      obtain ⟨abort_, e3, h⟩ := dB_elim h
      obtain ⟨s_, e4, h⟩ := dK_elim h
      obtain ⟨mine_, e5, h⟩ := dB_elim h
      obtain ⟨want_, e6, h⟩ := dI_elim h
      obtain ⟨lis_, e7, h⟩ := dB_elim h
      obtain ⟨t44_, e8, h⟩ := dB_elim h
      exact (hostlaw_World_End.B2_sound  w0_ c_ sd_ abort_ s_ mine_ want_ lis_ t44_ w h).weaken (Sub.cons (Sub.cons (Sub.cons (Sub.cons (Sub.cons (Sub.cons (Sub.cons (Sub.cons (Sub.cons (Sub.nil _) e8) e7) e6) e5) e4) e3) e2) e1) e0)) stops_nil)) (Eq.mp (hostlaw_World_End.B0_eq w0 c sd abort w   R (fun w0_ c_ sd_ abort_ mine_ want_ lis_ w => hostlaw_World_End.B1 w0_ c_ sd_ abort_ mine_ want_ lis_ w  R) (fun w0_ c_ sd_ abort_ s_ mine_ want_ lis_ t44_ w => hostlaw_World_End.B2 w0_ c_ sd_ abort_ s_ mine_ want_ lis_ t44_ w  R)) h)
theorem hostlaw_World_End.sound (w0 : Option Addr) (c sd : Int) (abort : Bool) (w : World) (R : Bool → World → Prop) (h : hostlaw_World_End.B0 w0 c sd abort w R) : hostlaw_World_End.Call w0 c sd abort w R := by
  have hc := calls_of_block (args := #[.pointer w0, .int .i64 c, .int .i64 sd, .bool abort]) Tryz.func49 (body := (Tryz.f49.body.getD .skip)) (by kernel_rfl) (by kernel_rfl) (args_slot _) (hostlaw_World_End.B0_sound w0 c sd abort w h)
  exact hc.mono fun e w' he => by
    obtain ⟨v, rfl, hv⟩ := he
    exact hostlaw_World_End.RV_elim hv
end Go.Proofs.Qxb6500424aGreat
