import Derived.Test.Qxb6500424aGreatSig
set_option maxRecDepth 100000
set_option linter.unusedVariables false
open Go.Vc
namespace Go.Proofs.Qxb6500424aGreat
def hostlaw_World_Deliver.B3 (w0 : Option Addr) (d : Int) (fr_b : Option Addr) (fr_l fr_c : Nat) (w : World)   (R : Bool → World → Prop) : Prop :=
  hostlaw_World_Put.Call w0 d fr_b fr_l fr_c w fun w1 =>
  hostlaw_World_Look.Call w0 w1 fun r92 w2 =>
  R r92 w2
theorem hostlaw_World_Deliver.B3_eq (w0 : Option Addr) (d : Int) (fr_b : Option Addr) (fr_l fr_c : Nat) (w : World)   (R : Bool → World → Prop)  :
    (
  hostlaw_World_Put.Call w0 d fr_b fr_l fr_c w fun w1 =>
  hostlaw_World_Look.Call w0 w1 fun r92 w2 =>
  R r92 w2) = kstep Tryz.prog 93 Tryz.f38.results.toList (Tryz.f38.body.getD .skip) (hostlaw_World_Deliver.RV R) (kvc Tryz.prog 93 Tryz.f38.results.toList (Tryz.f38.body.getD .skip) (hostlaw_World_Deliver.RV R) [] 2000) [(0, [1, 1, 1, 1, 1, 1, 1, 1, 1, 1])] [(0, .pointer w0), (7, .int .i64 d), (9, .slice fr_b fr_l fr_c)] w := by kernel_rfl
theorem hostlaw_World_Deliver.B3_sound {R : Bool → World → Prop}  (w0 : Option Addr) (d : Int) (fr_b : Option Addr) (fr_l fr_c : Nat) (w : World) (h : hostlaw_World_Deliver.B3 w0 d fr_b fr_l fr_c w   R) :
    KW Tryz.prog 38 93 (hostlaw_World_Deliver.RV R) ([(0, [1, 1, 1, 1, 1, 1, 1, 1, 1, 1])].map (toItem (Tryz.f38.body.getD .skip))) [(0, .pointer w0), (7, .int .i64 d), (9, .slice fr_b fr_l fr_c)] w := by
  exact block_spec Tryz.func38 Tryz.mixed stops_nil (Eq.mp (hostlaw_World_Deliver.B3_eq w0 d fr_b fr_l fr_c w   R ) h)
def hostlaw_World_Deliver.B2 (w0 raw_b : Option Addr) (raw_l raw_c : Nat) (d : Int) (t38 : Bool) (w : World)   (R : Bool → World → Prop) : Prop :=
  Bm t38 (
    R true w) (
    Pn w0 fun a =>
    LdP (a.add 30) w.drew fun x42 =>
    Pn x42 fun a_1 =>
    (0 ≤ d ∧ d < ((3 : Nat) : Int)) ∧
    LdI .i64 (Addr.add (a_1.add 1) (d.toNat * 1)) w.drew fun x47 =>
    Pn x42 fun a_2 =>
    (0 ≤ d ∧ d < ((3 : Nat) : Int)) ∧
    Sts [.int .i64 (IntKind.i64.wrap (x47 + (1 : Int)))] (Addr.add (a_2.add 1) (d.toNat * 1)) 0 w.drew fun w1 =>
    api_CopyBytes.Call raw_b raw_l raw_c w1 fun r53_b r53_l r53_c w2 =>
    Pn w0 fun a_3 =>
    (0 ≤ d ∧ d < ((3 : Nat) : Int)) ∧
    LdP (Addr.add a_3 (d.toNat * 1)) w2 fun x59 =>
    host_Host_Input.Call x59 r53_b r53_l r53_c w2 fun r61_b r61_l r61_c w3 =>
    hostlaw_Scribble.Call r53_b r53_l r53_c w3 fun w4 =>
    Pn w0 fun a_4 =>
    LdB (a_4.add 27) w4 fun x67 =>
    Bm x67 (
      api_CopyBytes.Call raw_b raw_l raw_c w4 fun r69_b r69_l r69_c w5 =>
      Pn w0 fun a_5 =>
      (0 ≤ d ∧ d < ((3 : Nat) : Int)) ∧
      LdP (Addr.add (a_5.add 24) (d.toNat * 1)) w5 fun x75 =>
      host_Host_Input.Call x75 r69_b r69_l r69_c w5 fun r77_b r77_l r77_c w6 =>
      hostlaw_Scribble.Call r69_b r69_l r69_c w6 fun w7 =>
      hostlaw_SameFrames.Call r61_b r61_l r61_c r77_b r77_l r77_c w7 fun r82 w8 =>
      Bm (!r82) (
        R false w8) (
        hostlaw_World_OwnAll.Call w0 r77_b r77_l r77_c w8 fun w9 =>
        hostlaw_World_Deliver.B3 w0 d r61_b r61_l r61_c w9  R)) (
      hostlaw_World_Deliver.B3 w0 d r61_b r61_l r61_c w4  R))
theorem hostlaw_World_Deliver.B2_eq (w0 raw_b : Option Addr) (raw_l raw_c : Nat) (d : Int) (t38 : Bool) (w : World)   (R : Bool → World → Prop) (sB3 : Option Addr → Int → Option Addr → Nat → Nat → World → Prop) :
    (
  Bm t38 (
    R true w) (
    Pn w0 fun a =>
    LdP (a.add 30) w.drew fun x42 =>
    Pn x42 fun a_1 =>
    (0 ≤ d ∧ d < ((3 : Nat) : Int)) ∧
    LdI .i64 (Addr.add (a_1.add 1) (d.toNat * 1)) w.drew fun x47 =>
    Pn x42 fun a_2 =>
    (0 ≤ d ∧ d < ((3 : Nat) : Int)) ∧
    Sts [.int .i64 (IntKind.i64.wrap (x47 + (1 : Int)))] (Addr.add (a_2.add 1) (d.toNat * 1)) 0 w.drew fun w1 =>
    api_CopyBytes.Call raw_b raw_l raw_c w1 fun r53_b r53_l r53_c w2 =>
    Pn w0 fun a_3 =>
    (0 ≤ d ∧ d < ((3 : Nat) : Int)) ∧
    LdP (Addr.add a_3 (d.toNat * 1)) w2 fun x59 =>
    host_Host_Input.Call x59 r53_b r53_l r53_c w2 fun r61_b r61_l r61_c w3 =>
    hostlaw_Scribble.Call r53_b r53_l r53_c w3 fun w4 =>
    Pn w0 fun a_4 =>
    LdB (a_4.add 27) w4 fun x67 =>
    Bm x67 (
      api_CopyBytes.Call raw_b raw_l raw_c w4 fun r69_b r69_l r69_c w5 =>
      Pn w0 fun a_5 =>
      (0 ≤ d ∧ d < ((3 : Nat) : Int)) ∧
      LdP (Addr.add (a_5.add 24) (d.toNat * 1)) w5 fun x75 =>
      host_Host_Input.Call x75 r69_b r69_l r69_c w5 fun r77_b r77_l r77_c w6 =>
      hostlaw_Scribble.Call r69_b r69_l r69_c w6 fun w7 =>
      hostlaw_SameFrames.Call r61_b r61_l r61_c r77_b r77_l r77_c w7 fun r82 w8 =>
      Bm (!r82) (
        R false w8) (
        hostlaw_World_OwnAll.Call w0 r77_b r77_l r77_c w8 fun w9 =>
        sB3 w0 d r61_b r61_l r61_c w9)) (
      sB3 w0 d r61_b r61_l r61_c w4))) = kstep Tryz.prog 93 Tryz.f38.results.toList (Tryz.f38.body.getD .skip) (hostlaw_World_Deliver.RV R) (kvc Tryz.prog 93 Tryz.f38.results.toList (Tryz.f38.body.getD .skip) (hostlaw_World_Deliver.RV R) [([(0, [1, 1, 1, 1, 1, 1, 1, 1, 1, 1])], fun σ w => dP (slotOf σ 0) fun w0_ => dI .i64 (slotOf σ 7) fun d_ => dL (slotOf σ 9) fun fr_b_ fr_l_ fr_c_ => sB3 w0_ d_ fr_b_ fr_l_ fr_c_ w)] 2000) [(0, [1, 1, 1, 1, 0, 1]), (0, [1, 1, 1, 1, 1])] [(0, .pointer w0), (5, .slice raw_b raw_l raw_c), (7, .int .i64 d), (38, .bool t38)] w := by kernel_rfl
theorem hostlaw_World_Deliver.B2_sound {R : Bool → World → Prop}  (w0 raw_b : Option Addr) (raw_l raw_c : Nat) (d : Int) (t38 : Bool) (w : World) (h : hostlaw_World_Deliver.B2 w0 raw_b raw_l raw_c d t38 w   R) :
    KW Tryz.prog 38 93 (hostlaw_World_Deliver.RV R) ([(0, [1, 1, 1, 1, 0, 1]), (0, [1, 1, 1, 1, 1])].map (toItem (Tryz.f38.body.getD .skip))) [(0, .pointer w0), (5, .slice raw_b raw_l raw_c), (7, .int .i64 d), (38, .bool t38)] w := by
  exact block_spec Tryz.func38 Tryz.mixed (stops_cons (fun σ w h => by
      obtain ⟨w0_, e0, h⟩ := dP_elim h
      obtain ⟨d_, e1, h⟩ := dI_elim h
      obtain ⟨fr_b_, fr_l_, fr_c_, e2, h⟩ := dL_elim h
      exact (hostlaw_World_Deliver.B3_sound  w0_ d_ fr_b_ fr_l_ fr_c_ w h).weaken (Sub.cons (Sub.cons (Sub.cons (Sub.nil _) e2) e1) e0)) stops_nil) (Eq.mp (hostlaw_World_Deliver.B2_eq w0 raw_b raw_l raw_c d t38 w   R (fun w0_ d_ fr_b_ fr_l_ fr_c_ w => hostlaw_World_Deliver.B3 w0_ d_ fr_b_ fr_l_ fr_c_ w  R)) h)
def hostlaw_World_Deliver.B1 (w0 raw_b : Option Addr) (raw_l raw_c : Nat) (t27 : Bool) (w : World)   (R : Bool → World → Prop) : Prop :=
  Bm t27 (
    R true w) (
    Pn raw_b fun a =>
    (0 ≤ (0 : Int) ∧ (0 : Int) < ((raw_l : Nat) : Int)) ∧
    LdI .u8 a w fun x30 =>
    Bm (decide ((IntKind.i64.wrap ((IntKind.i64.wrap x30) - (1 : Int))) < (0 : Int))) (
      hostlaw_World_Deliver.B2 w0 raw_b raw_l raw_c (IntKind.i64.wrap ((IntKind.i64.wrap x30) - (1 : Int))) true w  R) (
      hostlaw_World_Deliver.B2 w0 raw_b raw_l raw_c (IntKind.i64.wrap ((IntKind.i64.wrap x30) - (1 : Int))) (decide ((IntKind.i64.wrap ((IntKind.i64.wrap x30) - (1 : Int))) ≥ (3 : Int))) w  R))
theorem hostlaw_World_Deliver.B1_eq (w0 raw_b : Option Addr) (raw_l raw_c : Nat) (t27 : Bool) (w : World)   (R : Bool → World → Prop) (sB2 : Option Addr → Option Addr → Nat → Nat → Int → Bool → World → Prop) :
    (
  Bm t27 (
    R true w) (
    Pn raw_b fun a =>
    (0 ≤ (0 : Int) ∧ (0 : Int) < ((raw_l : Nat) : Int)) ∧
    LdI .u8 a w fun x30 =>
    Bm (decide ((IntKind.i64.wrap ((IntKind.i64.wrap x30) - (1 : Int))) < (0 : Int))) (
      sB2 w0 raw_b raw_l raw_c (IntKind.i64.wrap ((IntKind.i64.wrap x30) - (1 : Int))) true w) (
      sB2 w0 raw_b raw_l raw_c (IntKind.i64.wrap ((IntKind.i64.wrap x30) - (1 : Int))) (decide ((IntKind.i64.wrap ((IntKind.i64.wrap x30) - (1 : Int))) ≥ (3 : Int))) w))) = kstep Tryz.prog 93 Tryz.f38.results.toList (Tryz.f38.body.getD .skip) (hostlaw_World_Deliver.RV R) (kvc Tryz.prog 93 Tryz.f38.results.toList (Tryz.f38.body.getD .skip) (hostlaw_World_Deliver.RV R) [([(0, [1, 1, 1, 1, 0, 1]), (0, [1, 1, 1, 1, 1])], fun σ w => dP (slotOf σ 0) fun w0_ => dL (slotOf σ 5) fun raw_b_ raw_l_ raw_c_ => dI .i64 (slotOf σ 7) fun d_ => dB (slotOf σ 38) fun t38_ => sB2 w0_ raw_b_ raw_l_ raw_c_ d_ t38_ w)] 2000) [(0, [1, 1, 0, 1]), (0, [1, 1, 1])] [(0, .pointer w0), (5, .slice raw_b raw_l raw_c), (27, .bool t27)] w := by kernel_rfl
theorem hostlaw_World_Deliver.B1_sound {R : Bool → World → Prop}  (w0 raw_b : Option Addr) (raw_l raw_c : Nat) (t27 : Bool) (w : World) (h : hostlaw_World_Deliver.B1 w0 raw_b raw_l raw_c t27 w   R) :
    KW Tryz.prog 38 93 (hostlaw_World_Deliver.RV R) ([(0, [1, 1, 0, 1]), (0, [1, 1, 1])].map (toItem (Tryz.f38.body.getD .skip))) [(0, .pointer w0), (5, .slice raw_b raw_l raw_c), (27, .bool t27)] w := by
  exact block_spec Tryz.func38 Tryz.mixed (stops_cons (fun σ w h => by
      obtain ⟨w0_, e0, h⟩ := dP_elim h
      obtain ⟨raw_b_, raw_l_, raw_c_, e1, h⟩ := dL_elim h
      obtain ⟨d_, e2, h⟩ := dI_elim h
      obtain ⟨t38_, e3, h⟩ := dB_elim h
      exact (hostlaw_World_Deliver.B2_sound  w0_ raw_b_ raw_l_ raw_c_ d_ t38_ w h).weaken (Sub.cons (Sub.cons (Sub.cons (Sub.cons (Sub.nil _) e3) e2) e1) e0)) stops_nil) (Eq.mp (hostlaw_World_Deliver.B1_eq w0 raw_b raw_l raw_c t27 w   R (fun w0_ raw_b_ raw_l_ raw_c_ d_ t38_ w => hostlaw_World_Deliver.B2 w0_ raw_b_ raw_l_ raw_c_ d_ t38_ w  R)) h)
def hostlaw_World_Deliver.B0 (w0 : Option Addr) (i : Int) (w : World)   (R : Bool → World → Prop) : Prop :=
  Pn w0 fun a =>
  LdP (a.add 29) w fun x16 =>
  wirem_Wire_Take.Call x16 i w fun r18_0_b r18_0_l r18_0_c r18_1 w1 =>
  Bm (!r18_1) (
    hostlaw_World_Deliver.B1 w0 r18_0_b r18_0_l r18_0_c true w1  R) (
    hostlaw_World_Deliver.B1 w0 r18_0_b r18_0_l r18_0_c (((r18_0_l : Nat) : Int) == (0 : Int)) w1  R)
theorem hostlaw_World_Deliver.B0_eq (w0 : Option Addr) (i : Int) (w : World)   (R : Bool → World → Prop) (sB1 : Option Addr → Option Addr → Nat → Nat → Bool → World → Prop) :
    (
  Pn w0 fun a =>
  LdP (a.add 29) w fun x16 =>
  wirem_Wire_Take.Call x16 i w fun r18_0_b r18_0_l r18_0_c r18_1 w1 =>
  Bm (!r18_1) (
    sB1 w0 r18_0_b r18_0_l r18_0_c true w1) (
    sB1 w0 r18_0_b r18_0_l r18_0_c (((r18_0_l : Nat) : Int) == (0 : Int)) w1)) = kstep Tryz.prog 93 Tryz.f38.results.toList (Tryz.f38.body.getD .skip) (hostlaw_World_Deliver.RV R) (kvc Tryz.prog 93 Tryz.f38.results.toList (Tryz.f38.body.getD .skip) (hostlaw_World_Deliver.RV R) [([(0, [1, 1, 0, 1]), (0, [1, 1, 1])], fun σ w => dP (slotOf σ 0) fun w0_ => dL (slotOf σ 5) fun raw_b_ raw_l_ raw_c_ => dB (slotOf σ 27) fun t27_ => sB1 w0_ raw_b_ raw_l_ raw_c_ t27_ w)] 2000) [(0, [])] [(0, .pointer w0), (1, .int .i64 i)] w := by kernel_rfl
theorem hostlaw_World_Deliver.B0_sound {R : Bool → World → Prop}  (w0 : Option Addr) (i : Int) (w : World) (h : hostlaw_World_Deliver.B0 w0 i w   R) :
    KW Tryz.prog 38 93 (hostlaw_World_Deliver.RV R) ([(0, [])].map (toItem (Tryz.f38.body.getD .skip))) [(0, .pointer w0), (1, .int .i64 i)] w := by
  exact block_spec Tryz.func38 Tryz.mixed (stops_cons (fun σ w h => by
      obtain ⟨w0_, e0, h⟩ := dP_elim h
      obtain ⟨raw_b_, raw_l_, raw_c_, e1, h⟩ := dL_elim h
      obtain ⟨t27_, e2, h⟩ := dB_elim h
      exact (hostlaw_World_Deliver.B1_sound  w0_ raw_b_ raw_l_ raw_c_ t27_ w h).weaken (Sub.cons (Sub.cons (Sub.cons (Sub.nil _) e2) e1) e0)) stops_nil) (Eq.mp (hostlaw_World_Deliver.B0_eq w0 i w   R (fun w0_ raw_b_ raw_l_ raw_c_ t27_ w => hostlaw_World_Deliver.B1 w0_ raw_b_ raw_l_ raw_c_ t27_ w  R)) h)
theorem hostlaw_World_Deliver.sound (w0 : Option Addr) (i : Int) (w : World) (R : Bool → World → Prop) (h : hostlaw_World_Deliver.B0 w0 i w R) : hostlaw_World_Deliver.Call w0 i w R := by
  have hc := calls_of_block (args := #[.pointer w0, .int .i64 i]) Tryz.func38 (body := (Tryz.f38.body.getD .skip)) (by kernel_rfl) (by kernel_rfl) (args_slot _) (hostlaw_World_Deliver.B0_sound w0 i w h)
  exact hc.mono fun e w' he => by
    obtain ⟨v, rfl, hv⟩ := he
    exact hostlaw_World_Deliver.RV_elim hv
def hostlaw_World_Tick.B1 (w0 : Option Addr) (d : Int) (fr_b : Option Addr) (fr_l fr_c : Nat) (w : World) (N1 : Option Addr → Int → World → Prop)  (R : Bool → World → Prop) : Prop :=
  Pn w0 fun a =>
  (0 ≤ d ∧ d < ((3 : Nat) : Int)) ∧
  Sts [.int .i64 (0 : Int)] (Addr.add (a.add 40) (d.toNat * 1)) 0 w fun w1 =>
  hostlaw_World_Put.Call w0 d fr_b fr_l fr_c w1 fun w2 =>
  N1 w0 (IntKind.i64.wrap (d + (1 : Int))) w2
theorem hostlaw_World_Tick.B1_eq (w0 : Option Addr) (d : Int) (fr_b : Option Addr) (fr_l fr_c : Nat) (w : World) (N1 : Option Addr → Int → World → Prop)  (R : Bool → World → Prop)  :
    (
  Pn w0 fun a =>
  (0 ≤ d ∧ d < ((3 : Nat) : Int)) ∧
  Sts [.int .i64 (0 : Int)] (Addr.add (a.add 40) (d.toNat * 1)) 0 w fun w1 =>
  hostlaw_World_Put.Call w0 d fr_b fr_l fr_c w1 fun w2 =>
  N1 w0 (IntKind.i64.wrap (d + (1 : Int))) w2) = kstep Tryz.prog 58 Tryz.f39.results.toList (Tryz.f39.body.getD .skip) (hostlaw_World_Tick.RV R) (kvc Tryz.prog 58 Tryz.f39.results.toList (Tryz.f39.body.getD .skip) (hostlaw_World_Tick.RV R) [([(0, [1, 1, 1, 0, 1, 0, 0]), (2, [1, 1, 1, 0, 1, 0, 0]), (1, [0]), (0, [1, 1, 1, 1])], fun σ w => dP (slotOf σ 0) fun w0_ => dI .i64 (slotOf σ 3) fun d_ => N1 w0_ d_ w)] 2000) [(0, [1, 1, 1, 0, 1, 0, 0, 1, 0, 0, 1, 1]), (1, [1]), (0, [1, 1, 1, 0, 1, 0, 0, 1, 1]), (2, [1, 1, 1, 0, 1, 0, 0]), (1, [0]), (0, [1, 1, 1, 1])] [(0, .pointer w0), (3, .int .i64 d), (4, .slice fr_b fr_l fr_c)] w := by kernel_rfl
theorem hostlaw_World_Tick.B1_sound {R : Bool → World → Prop} {N1 : Option Addr → Int → World → Prop} (hN1 : ∀ w0 d w, N1 w0 d w → KW Tryz.prog 39 58 (hostlaw_World_Tick.RV R) ([(0, [1, 1, 1, 0, 1, 0, 0]), (2, [1, 1, 1, 0, 1, 0, 0]), (1, [0]), (0, [1, 1, 1, 1])].map (toItem (Tryz.f39.body.getD .skip))) [(0, .pointer w0), (3, .int .i64 d)] w) (w0 : Option Addr) (d : Int) (fr_b : Option Addr) (fr_l fr_c : Nat) (w : World) (h : hostlaw_World_Tick.B1 w0 d fr_b fr_l fr_c w N1  R) :
    KW Tryz.prog 39 58 (hostlaw_World_Tick.RV R) ([(0, [1, 1, 1, 0, 1, 0, 0, 1, 0, 0, 1, 1]), (1, [1]), (0, [1, 1, 1, 0, 1, 0, 0, 1, 1]), (2, [1, 1, 1, 0, 1, 0, 0]), (1, [0]), (0, [1, 1, 1, 1])].map (toItem (Tryz.f39.body.getD .skip))) [(0, .pointer w0), (3, .int .i64 d), (4, .slice fr_b fr_l fr_c)] w := by
  exact block_spec Tryz.func39 Tryz.mixed (stops_cons (fun σ w h => by
      obtain ⟨w0_, e0, h⟩ := dP_elim h
      obtain ⟨d_, e1, h⟩ := dI_elim h
      exact (hN1 w0_ d_ w h).weaken (Sub.cons (Sub.cons (Sub.nil _) e1) e0)) stops_nil) (Eq.mp (hostlaw_World_Tick.B1_eq w0 d fr_b fr_l fr_c w N1  R ) h)
def hostlaw_World_Tick.L1b (w0 : Option Addr) (d : Int) (w : World)  (N1 : Option Addr → Int → World → Prop) (R : Bool → World → Prop) : Prop :=
  Bm (decide (d < (3 : Int))) (
    Pn w0 fun a =>
    (0 ≤ d ∧ d < ((3 : Nat) : Int)) ∧
    LdP (Addr.add a (d.toNat * 1)) w fun x27 =>
    host_Host_Tick.Call x27 w fun r28_b r28_l r28_c w1 =>
    Pn w0 fun a_1 =>
    LdB (a_1.add 27) w1 fun x32 =>
    Bm x32 (
      Pn w0 fun a_2 =>
      (0 ≤ d ∧ d < ((3 : Nat) : Int)) ∧
      LdP (Addr.add (a_2.add 24) (d.toNat * 1)) w1 fun x38 =>
      host_Host_Tick.Call x38 w1 fun r39_b r39_l r39_c w2 =>
      hostlaw_SameFrames.Call r28_b r28_l r28_c r39_b r39_l r39_c w2 fun r42 w3 =>
      Bm (!r42) (
        R false w3) (
        hostlaw_World_OwnAll.Call w0 r39_b r39_l r39_c w3 fun w4 =>
        hostlaw_World_Tick.B1 w0 d r28_b r28_l r28_c w4 N1 R)) (
      hostlaw_World_Tick.B1 w0 d r28_b r28_l r28_c w1 N1 R)) (
    hostlaw_World_Look.Call w0 w fun r57 w5 =>
    R r57 w5)
theorem hostlaw_World_Tick.L1b_eq (w0 : Option Addr) (d : Int) (w : World)  (N1 : Option Addr → Int → World → Prop) (R : Bool → World → Prop) (sB1 : Option Addr → Int → Option Addr → Nat → Nat → World → Prop) :
    (
  Bm (decide (d < (3 : Int))) (
    Pn w0 fun a =>
    (0 ≤ d ∧ d < ((3 : Nat) : Int)) ∧
    LdP (Addr.add a (d.toNat * 1)) w fun x27 =>
    host_Host_Tick.Call x27 w fun r28_b r28_l r28_c w1 =>
    Pn w0 fun a_1 =>
    LdB (a_1.add 27) w1 fun x32 =>
    Bm x32 (
      Pn w0 fun a_2 =>
      (0 ≤ d ∧ d < ((3 : Nat) : Int)) ∧
      LdP (Addr.add (a_2.add 24) (d.toNat * 1)) w1 fun x38 =>
      host_Host_Tick.Call x38 w1 fun r39_b r39_l r39_c w2 =>
      hostlaw_SameFrames.Call r28_b r28_l r28_c r39_b r39_l r39_c w2 fun r42 w3 =>
      Bm (!r42) (
        R false w3) (
        hostlaw_World_OwnAll.Call w0 r39_b r39_l r39_c w3 fun w4 =>
        sB1 w0 d r28_b r28_l r28_c w4)) (
      sB1 w0 d r28_b r28_l r28_c w1)) (
    hostlaw_World_Look.Call w0 w fun r57 w5 =>
    R r57 w5)) = kstep Tryz.prog 58 Tryz.f39.results.toList (Tryz.f39.body.getD .skip) (hostlaw_World_Tick.RV R) (kvc Tryz.prog 58 Tryz.f39.results.toList (Tryz.f39.body.getD .skip) (hostlaw_World_Tick.RV R) [([(0, [1, 1, 1, 0, 1, 0, 0, 1, 0, 0, 1, 1]), (1, [1]), (0, [1, 1, 1, 0, 1, 0, 0, 1, 1]), (2, [1, 1, 1, 0, 1, 0, 0]), (1, [0]), (0, [1, 1, 1, 1])], fun σ w => dP (slotOf σ 0) fun w0_ => dI .i64 (slotOf σ 3) fun d_ => dL (slotOf σ 4) fun fr_b_ fr_l_ fr_c_ => sB1 w0_ d_ fr_b_ fr_l_ fr_c_ w)] 2000) [(0, [1, 1, 1, 0, 1, 0, 0]), (2, [1, 1, 1, 0, 1, 0, 0]), (1, [0]), (0, [1, 1, 1, 1])] [(0, .pointer w0), (3, .int .i64 d)] w := by kernel_rfl
theorem hostlaw_World_Tick.L1b_sound {R : Bool → World → Prop} {N1 : Option Addr → Int → World → Prop} (hN1 : ∀ w0 d w, N1 w0 d w → KW Tryz.prog 39 58 (hostlaw_World_Tick.RV R) ([(0, [1, 1, 1, 0, 1, 0, 0]), (2, [1, 1, 1, 0, 1, 0, 0]), (1, [0]), (0, [1, 1, 1, 1])].map (toItem (Tryz.f39.body.getD .skip))) [(0, .pointer w0), (3, .int .i64 d)] w) (w0 : Option Addr) (d : Int) (w : World) (h : hostlaw_World_Tick.L1b w0 d w  N1 R) :
    KW Tryz.prog 39 58 (hostlaw_World_Tick.RV R) ([(0, [1, 1, 1, 0, 1, 0, 0]), (2, [1, 1, 1, 0, 1, 0, 0]), (1, [0]), (0, [1, 1, 1, 1])].map (toItem (Tryz.f39.body.getD .skip))) [(0, .pointer w0), (3, .int .i64 d)] w := by
  exact block_spec Tryz.func39 Tryz.mixed (stops_cons (fun σ w h => by
      obtain ⟨w0_, e0, h⟩ := dP_elim h
      obtain ⟨d_, e1, h⟩ := dI_elim h
      obtain ⟨fr_b_, fr_l_, fr_c_, e2, h⟩ := dL_elim h
      exact (hostlaw_World_Tick.B1_sound hN1 w0_ d_ fr_b_ fr_l_ fr_c_ w h).weaken (Sub.cons (Sub.cons (Sub.cons (Sub.nil _) e2) e1) e0)) stops_nil) (Eq.mp (hostlaw_World_Tick.L1b_eq w0 d w  N1 R (fun w0_ d_ fr_b_ fr_l_ fr_c_ w => hostlaw_World_Tick.B1 w0_ d_ fr_b_ fr_l_ fr_c_ w N1 R)) h)
def hostlaw_World_Tick.L1 (w0 : Option Addr) (d : Int) (w : World)  (R : Bool → World → Prop) : Prop :=
  ∃ (I : Nat → Option Addr → Int → World → Prop) (m : Nat), I m w0 d w ∧ ∀ m w0 d w, I m w0 d w → hostlaw_World_Tick.L1b w0 d w  (fun w0' d' w' => ∃ m', m' < m ∧ I m' w0' d' w') R
theorem hostlaw_World_Tick.L1_sound {R : Bool → World → Prop}  (w0 : Option Addr) (d : Int) (w : World) (h : hostlaw_World_Tick.L1 w0 d w  R) :
    KW Tryz.prog 39 58 (hostlaw_World_Tick.RV R) ([(0, [1, 1, 1, 0, 1, 0, 0]), (2, [1, 1, 1, 0, 1, 0, 0]), (1, [0]), (0, [1, 1, 1, 1])].map (toItem (Tryz.f39.body.getD .skip))) [(0, .pointer w0), (3, .int .i64 d)] w := by
  obtain ⟨I, m, hBase, hr⟩ := h
  refine KW.loop (fun m σ w => ∃ (w0 : Option Addr) (d : Int), σ = [(0, .pointer w0), (3, .int .i64 d)] ∧ I m w0 d w) ?_ m _ w ⟨w0, d, rfl, hBase⟩
  rintro m ih σ w ⟨w0, d, rfl, hI⟩
  exact hostlaw_World_Tick.L1b_sound  (N1 := fun w0' d' w' => ∃ m', m' < m ∧ I m' w0' d' w') (fun w0' d' w' hx => by obtain ⟨m', hlt, hI'⟩ := hx; exact ih m' hlt _ w' ⟨w0', d', rfl, hI'⟩) w0 d w (hr m w0 d w hI)
def hostlaw_World_Tick.B0 (w0 : Option Addr) (w : World)   (R : Bool → World → Prop) : Prop :=
  Pn w0 fun a =>
  LdP (a.add 29) w fun x9 =>
  wirem_Wire_Tick.Call x9 w fun w1 =>
  Pn w0 fun a_1 =>
  LdI .i64 (a_1.add 43) w1 fun x14 =>
  Pn w0 fun a_2 =>
  Sts [.int .i64 (IntKind.i64.wrap (x14 + (1 : Int)))] (a_2.add 43) 0 w1 fun w2 =>
  hostlaw_World_Tick.L1 w0 (0 : Int) w2  R
theorem hostlaw_World_Tick.B0_eq (w0 : Option Addr) (w : World)   (R : Bool → World → Prop) (sL1 : Option Addr → Int → World → Prop) :
    (
  Pn w0 fun a =>
  LdP (a.add 29) w fun x9 =>
  wirem_Wire_Tick.Call x9 w fun w1 =>
  Pn w0 fun a_1 =>
  LdI .i64 (a_1.add 43) w1 fun x14 =>
  Pn w0 fun a_2 =>
  Sts [.int .i64 (IntKind.i64.wrap (x14 + (1 : Int)))] (a_2.add 43) 0 w1 fun w2 =>
  sL1 w0 (0 : Int) w2) = kstep Tryz.prog 58 Tryz.f39.results.toList (Tryz.f39.body.getD .skip) (hostlaw_World_Tick.RV R) (kvc Tryz.prog 58 Tryz.f39.results.toList (Tryz.f39.body.getD .skip) (hostlaw_World_Tick.RV R) [([(0, [1, 1, 1, 0, 1, 0, 0]), (2, [1, 1, 1, 0, 1, 0, 0]), (1, [0]), (0, [1, 1, 1, 1])], fun σ w => dP (slotOf σ 0) fun w0_ => dI .i64 (slotOf σ 3) fun d_ => sL1 w0_ d_ w)] 2000) [(0, [])] [(0, .pointer w0)] w := by kernel_rfl
theorem hostlaw_World_Tick.B0_sound {R : Bool → World → Prop}  (w0 : Option Addr) (w : World) (h : hostlaw_World_Tick.B0 w0 w   R) :
    KW Tryz.prog 39 58 (hostlaw_World_Tick.RV R) ([(0, [])].map (toItem (Tryz.f39.body.getD .skip))) [(0, .pointer w0)] w := by
  exact block_spec Tryz.func39 Tryz.mixed (stops_cons (fun σ w h => by
      obtain ⟨w0_, e0, h⟩ := dP_elim h
      obtain ⟨d_, e1, h⟩ := dI_elim h
      exact (hostlaw_World_Tick.L1_sound  w0_ d_ w h).weaken (Sub.cons (Sub.cons (Sub.nil _) e1) e0)) stops_nil) (Eq.mp (hostlaw_World_Tick.B0_eq w0 w   R (fun w0_ d_ w => hostlaw_World_Tick.L1 w0_ d_ w  R)) h)
theorem hostlaw_World_Tick.sound (w0 : Option Addr) (w : World) (R : Bool → World → Prop) (h : hostlaw_World_Tick.B0 w0 w R) : hostlaw_World_Tick.Call w0 w R := by
  have hc := calls_of_block (args := #[.pointer w0]) Tryz.func39 (body := (Tryz.f39.body.getD .skip)) (by kernel_rfl) (by kernel_rfl) (args_slot _) (hostlaw_World_Tick.B0_sound w0 w h)
  exact hc.mono fun e w' he => by
    obtain ⟨v, rfl, hv⟩ := he
    exact hostlaw_World_Tick.RV_elim hv
def hostlaw_World_Settle.B2 (w0 : Option Addr) (calm r : Int) (w : World) (N1 : Option Addr → Int → Int → World → Prop)  (R : Bool → World → Prop) : Prop :=
  N1 w0 calm (IntKind.i64.wrap (r + (1 : Int))) w
theorem hostlaw_World_Settle.B2_eq (w0 : Option Addr) (calm r : Int) (w : World) (N1 : Option Addr → Int → Int → World → Prop)  (R : Bool → World → Prop)  :
    (
  N1 w0 calm (IntKind.i64.wrap (r + (1 : Int))) w) = kstep Tryz.prog 55 Tryz.f40.results.toList (Tryz.f40.body.getD .skip) (hostlaw_World_Settle.RV R) (kvc Tryz.prog 55 Tryz.f40.results.toList (Tryz.f40.body.getD .skip) (hostlaw_World_Settle.RV R) [([(0, [1, 1, 0, 1, 0, 0]), (2, [1, 1, 0, 1, 0, 0]), (1, [0]), (0, [1, 1, 1])], fun σ w => dP (slotOf σ 0) fun w0_ => dI .i64 (slotOf σ 3) fun calm_ => dI .i64 (slotOf σ 4) fun r_ => N1 w0_ calm_ r_ w)] 2000) [(0, [1, 1, 0, 1, 0, 0, 1, 1]), (2, [1, 1, 0, 1, 0, 0]), (1, [0]), (0, [1, 1, 1])] [(0, .pointer w0), (3, .int .i64 calm), (4, .int .i64 r)] w := by kernel_rfl
theorem hostlaw_World_Settle.B2_sound {R : Bool → World → Prop} {N1 : Option Addr → Int → Int → World → Prop} (hN1 : ∀ w0 calm r w, N1 w0 calm r w → KW Tryz.prog 40 55 (hostlaw_World_Settle.RV R) ([(0, [1, 1, 0, 1, 0, 0]), (2, [1, 1, 0, 1, 0, 0]), (1, [0]), (0, [1, 1, 1])].map (toItem (Tryz.f40.body.getD .skip))) [(0, .pointer w0), (3, .int .i64 calm), (4, .int .i64 r)] w) (w0 : Option Addr) (calm r : Int) (w : World) (h : hostlaw_World_Settle.B2 w0 calm r w N1  R) :
    KW Tryz.prog 40 55 (hostlaw_World_Settle.RV R) ([(0, [1, 1, 0, 1, 0, 0, 1, 1]), (2, [1, 1, 0, 1, 0, 0]), (1, [0]), (0, [1, 1, 1])].map (toItem (Tryz.f40.body.getD .skip))) [(0, .pointer w0), (3, .int .i64 calm), (4, .int .i64 r)] w := by
  exact block_spec Tryz.func40 Tryz.mixed (stops_cons (fun σ w h => by
      obtain ⟨w0_, e0, h⟩ := dP_elim h
      obtain ⟨calm_, e1, h⟩ := dI_elim h
      obtain ⟨r_, e2, h⟩ := dI_elim h
      exact (hN1 w0_ calm_ r_ w h).weaken (Sub.cons (Sub.cons (Sub.cons (Sub.nil _) e2) e1) e0)) stops_nil) (Eq.mp (hostlaw_World_Settle.B2_eq w0 calm r w N1  R ) h)
def hostlaw_World_Settle.B1 (w0 : Option Addr) (calm r : Int) (t50 : Bool) (w : World) (N1 : Option Addr → Int → Int → World → Prop)  (R : Bool → World → Prop) : Prop :=
  Bm t50 (
    hostlaw_World_Settle.B2 w0 (0 : Int) r w N1 R) (
    hostlaw_World_Settle.B2 w0 calm r w N1 R)
theorem hostlaw_World_Settle.B1_eq (w0 : Option Addr) (calm r : Int) (t50 : Bool) (w : World) (N1 : Option Addr → Int → Int → World → Prop)  (R : Bool → World → Prop) (sB2 : Option Addr → Int → Int → World → Prop) :
    (
  Bm t50 (
    sB2 w0 (0 : Int) r w) (
    sB2 w0 calm r w)) = kstep Tryz.prog 55 Tryz.f40.results.toList (Tryz.f40.body.getD .skip) (hostlaw_World_Settle.RV R) (kvc Tryz.prog 55 Tryz.f40.results.toList (Tryz.f40.body.getD .skip) (hostlaw_World_Settle.RV R) [([(0, [1, 1, 0, 1, 0, 0, 1, 1]), (2, [1, 1, 0, 1, 0, 0]), (1, [0]), (0, [1, 1, 1])], fun σ w => dP (slotOf σ 0) fun w0_ => dI .i64 (slotOf σ 3) fun calm_ => dI .i64 (slotOf σ 4) fun r_ => sB2 w0_ calm_ r_ w)] 2000) [(0, [1, 1, 0, 1, 0, 0, 1, 0, 0, 1, 1, 1, 1, 1]), (1, [1]), (0, [1, 1, 0, 1, 0, 0, 1, 1]), (2, [1, 1, 0, 1, 0, 0]), (1, [0]), (0, [1, 1, 1])] [(0, .pointer w0), (3, .int .i64 calm), (4, .int .i64 r), (50, .bool t50)] w := by kernel_rfl
theorem hostlaw_World_Settle.B1_sound {R : Bool → World → Prop} {N1 : Option Addr → Int → Int → World → Prop} (hN1 : ∀ w0 calm r w, N1 w0 calm r w → KW Tryz.prog 40 55 (hostlaw_World_Settle.RV R) ([(0, [1, 1, 0, 1, 0, 0]), (2, [1, 1, 0, 1, 0, 0]), (1, [0]), (0, [1, 1, 1])].map (toItem (Tryz.f40.body.getD .skip))) [(0, .pointer w0), (3, .int .i64 calm), (4, .int .i64 r)] w) (w0 : Option Addr) (calm r : Int) (t50 : Bool) (w : World) (h : hostlaw_World_Settle.B1 w0 calm r t50 w N1  R) :
    KW Tryz.prog 40 55 (hostlaw_World_Settle.RV R) ([(0, [1, 1, 0, 1, 0, 0, 1, 0, 0, 1, 1, 1, 1, 1]), (1, [1]), (0, [1, 1, 0, 1, 0, 0, 1, 1]), (2, [1, 1, 0, 1, 0, 0]), (1, [0]), (0, [1, 1, 1])].map (toItem (Tryz.f40.body.getD .skip))) [(0, .pointer w0), (3, .int .i64 calm), (4, .int .i64 r), (50, .bool t50)] w := by
  exact block_spec Tryz.func40 Tryz.mixed (stops_cons (fun σ w h => by
      obtain ⟨w0_, e0, h⟩ := dP_elim h
      obtain ⟨calm_, e1, h⟩ := dI_elim h
      obtain ⟨r_, e2, h⟩ := dI_elim h
      exact (hostlaw_World_Settle.B2_sound hN1 w0_ calm_ r_ w h).weaken (Sub.cons (Sub.cons (Sub.cons (Sub.nil _) e2) e1) e0)) stops_nil) (Eq.mp (hostlaw_World_Settle.B1_eq w0 calm r t50 w N1  R (fun w0_ calm_ r_ w => hostlaw_World_Settle.B2 w0_ calm_ r_ w N1 R)) h)
def hostlaw_World_Settle.L2b (w0 : Option Addr) (calm r spilt : Int) (lost : Nat) (k : Int) (w : World) (N1 : Option Addr → Int → Int → World → Prop) (N2 : Option Addr → Int → Int → Int → Nat → Int → World → Prop) (R : Bool → World → Prop) : Prop :=
  Bm (decide (k > (0 : Int))) (
    hostlaw_World_Deliver.Call w0 (0 : Int) w fun r30 w1 =>
    Bm (!r30) (
      R false w1) (
      N2 w0 calm r spilt lost (IntKind.i64.wrap (k - (1 : Int))) w1)) (
    hostlaw_World_Tick.Call w0 w fun r33 w2 =>
    Bm (!r33) (
      R false w2) (
      Pn w0 fun a =>
      LdI .i64 (a.add 45) w2.drew fun x40 =>
      Bm (x40 != spilt) (
        hostlaw_World_Settle.B1 w0 (IntKind.i64.wrap (calm + (1 : Int))) r true w2.drew N1 R) (
        Pn w0 fun a_1 =>
        LdI .i64 (a_1.add 37) w2.drew fun x47_0 =>
        LdI .i64 ((a_1.add 37).add 1) w2.drew fun x47_1 =>
        LdI .i64 ((a_1.add 37).add 2) w2.drew fun x47_2 =>
        LdI .i64 ⟨lost, 0, none⟩ w2.drew fun x48_0 =>
        LdI .i64 ⟨lost, 1, none⟩ w2.drew fun x48_1 =>
        LdI .i64 ⟨lost, 2, none⟩ w2.drew fun x48_2 =>
        hostlaw_World_Settle.B1 w0 (IntKind.i64.wrap (calm + (1 : Int))) r (!(x47_0 == x48_0 && (x47_1 == x48_1 && x47_2 == x48_2))) w2.drew N1 R)))
theorem hostlaw_World_Settle.L2b_eq (w0 : Option Addr) (calm r spilt : Int) (lost : Nat) (k : Int) (w : World) (N1 : Option Addr → Int → Int → World → Prop) (N2 : Option Addr → Int → Int → Int → Nat → Int → World → Prop) (R : Bool → World → Prop) (sB1 : Option Addr → Int → Int → Bool → World → Prop) :
    (
  Bm (decide (k > (0 : Int))) (
    hostlaw_World_Deliver.Call w0 (0 : Int) w fun r30 w1 =>
    Bm (!r30) (
      R false w1) (
      N2 w0 calm r spilt lost (IntKind.i64.wrap (k - (1 : Int))) w1)) (
    hostlaw_World_Tick.Call w0 w fun r33 w2 =>
    Bm (!r33) (
      R false w2) (
      Pn w0 fun a =>
      LdI .i64 (a.add 45) w2.drew fun x40 =>
      Bm (x40 != spilt) (
        sB1 w0 (IntKind.i64.wrap (calm + (1 : Int))) r true w2.drew) (
        Pn w0 fun a_1 =>
        LdI .i64 (a_1.add 37) w2.drew fun x47_0 =>
        LdI .i64 ((a_1.add 37).add 1) w2.drew fun x47_1 =>
        LdI .i64 ((a_1.add 37).add 2) w2.drew fun x47_2 =>
        LdI .i64 ⟨lost, 0, none⟩ w2.drew fun x48_0 =>
        LdI .i64 ⟨lost, 1, none⟩ w2.drew fun x48_1 =>
        LdI .i64 ⟨lost, 2, none⟩ w2.drew fun x48_2 =>
        sB1 w0 (IntKind.i64.wrap (calm + (1 : Int))) r (!(x47_0 == x48_0 && (x47_1 == x48_1 && x47_2 == x48_2))) w2.drew)))) = kstep Tryz.prog 55 Tryz.f40.results.toList (Tryz.f40.body.getD .skip) (hostlaw_World_Settle.RV R) (kvc Tryz.prog 55 Tryz.f40.results.toList (Tryz.f40.body.getD .skip) (hostlaw_World_Settle.RV R) [([(0, [1, 1, 0, 1, 0, 0, 1, 0, 0, 1, 0, 1, 0, 0]), (2, [1, 1, 0, 1, 0, 0, 1, 0, 0, 1, 0, 1, 0, 0]), (1, [2]), (0, [1, 1, 0, 1, 0, 0, 1, 0, 0, 1, 1]), (1, [1]), (0, [1, 1, 0, 1, 0, 0, 1, 1]), (2, [1, 1, 0, 1, 0, 0]), (1, [0]), (0, [1, 1, 1])], fun σ w => dP (slotOf σ 0) fun w0_ => dI .i64 (slotOf σ 3) fun calm_ => dI .i64 (slotOf σ 4) fun r_ => dI .i64 (slotOf σ 5) fun spilt_ => dK (slotOf σ 6) fun lost_ => dI .i64 (slotOf σ 7) fun k_ => N2 w0_ calm_ r_ spilt_ lost_ k_ w),
    ([(0, [1, 1, 0, 1, 0, 0, 1, 0, 0, 1, 1, 1, 1, 1]), (1, [1]), (0, [1, 1, 0, 1, 0, 0, 1, 1]), (2, [1, 1, 0, 1, 0, 0]), (1, [0]), (0, [1, 1, 1])], fun σ w => dP (slotOf σ 0) fun w0_ => dI .i64 (slotOf σ 3) fun calm_ => dI .i64 (slotOf σ 4) fun r_ => dB (slotOf σ 50) fun t50_ => sB1 w0_ calm_ r_ t50_ w)] 2000) [(0, [1, 1, 0, 1, 0, 0, 1, 0, 0, 1, 0, 1, 0, 0]), (2, [1, 1, 0, 1, 0, 0, 1, 0, 0, 1, 0, 1, 0, 0]), (1, [2]), (0, [1, 1, 0, 1, 0, 0, 1, 0, 0, 1, 1]), (1, [1]), (0, [1, 1, 0, 1, 0, 0, 1, 1]), (2, [1, 1, 0, 1, 0, 0]), (1, [0]), (0, [1, 1, 1])] [(0, .pointer w0), (3, .int .i64 calm), (4, .int .i64 r), (5, .int .i64 spilt), (6, .pointer (some ⟨lost, 0, none⟩)), (7, .int .i64 k)] w := by kernel_rfl
theorem hostlaw_World_Settle.L2b_sound {R : Bool → World → Prop} {N1 : Option Addr → Int → Int → World → Prop} (hN1 : ∀ w0 calm r w, N1 w0 calm r w → KW Tryz.prog 40 55 (hostlaw_World_Settle.RV R) ([(0, [1, 1, 0, 1, 0, 0]), (2, [1, 1, 0, 1, 0, 0]), (1, [0]), (0, [1, 1, 1])].map (toItem (Tryz.f40.body.getD .skip))) [(0, .pointer w0), (3, .int .i64 calm), (4, .int .i64 r)] w) {N2 : Option Addr → Int → Int → Int → Nat → Int → World → Prop} (hN2 : ∀ w0 calm r spilt lost k w, N2 w0 calm r spilt lost k w → KW Tryz.prog 40 55 (hostlaw_World_Settle.RV R) ([(0, [1, 1, 0, 1, 0, 0, 1, 0, 0, 1, 0, 1, 0, 0]), (2, [1, 1, 0, 1, 0, 0, 1, 0, 0, 1, 0, 1, 0, 0]), (1, [2]), (0, [1, 1, 0, 1, 0, 0, 1, 0, 0, 1, 1]), (1, [1]), (0, [1, 1, 0, 1, 0, 0, 1, 1]), (2, [1, 1, 0, 1, 0, 0]), (1, [0]), (0, [1, 1, 1])].map (toItem (Tryz.f40.body.getD .skip))) [(0, .pointer w0), (3, .int .i64 calm), (4, .int .i64 r), (5, .int .i64 spilt), (6, .pointer (some ⟨lost, 0, none⟩)), (7, .int .i64 k)] w) (w0 : Option Addr) (calm r spilt : Int) (lost : Nat) (k : Int) (w : World) (h : hostlaw_World_Settle.L2b w0 calm r spilt lost k w N1 N2 R) :
    KW Tryz.prog 40 55 (hostlaw_World_Settle.RV R) ([(0, [1, 1, 0, 1, 0, 0, 1, 0, 0, 1, 0, 1, 0, 0]), (2, [1, 1, 0, 1, 0, 0, 1, 0, 0, 1, 0, 1, 0, 0]), (1, [2]), (0, [1, 1, 0, 1, 0, 0, 1, 0, 0, 1, 1]), (1, [1]), (0, [1, 1, 0, 1, 0, 0, 1, 1]), (2, [1, 1, 0, 1, 0, 0]), (1, [0]), (0, [1, 1, 1])].map (toItem (Tryz.f40.body.getD .skip))) [(0, .pointer w0), (3, .int .i64 calm), (4, .int .i64 r), (5, .int .i64 spilt), (6, .pointer (some ⟨lost, 0, none⟩)), (7, .int .i64 k)] w := by
  exact block_spec Tryz.func40 Tryz.mixed (stops_cons (fun σ w h => by
      obtain ⟨w0_, e0, h⟩ := dP_elim h
      obtain ⟨calm_, e1, h⟩ := dI_elim h
      obtain ⟨r_, e2, h⟩ := dI_elim h
      obtain ⟨spilt_, e3, h⟩ := dI_elim h
      obtain ⟨lost_, e4, h⟩ := dK_elim h
      obtain ⟨k_, e5, h⟩ := dI_elim h
      exact (hN2 w0_ calm_ r_ spilt_ lost_ k_ w h).weaken (Sub.cons (Sub.cons (Sub.cons (Sub.cons (Sub.cons (Sub.cons (Sub.nil _) e5) e4) e3) e2) e1) e0)) (stops_cons (fun σ w h => by
      obtain ⟨w0_, e0, h⟩ := dP_elim h
      obtain ⟨calm_, e1, h⟩ := dI_elim h
      obtain ⟨r_, e2, h⟩ := dI_elim h
      obtain ⟨t50_, e3, h⟩ := dB_elim h
      exact (hostlaw_World_Settle.B1_sound hN1 w0_ calm_ r_ t50_ w h).weaken (Sub.cons (Sub.cons (Sub.cons (Sub.cons (Sub.nil _) e3) e2) e1) e0)) stops_nil)) (Eq.mp (hostlaw_World_Settle.L2b_eq w0 calm r spilt lost k w N1 N2 R (fun w0_ calm_ r_ t50_ w => hostlaw_World_Settle.B1 w0_ calm_ r_ t50_ w N1 R)) h)
def hostlaw_World_Settle.L2 (w0 : Option Addr) (calm r spilt : Int) (lost : Nat) (k : Int) (w : World) (N1 : Option Addr → Int → Int → World → Prop) (R : Bool → World → Prop) : Prop :=
  ∃ (I : Nat → Option Addr → Int → Int → Int → Nat → Int → World → Prop) (m : Nat), I m w0 calm r spilt lost k w ∧ ∀ m w0 calm r spilt lost k w, I m w0 calm r spilt lost k w → hostlaw_World_Settle.L2b w0 calm r spilt lost k w N1 (fun w0' calm' r' spilt' lost' k' w' => ∃ m', m' < m ∧ I m' w0' calm' r' spilt' lost' k' w') R
theorem hostlaw_World_Settle.L2_sound {R : Bool → World → Prop} {N1 : Option Addr → Int → Int → World → Prop} (hN1 : ∀ w0 calm r w, N1 w0 calm r w → KW Tryz.prog 40 55 (hostlaw_World_Settle.RV R) ([(0, [1, 1, 0, 1, 0, 0]), (2, [1, 1, 0, 1, 0, 0]), (1, [0]), (0, [1, 1, 1])].map (toItem (Tryz.f40.body.getD .skip))) [(0, .pointer w0), (3, .int .i64 calm), (4, .int .i64 r)] w) (w0 : Option Addr) (calm r spilt : Int) (lost : Nat) (k : Int) (w : World) (h : hostlaw_World_Settle.L2 w0 calm r spilt lost k w N1 R) :
    KW Tryz.prog 40 55 (hostlaw_World_Settle.RV R) ([(0, [1, 1, 0, 1, 0, 0, 1, 0, 0, 1, 0, 1, 0, 0]), (2, [1, 1, 0, 1, 0, 0, 1, 0, 0, 1, 0, 1, 0, 0]), (1, [2]), (0, [1, 1, 0, 1, 0, 0, 1, 0, 0, 1, 1]), (1, [1]), (0, [1, 1, 0, 1, 0, 0, 1, 1]), (2, [1, 1, 0, 1, 0, 0]), (1, [0]), (0, [1, 1, 1])].map (toItem (Tryz.f40.body.getD .skip))) [(0, .pointer w0), (3, .int .i64 calm), (4, .int .i64 r), (5, .int .i64 spilt), (6, .pointer (some ⟨lost, 0, none⟩)), (7, .int .i64 k)] w := by
  obtain ⟨I, m, hBase, hr⟩ := h
  refine KW.loop (fun m σ w => ∃ (w0 : Option Addr) (calm r spilt : Int) (lost : Nat) (k : Int), σ = [(0, .pointer w0), (3, .int .i64 calm), (4, .int .i64 r), (5, .int .i64 spilt), (6, .pointer (some ⟨lost, 0, none⟩)), (7, .int .i64 k)] ∧ I m w0 calm r spilt lost k w) ?_ m _ w ⟨w0, calm, r, spilt, lost, k, rfl, hBase⟩
  rintro m ih σ w ⟨w0, calm, r, spilt, lost, k, rfl, hI⟩
  exact hostlaw_World_Settle.L2b_sound hN1 (N2 := fun w0' calm' r' spilt' lost' k' w' => ∃ m', m' < m ∧ I m' w0' calm' r' spilt' lost' k' w') (fun w0' calm' r' spilt' lost' k' w' hx => by obtain ⟨m', hlt, hI'⟩ := hx; exact ih m' hlt _ w' ⟨w0', calm', r', spilt', lost', k', rfl, hI'⟩) w0 calm r spilt lost k w (hr m w0 calm r spilt lost k w hI)
def hostlaw_World_Settle.L1b (w0 : Option Addr) (calm r : Int) (w : World)  (N1 : Option Addr → Int → Int → World → Prop) (R : Bool → World → Prop) : Prop :=
  Bm (decide (r < (120 : Int))) (
    Pn w0 fun a =>
    LdI .i64 (a.add 45) w.drew fun x15 =>
    Pn w0 fun a_1 =>
    LdI .i64 (a_1.add 37) w.drew fun x19_0 =>
    LdI .i64 ((a_1.add 37).add 1) w.drew fun x19_1 =>
    LdI .i64 ((a_1.add 37).add 2) w.drew fun x19_2 =>
    New (.cells #[.int .i64 (0 : Int), .int .i64 (0 : Int), .int .i64 (0 : Int)] 45) w.drew fun lost_ w1 =>
    w1.cell? (a_1.add 37) = some (.int .i64 x19_0) ∧
    w1.cell? ((a_1.add 37).add 1) = some (.int .i64 x19_1) ∧
    w1.cell? ((a_1.add 37).add 2) = some (.int .i64 x19_2) ∧
    w1.cell? (a.add 45) = some (.int .i64 x15) ∧
    Sts [.int .i64 x19_0, .int .i64 x19_1, .int .i64 x19_2] ⟨lost_, 0, none⟩ 0 w1 fun w2 =>
    Pn w0 fun a_2 =>
    LdP (a_2.add 29) w2 fun x23 =>
    wirem_Wire_Len.Call x23 w2 fun r24 w3 =>
    hostlaw_World_Settle.L2 w0 calm r x15 lost_ r24 w3 N1 R) (
    Pn w0 fun a_3 =>
    Sts [.int .i64 calm] (a_3.add 28) 0 w fun w4 =>
    R true w4)
theorem hostlaw_World_Settle.L1b_eq (w0 : Option Addr) (calm r : Int) (w : World)  (N1 : Option Addr → Int → Int → World → Prop) (R : Bool → World → Prop) (sL2 : Option Addr → Int → Int → Int → Nat → Int → World → Prop) :
    (
  Bm (decide (r < (120 : Int))) (
    Pn w0 fun a =>
    LdI .i64 (a.add 45) w.drew fun x15 =>
    Pn w0 fun a_1 =>
    LdI .i64 (a_1.add 37) w.drew fun x19_0 =>
    LdI .i64 ((a_1.add 37).add 1) w.drew fun x19_1 =>
    LdI .i64 ((a_1.add 37).add 2) w.drew fun x19_2 =>
    New (.cells #[.int .i64 (0 : Int), .int .i64 (0 : Int), .int .i64 (0 : Int)] 45) w.drew fun lost_ w1 =>
    w1.cell? (a_1.add 37) = some (.int .i64 x19_0) ∧
    w1.cell? ((a_1.add 37).add 1) = some (.int .i64 x19_1) ∧
    w1.cell? ((a_1.add 37).add 2) = some (.int .i64 x19_2) ∧
    w1.cell? (a.add 45) = some (.int .i64 x15) ∧
    Sts [.int .i64 x19_0, .int .i64 x19_1, .int .i64 x19_2] ⟨lost_, 0, none⟩ 0 w1 fun w2 =>
    Pn w0 fun a_2 =>
    LdP (a_2.add 29) w2 fun x23 =>
    wirem_Wire_Len.Call x23 w2 fun r24 w3 =>
    sL2 w0 calm r x15 lost_ r24 w3) (
    Pn w0 fun a_3 =>
    Sts [.int .i64 calm] (a_3.add 28) 0 w fun w4 =>
    R true w4)) = kstep Tryz.prog 55 Tryz.f40.results.toList (Tryz.f40.body.getD .skip) (hostlaw_World_Settle.RV R) (kvc Tryz.prog 55 Tryz.f40.results.toList (Tryz.f40.body.getD .skip) (hostlaw_World_Settle.RV R) [([(0, [1, 1, 0, 1, 0, 0, 1, 0, 0, 1, 0, 1, 0, 0]), (2, [1, 1, 0, 1, 0, 0, 1, 0, 0, 1, 0, 1, 0, 0]), (1, [2]), (0, [1, 1, 0, 1, 0, 0, 1, 0, 0, 1, 1]), (1, [1]), (0, [1, 1, 0, 1, 0, 0, 1, 1]), (2, [1, 1, 0, 1, 0, 0]), (1, [0]), (0, [1, 1, 1])], fun σ w => dP (slotOf σ 0) fun w0_ => dI .i64 (slotOf σ 3) fun calm_ => dI .i64 (slotOf σ 4) fun r_ => dI .i64 (slotOf σ 5) fun spilt_ => dK (slotOf σ 6) fun lost_ => dI .i64 (slotOf σ 7) fun k_ => sL2 w0_ calm_ r_ spilt_ lost_ k_ w)] 2000) [(0, [1, 1, 0, 1, 0, 0]), (2, [1, 1, 0, 1, 0, 0]), (1, [0]), (0, [1, 1, 1])] [(0, .pointer w0), (3, .int .i64 calm), (4, .int .i64 r)] w := by kernel_rfl
theorem hostlaw_World_Settle.L1b_sound {R : Bool → World → Prop} {N1 : Option Addr → Int → Int → World → Prop} (hN1 : ∀ w0 calm r w, N1 w0 calm r w → KW Tryz.prog 40 55 (hostlaw_World_Settle.RV R) ([(0, [1, 1, 0, 1, 0, 0]), (2, [1, 1, 0, 1, 0, 0]), (1, [0]), (0, [1, 1, 1])].map (toItem (Tryz.f40.body.getD .skip))) [(0, .pointer w0), (3, .int .i64 calm), (4, .int .i64 r)] w) (w0 : Option Addr) (calm r : Int) (w : World) (h : hostlaw_World_Settle.L1b w0 calm r w  N1 R) :
    KW Tryz.prog 40 55 (hostlaw_World_Settle.RV R) ([(0, [1, 1, 0, 1, 0, 0]), (2, [1, 1, 0, 1, 0, 0]), (1, [0]), (0, [1, 1, 1])].map (toItem (Tryz.f40.body.getD .skip))) [(0, .pointer w0), (3, .int .i64 calm), (4, .int .i64 r)] w := by
  exact block_spec Tryz.func40 Tryz.mixed (stops_cons (fun σ w h => by
      obtain ⟨w0_, e0, h⟩ := dP_elim h
      obtain ⟨calm_, e1, h⟩ := dI_elim h
      obtain ⟨r_, e2, h⟩ := dI_elim h
      obtain ⟨spilt_, e3, h⟩ := dI_elim h
      obtain ⟨lost_, e4, h⟩ := dK_elim h
      obtain ⟨k_, e5, h⟩ := dI_elim h
      exact (hostlaw_World_Settle.L2_sound hN1 w0_ calm_ r_ spilt_ lost_ k_ w h).weaken (Sub.cons (Sub.cons (Sub.cons (Sub.cons (Sub.cons (Sub.cons (Sub.nil _) e5) e4) e3) e2) e1) e0)) stops_nil) (Eq.mp (hostlaw_World_Settle.L1b_eq w0 calm r w  N1 R (fun w0_ calm_ r_ spilt_ lost_ k_ w => hostlaw_World_Settle.L2 w0_ calm_ r_ spilt_ lost_ k_ w N1 R)) h)
def hostlaw_World_Settle.L1 (w0 : Option Addr) (calm r : Int) (w : World)  (R : Bool → World → Prop) : Prop :=
  ∃ (I : Nat → Option Addr → Int → Int → World → Prop) (m : Nat), I m w0 calm r w ∧ ∀ m w0 calm r w, I m w0 calm r w → hostlaw_World_Settle.L1b w0 calm r w  (fun w0' calm' r' w' => ∃ m', m' < m ∧ I m' w0' calm' r' w') R
theorem hostlaw_World_Settle.L1_sound {R : Bool → World → Prop}  (w0 : Option Addr) (calm r : Int) (w : World) (h : hostlaw_World_Settle.L1 w0 calm r w  R) :
    KW Tryz.prog 40 55 (hostlaw_World_Settle.RV R) ([(0, [1, 1, 0, 1, 0, 0]), (2, [1, 1, 0, 1, 0, 0]), (1, [0]), (0, [1, 1, 1])].map (toItem (Tryz.f40.body.getD .skip))) [(0, .pointer w0), (3, .int .i64 calm), (4, .int .i64 r)] w := by
  obtain ⟨I, m, hBase, hr⟩ := h
  refine KW.loop (fun m σ w => ∃ (w0 : Option Addr) (calm r : Int), σ = [(0, .pointer w0), (3, .int .i64 calm), (4, .int .i64 r)] ∧ I m w0 calm r w) ?_ m _ w ⟨w0, calm, r, rfl, hBase⟩
  rintro m ih σ w ⟨w0, calm, r, rfl, hI⟩
  exact hostlaw_World_Settle.L1b_sound  (N1 := fun w0' calm' r' w' => ∃ m', m' < m ∧ I m' w0' calm' r' w') (fun w0' calm' r' w' hx => by obtain ⟨m', hlt, hI'⟩ := hx; exact ih m' hlt _ w' ⟨w0', calm', r', rfl, hI'⟩) w0 calm r w (hr m w0 calm r w hI)
def hostlaw_World_Settle.B0 (w0 : Option Addr) (w : World)   (R : Bool → World → Prop) : Prop :=
  hostlaw_World_Settle.L1 w0 (0 : Int) (0 : Int) w  R
theorem hostlaw_World_Settle.B0_eq (w0 : Option Addr) (w : World)   (R : Bool → World → Prop) (sL1 : Option Addr → Int → Int → World → Prop) :
    (
  sL1 w0 (0 : Int) (0 : Int) w) = kstep Tryz.prog 55 Tryz.f40.results.toList (Tryz.f40.body.getD .skip) (hostlaw_World_Settle.RV R) (kvc Tryz.prog 55 Tryz.f40.results.toList (Tryz.f40.body.getD .skip) (hostlaw_World_Settle.RV R) [([(0, [1, 1, 0, 1, 0, 0]), (2, [1, 1, 0, 1, 0, 0]), (1, [0]), (0, [1, 1, 1])], fun σ w => dP (slotOf σ 0) fun w0_ => dI .i64 (slotOf σ 3) fun calm_ => dI .i64 (slotOf σ 4) fun r_ => sL1 w0_ calm_ r_ w)] 2000) [(0, [])] [(0, .pointer w0)] w := by kernel_rfl
theorem hostlaw_World_Settle.B0_sound {R : Bool → World → Prop}  (w0 : Option Addr) (w : World) (h : hostlaw_World_Settle.B0 w0 w   R) :
    KW Tryz.prog 40 55 (hostlaw_World_Settle.RV R) ([(0, [])].map (toItem (Tryz.f40.body.getD .skip))) [(0, .pointer w0)] w := by
  exact block_spec Tryz.func40 Tryz.mixed (stops_cons (fun σ w h => by
      obtain ⟨w0_, e0, h⟩ := dP_elim h
      obtain ⟨calm_, e1, h⟩ := dI_elim h
      obtain ⟨r_, e2, h⟩ := dI_elim h
      exact (hostlaw_World_Settle.L1_sound  w0_ calm_ r_ w h).weaken (Sub.cons (Sub.cons (Sub.cons (Sub.nil _) e2) e1) e0)) stops_nil) (Eq.mp (hostlaw_World_Settle.B0_eq w0 w   R (fun w0_ calm_ r_ w => hostlaw_World_Settle.L1 w0_ calm_ r_ w  R)) h)
theorem hostlaw_World_Settle.sound (w0 : Option Addr) (w : World) (R : Bool → World → Prop) (h : hostlaw_World_Settle.B0 w0 w R) : hostlaw_World_Settle.Call w0 w R := by
  have hc := calls_of_block (args := #[.pointer w0]) Tryz.func40 (body := (Tryz.f40.body.getD .skip)) (by kernel_rfl) (by kernel_rfl) (args_slot _) (hostlaw_World_Settle.B0_sound w0 w h)
  exact hc.mono fun e w' he => by
    obtain ⟨v, rfl, hv⟩ := he
    exact hostlaw_World_Settle.RV_elim hv
def wirem_Wire_Drop.B1 (w0 : Option Addr) (i : Int) (t15 : Bool) (w : World)   (R : Bool → World → Prop) : Prop :=
  Bm t15 (
    R false w) (
    wirem_Wire_remove.Call w0 i w fun w1 =>
    R true w1)
theorem wirem_Wire_Drop.B1_eq (w0 : Option Addr) (i : Int) (t15 : Bool) (w : World)   (R : Bool → World → Prop)  :
    (
  Bm t15 (
    R false w) (
    wirem_Wire_remove.Call w0 i w fun w1 =>
    R true w1)) = kstep Tryz.prog 19 Tryz.f41.results.toList (Tryz.f41.body.getD .skip) (wirem_Wire_Drop.RV R) (kvc Tryz.prog 19 Tryz.f41.results.toList (Tryz.f41.body.getD .skip) (wirem_Wire_Drop.RV R) [] 2000) [(0, [1, 0, 1]), (0, [1, 1])] [(0, .pointer w0), (1, .int .i64 i), (15, .bool t15)] w := by kernel_rfl
theorem wirem_Wire_Drop.B1_sound {R : Bool → World → Prop}  (w0 : Option Addr) (i : Int) (t15 : Bool) (w : World) (h : wirem_Wire_Drop.B1 w0 i t15 w   R) :
    KW Tryz.prog 41 19 (wirem_Wire_Drop.RV R) ([(0, [1, 0, 1]), (0, [1, 1])].map (toItem (Tryz.f41.body.getD .skip))) [(0, .pointer w0), (1, .int .i64 i), (15, .bool t15)] w := by
  exact block_spec Tryz.func41 Tryz.mixed stops_nil (Eq.mp (wirem_Wire_Drop.B1_eq w0 i t15 w   R ) h)
def wirem_Wire_Drop.B0 (w0 : Option Addr) (i : Int) (w : World)   (R : Bool → World → Prop) : Prop :=
  Bm (decide (i < (0 : Int))) (
    wirem_Wire_Drop.B1 w0 i true w  R) (
    Pn w0 fun a =>
    LdL a w fun x12_b x12_l x12_c =>
    wirem_Wire_Drop.B1 w0 i (decide (i ≥ ((x12_l : Nat) : Int))) w  R)
theorem wirem_Wire_Drop.B0_eq (w0 : Option Addr) (i : Int) (w : World)   (R : Bool → World → Prop) (sB1 : Option Addr → Int → Bool → World → Prop) :
    (
  Bm (decide (i < (0 : Int))) (
    sB1 w0 i true w) (
    Pn w0 fun a =>
    LdL a w fun x12_b x12_l x12_c =>
    sB1 w0 i (decide (i ≥ ((x12_l : Nat) : Int))) w)) = kstep Tryz.prog 19 Tryz.f41.results.toList (Tryz.f41.body.getD .skip) (wirem_Wire_Drop.RV R) (kvc Tryz.prog 19 Tryz.f41.results.toList (Tryz.f41.body.getD .skip) (wirem_Wire_Drop.RV R) [([(0, [1, 0, 1]), (0, [1, 1])], fun σ w => dP (slotOf σ 0) fun w0_ => dI .i64 (slotOf σ 1) fun i_ => dB (slotOf σ 15) fun t15_ => sB1 w0_ i_ t15_ w)] 2000) [(0, [])] [(0, .pointer w0), (1, .int .i64 i)] w := by kernel_rfl
theorem wirem_Wire_Drop.B0_sound {R : Bool → World → Prop}  (w0 : Option Addr) (i : Int) (w : World) (h : wirem_Wire_Drop.B0 w0 i w   R) :
    KW Tryz.prog 41 19 (wirem_Wire_Drop.RV R) ([(0, [])].map (toItem (Tryz.f41.body.getD .skip))) [(0, .pointer w0), (1, .int .i64 i)] w := by
  exact block_spec Tryz.func41 Tryz.mixed (stops_cons (fun σ w h => by
      obtain ⟨w0_, e0, h⟩ := dP_elim h
      obtain ⟨i_, e1, h⟩ := dI_elim h
      obtain ⟨t15_, e2, h⟩ := dB_elim h
      exact (wirem_Wire_Drop.B1_sound  w0_ i_ t15_ w h).weaken (Sub.cons (Sub.cons (Sub.cons (Sub.nil _) e2) e1) e0)) stops_nil) (Eq.mp (wirem_Wire_Drop.B0_eq w0 i w   R (fun w0_ i_ t15_ w => wirem_Wire_Drop.B1 w0_ i_ t15_ w  R)) h)
theorem wirem_Wire_Drop.sound (w0 : Option Addr) (i : Int) (w : World) (R : Bool → World → Prop) (h : wirem_Wire_Drop.B0 w0 i w R) : wirem_Wire_Drop.Call w0 i w R := by
  have hc := calls_of_block (args := #[.pointer w0, .int .i64 i]) Tryz.func41 (body := (Tryz.f41.body.getD .skip)) (by kernel_rfl) (by kernel_rfl) (args_slot _) (wirem_Wire_Drop.B0_sound w0 i w h)
  exact hc.mono fun e w' he => by
    obtain ⟨v, rfl, hv⟩ := he
    exact wirem_Wire_Drop.RV_elim hv
def wirem_Wire_Double.B1 (w0 : Option Addr) (i : Int) (t23 : Bool) (w : World)   (R : Bool → World → Prop) : Prop :=
  Bm t23 (
    R false w) (
    Pn w0 fun a =>
    LdL a w.drew fun x28_b x28_l x28_c =>
    Pn w0 fun a_1 =>
    LdL a_1 w.drew fun x32_b x32_l x32_c =>
    Pn x32_b fun a_2 =>
    (0 ≤ i ∧ i < ((x32_l : Nat) : Int)) ∧
    LdL (Addr.add a_2 (i.toNat * 3)) w.drew fun x36_b x36_l x36_c =>
    Pn w0 fun a_3 =>
    LdL a_3 w.drew fun x41_b x41_l x41_c =>
    Pn x41_b fun a_4 =>
    (0 ≤ i ∧ i < ((x41_l : Nat) : Int)) ∧
    LdI .i64 ((Addr.add a_4 (i.toNat * 3)).add 1) w.drew fun x45 =>
    Pn w0 fun a_5 =>
    LdL a_5 w.drew fun x49_b x49_l x49_c =>
    Pn x49_b fun a_6 =>
    (0 ≤ i ∧ i < ((x49_l : Nat) : Int)) ∧
    LdB ((Addr.add a_6 (i.toNat * 3)).add 2) w.drew fun x53 =>
    api_CopyBytes.Call x36_b x36_l x36_c w.drew fun r37_b r37_l r37_c w1 =>
    w1.cell? ((Addr.add a_6 (i.toNat * 3)).add 2) = some (.bool x53) ∧
    w1.cell? a_5 = some (.slice x49_b x49_l x49_c) ∧
    w1.cell? ((Addr.add a_4 (i.toNat * 3)).add 1) = some (.int .i64 x45) ∧
    w1.cell? a_3 = some (.slice x41_b x41_l x41_c) ∧
    w1.cell? a = some (.slice x28_b x28_l x28_c) ∧
    New (.cells #[.slice r37_b r37_l r37_c, .int .i64 x45, .bool x53] 129) w1 fun b55 w2 =>
    w2.cell? a = some (.slice x28_b x28_l x28_c) ∧
    Append 129 (.agg #[.slice none 0 0, .int .i64 (0 : Int), .bool false]) 3 40 x28_b x28_l x28_c (some ⟨b55, 0, none⟩) 1 w2 fun b56 c56 w3 =>
    Pn w0 fun a_7 =>
    Sts [.slice b56 (x28_l + 1) c56] a_7 0 w3 fun w4 =>
    R true w4)
theorem wirem_Wire_Double.B1_eq (w0 : Option Addr) (i : Int) (t23 : Bool) (w : World)   (R : Bool → World → Prop)  :
    (
  Bm t23 (
    R false w) (
    Pn w0 fun a =>
    LdL a w.drew fun x28_b x28_l x28_c =>
    Pn w0 fun a_1 =>
    LdL a_1 w.drew fun x32_b x32_l x32_c =>
    Pn x32_b fun a_2 =>
    (0 ≤ i ∧ i < ((x32_l : Nat) : Int)) ∧
    LdL (Addr.add a_2 (i.toNat * 3)) w.drew fun x36_b x36_l x36_c =>
    Pn w0 fun a_3 =>
    LdL a_3 w.drew fun x41_b x41_l x41_c =>
    Pn x41_b fun a_4 =>
    (0 ≤ i ∧ i < ((x41_l : Nat) : Int)) ∧
    LdI .i64 ((Addr.add a_4 (i.toNat * 3)).add 1) w.drew fun x45 =>
    Pn w0 fun a_5 =>
    LdL a_5 w.drew fun x49_b x49_l x49_c =>
    Pn x49_b fun a_6 =>
    (0 ≤ i ∧ i < ((x49_l : Nat) : Int)) ∧
    LdB ((Addr.add a_6 (i.toNat * 3)).add 2) w.drew fun x53 =>
    api_CopyBytes.Call x36_b x36_l x36_c w.drew fun r37_b r37_l r37_c w1 =>
    w1.cell? ((Addr.add a_6 (i.toNat * 3)).add 2) = some (.bool x53) ∧
    w1.cell? a_5 = some (.slice x49_b x49_l x49_c) ∧
    w1.cell? ((Addr.add a_4 (i.toNat * 3)).add 1) = some (.int .i64 x45) ∧
    w1.cell? a_3 = some (.slice x41_b x41_l x41_c) ∧
    w1.cell? a = some (.slice x28_b x28_l x28_c) ∧
    New (.cells #[.slice r37_b r37_l r37_c, .int .i64 x45, .bool x53] 129) w1 fun b55 w2 =>
    w2.cell? a = some (.slice x28_b x28_l x28_c) ∧
    Append 129 (.agg #[.slice none 0 0, .int .i64 (0 : Int), .bool false]) 3 40 x28_b x28_l x28_c (some ⟨b55, 0, none⟩) 1 w2 fun b56 c56 w3 =>
    Pn w0 fun a_7 =>
    Sts [.slice b56 (x28_l + 1) c56] a_7 0 w3 fun w4 =>
    R true w4)) = kstep Tryz.prog 59 Tryz.f42.results.toList (Tryz.f42.body.getD .skip) (wirem_Wire_Double.RV R) (kvc Tryz.prog 59 Tryz.f42.results.toList (Tryz.f42.body.getD .skip) (wirem_Wire_Double.RV R) [] 2000) [(0, [1, 0, 1]), (0, [1, 1])] [(0, .pointer w0), (1, .int .i64 i), (23, .bool t23)] w := by kernel_rfl
theorem wirem_Wire_Double.B1_sound {R : Bool → World → Prop}  (w0 : Option Addr) (i : Int) (t23 : Bool) (w : World) (h : wirem_Wire_Double.B1 w0 i t23 w   R) :
    KW Tryz.prog 42 59 (wirem_Wire_Double.RV R) ([(0, [1, 0, 1]), (0, [1, 1])].map (toItem (Tryz.f42.body.getD .skip))) [(0, .pointer w0), (1, .int .i64 i), (23, .bool t23)] w := by
  exact block_spec Tryz.func42 Tryz.mixed stops_nil (Eq.mp (wirem_Wire_Double.B1_eq w0 i t23 w   R ) h)
def wirem_Wire_Double.B0 (w0 : Option Addr) (i : Int) (w : World)   (R : Bool → World → Prop) : Prop :=
  Bm (decide (i < (0 : Int))) (
    wirem_Wire_Double.B1 w0 i true w  R) (
    Pn w0 fun a =>
    LdL a w fun x12_b x12_l x12_c =>
    Bm (decide (i ≥ ((x12_l : Nat) : Int))) (
      wirem_Wire_Double.B1 w0 i true w  R) (
      Pn w0 fun a_1 =>
      LdL a_1 w fun x20_b x20_l x20_c =>
      wirem_Wire_Double.B1 w0 i (decide (((x20_l : Nat) : Int) ≥ (64 : Int))) w  R))
theorem wirem_Wire_Double.B0_eq (w0 : Option Addr) (i : Int) (w : World)   (R : Bool → World → Prop) (sB1 : Option Addr → Int → Bool → World → Prop) :
    (
  Bm (decide (i < (0 : Int))) (
    sB1 w0 i true w) (
    Pn w0 fun a =>
    LdL a w fun x12_b x12_l x12_c =>
    Bm (decide (i ≥ ((x12_l : Nat) : Int))) (
      sB1 w0 i true w) (
      Pn w0 fun a_1 =>
      LdL a_1 w fun x20_b x20_l x20_c =>
      sB1 w0 i (decide (((x20_l : Nat) : Int) ≥ (64 : Int))) w))) = kstep Tryz.prog 59 Tryz.f42.results.toList (Tryz.f42.body.getD .skip) (wirem_Wire_Double.RV R) (kvc Tryz.prog 59 Tryz.f42.results.toList (Tryz.f42.body.getD .skip) (wirem_Wire_Double.RV R) [([(0, [1, 0, 1]), (0, [1, 1])], fun σ w => dP (slotOf σ 0) fun w0_ => dI .i64 (slotOf σ 1) fun i_ => dB (slotOf σ 23) fun t23_ => sB1 w0_ i_ t23_ w)] 2000) [(0, [])] [(0, .pointer w0), (1, .int .i64 i)] w := by kernel_rfl
theorem wirem_Wire_Double.B0_sound {R : Bool → World → Prop}  (w0 : Option Addr) (i : Int) (w : World) (h : wirem_Wire_Double.B0 w0 i w   R) :
    KW Tryz.prog 42 59 (wirem_Wire_Double.RV R) ([(0, [])].map (toItem (Tryz.f42.body.getD .skip))) [(0, .pointer w0), (1, .int .i64 i)] w := by
  exact block_spec Tryz.func42 Tryz.mixed (stops_cons (fun σ w h => by
      obtain ⟨w0_, e0, h⟩ := dP_elim h
      obtain ⟨i_, e1, h⟩ := dI_elim h
      obtain ⟨t23_, e2, h⟩ := dB_elim h
      exact (wirem_Wire_Double.B1_sound  w0_ i_ t23_ w h).weaken (Sub.cons (Sub.cons (Sub.cons (Sub.nil _) e2) e1) e0)) stops_nil) (Eq.mp (wirem_Wire_Double.B0_eq w0 i w   R (fun w0_ i_ t23_ w => wirem_Wire_Double.B1 w0_ i_ t23_ w  R)) h)
theorem wirem_Wire_Double.sound (w0 : Option Addr) (i : Int) (w : World) (R : Bool → World → Prop) (h : wirem_Wire_Double.B0 w0 i w R) : wirem_Wire_Double.Call w0 i w R := by
  have hc := calls_of_block (args := #[.pointer w0, .int .i64 i]) Tryz.func42 (body := (Tryz.f42.body.getD .skip)) (by kernel_rfl) (by kernel_rfl) (args_slot _) (wirem_Wire_Double.B0_sound w0 i w h)
  exact hc.mono fun e w' he => by
    obtain ⟨v, rfl, hv⟩ := he
    exact wirem_Wire_Double.RV_elim hv
def wirem_Wire_Flip.B1 (w0 : Option Addr) (i bit : Int) (t45 : Bool) (w : World)   (R : Bool → World → Prop) : Prop :=
  Bm t45 (
    R false w) (
    Pn w0 fun a =>
    LdL a w fun x49_b x49_l x49_c =>
    Pn x49_b fun a_1 =>
    (0 ≤ i ∧ i < ((x49_l : Nat) : Int)) ∧
    LdL (Addr.add a_1 (i.toNat * 3)) w fun x53_b x53_l x53_c =>
    (8 : Int) ≠ 0 ∧
    Pn x53_b fun a_2 =>
    (0 ≤ (IntKind.i64.wrap (bit.tdiv (8 : Int))) ∧ (IntKind.i64.wrap (bit.tdiv (8 : Int))) < ((x53_l : Nat) : Int)) ∧
    LdI .u8 (Addr.add a_2 ((IntKind.i64.wrap (bit.tdiv (8 : Int))).toNat * 1)) w fun x57 =>
    (8 : Int) ≠ 0 ∧
    0 ≤ (IntKind.u64.wrap (bit.tmod (8 : Int))) ∧
    Pn x53_b fun a_3 =>
    (0 ≤ (IntKind.i64.wrap (bit.tdiv (8 : Int))) ∧ (IntKind.i64.wrap (bit.tdiv (8 : Int))) < ((x53_l : Nat) : Int)) ∧
    Sts [.int .u8 (IntKind.u8.wrap (BitVec.ofInt IntKind.u8.bits x57 ^^^ BitVec.ofInt IntKind.u8.bits (IntKind.u8.wrap ((1 : Int) * 2 ^ (min (IntKind.u64.wrap (bit.tmod (8 : Int))).toNat IntKind.u8.bits)))).toNat)] (Addr.add a_3 ((IntKind.i64.wrap (bit.tdiv (8 : Int))).toNat * 1)) 0 w fun w1 =>
    Pn w0 fun a_4 =>
    LdL a_4 w1 fun x67_b x67_l x67_c =>
    Pn x67_b fun a_5 =>
    (0 ≤ i ∧ i < ((x67_l : Nat) : Int)) ∧
    Sts [.bool true] ((Addr.add a_5 (i.toNat * 3)).add 2) 0 w1 fun w2 =>
    R true w2)
theorem wirem_Wire_Flip.B1_eq (w0 : Option Addr) (i bit : Int) (t45 : Bool) (w : World)   (R : Bool → World → Prop)  :
    (
  Bm t45 (
    R false w) (
    Pn w0 fun a =>
    LdL a w fun x49_b x49_l x49_c =>
    Pn x49_b fun a_1 =>
    (0 ≤ i ∧ i < ((x49_l : Nat) : Int)) ∧
    LdL (Addr.add a_1 (i.toNat * 3)) w fun x53_b x53_l x53_c =>
    (8 : Int) ≠ 0 ∧
    Pn x53_b fun a_2 =>
    (0 ≤ (IntKind.i64.wrap (bit.tdiv (8 : Int))) ∧ (IntKind.i64.wrap (bit.tdiv (8 : Int))) < ((x53_l : Nat) : Int)) ∧
    LdI .u8 (Addr.add a_2 ((IntKind.i64.wrap (bit.tdiv (8 : Int))).toNat * 1)) w fun x57 =>
    (8 : Int) ≠ 0 ∧
    0 ≤ (IntKind.u64.wrap (bit.tmod (8 : Int))) ∧
    Pn x53_b fun a_3 =>
    (0 ≤ (IntKind.i64.wrap (bit.tdiv (8 : Int))) ∧ (IntKind.i64.wrap (bit.tdiv (8 : Int))) < ((x53_l : Nat) : Int)) ∧
    Sts [.int .u8 (IntKind.u8.wrap (BitVec.ofInt IntKind.u8.bits x57 ^^^ BitVec.ofInt IntKind.u8.bits (IntKind.u8.wrap ((1 : Int) * 2 ^ (min (IntKind.u64.wrap (bit.tmod (8 : Int))).toNat IntKind.u8.bits)))).toNat)] (Addr.add a_3 ((IntKind.i64.wrap (bit.tdiv (8 : Int))).toNat * 1)) 0 w fun w1 =>
    Pn w0 fun a_4 =>
    LdL a_4 w1 fun x67_b x67_l x67_c =>
    Pn x67_b fun a_5 =>
    (0 ≤ i ∧ i < ((x67_l : Nat) : Int)) ∧
    Sts [.bool true] ((Addr.add a_5 (i.toNat * 3)).add 2) 0 w1 fun w2 =>
    R true w2)) = kstep Tryz.prog 71 Tryz.f43.results.toList (Tryz.f43.body.getD .skip) (wirem_Wire_Flip.RV R) (kvc Tryz.prog 71 Tryz.f43.results.toList (Tryz.f43.body.getD .skip) (wirem_Wire_Flip.RV R) [] 2000) [(0, [1, 0, 1]), (0, [1, 1])] [(0, .pointer w0), (1, .int .i64 i), (2, .int .i64 bit), (45, .bool t45)] w := by kernel_rfl
theorem wirem_Wire_Flip.B1_sound {R : Bool → World → Prop}  (w0 : Option Addr) (i bit : Int) (t45 : Bool) (w : World) (h : wirem_Wire_Flip.B1 w0 i bit t45 w   R) :
    KW Tryz.prog 43 71 (wirem_Wire_Flip.RV R) ([(0, [1, 0, 1]), (0, [1, 1])].map (toItem (Tryz.f43.body.getD .skip))) [(0, .pointer w0), (1, .int .i64 i), (2, .int .i64 bit), (45, .bool t45)] w := by
  exact block_spec Tryz.func43 Tryz.mixed stops_nil (Eq.mp (wirem_Wire_Flip.B1_eq w0 i bit t45 w   R ) h)
def wirem_Wire_Flip.B0 (w0 : Option Addr) (i bit : Int) (w : World)   (R : Bool → World → Prop) : Prop :=
  Bm (decide (i < (0 : Int))) (
    wirem_Wire_Flip.B1 w0 i bit true w  R) (
    Pn w0 fun a =>
    LdL a w fun x14_b x14_l x14_c =>
    Bm (decide (i ≥ ((x14_l : Nat) : Int))) (
      wirem_Wire_Flip.B1 w0 i bit true w  R) (
      Pn w0 fun a_1 =>
      LdL a_1 w fun x22_b x22_l x22_c =>
      Pn x22_b fun a_2 =>
      (0 ≤ i ∧ i < ((x22_l : Nat) : Int)) ∧
      LdB ((Addr.add a_2 (i.toNat * 3)).add 2) w fun x26 =>
      Bm x26 (
        wirem_Wire_Flip.B1 w0 i bit true w  R) (
        Bm (decide (bit < (0 : Int))) (
          wirem_Wire_Flip.B1 w0 i bit true w  R) (
          (8 : Int) ≠ 0 ∧
          Pn w0 fun a_3 =>
          LdL a_3 w fun x38_b x38_l x38_c =>
          Pn x38_b fun a_4 =>
          (0 ≤ i ∧ i < ((x38_l : Nat) : Int)) ∧
          LdL (Addr.add a_4 (i.toNat * 3)) w fun x42_b x42_l x42_c =>
          wirem_Wire_Flip.B1 w0 i bit (decide ((IntKind.i64.wrap (bit.tdiv (8 : Int))) ≥ ((x42_l : Nat) : Int))) w  R))))
theorem wirem_Wire_Flip.B0_eq (w0 : Option Addr) (i bit : Int) (w : World)   (R : Bool → World → Prop) (sB1 : Option Addr → Int → Int → Bool → World → Prop) :
    (
  Bm (decide (i < (0 : Int))) (
    sB1 w0 i bit true w) (
    Pn w0 fun a =>
    LdL a w fun x14_b x14_l x14_c =>
    Bm (decide (i ≥ ((x14_l : Nat) : Int))) (
      sB1 w0 i bit true w) (
      Pn w0 fun a_1 =>
      LdL a_1 w fun x22_b x22_l x22_c =>
      Pn x22_b fun a_2 =>
      (0 ≤ i ∧ i < ((x22_l : Nat) : Int)) ∧
      LdB ((Addr.add a_2 (i.toNat * 3)).add 2) w fun x26 =>
      Bm x26 (
        sB1 w0 i bit true w) (
        Bm (decide (bit < (0 : Int))) (
          sB1 w0 i bit true w) (
          (8 : Int) ≠ 0 ∧
          Pn w0 fun a_3 =>
          LdL a_3 w fun x38_b x38_l x38_c =>
          Pn x38_b fun a_4 =>
          (0 ≤ i ∧ i < ((x38_l : Nat) : Int)) ∧
          LdL (Addr.add a_4 (i.toNat * 3)) w fun x42_b x42_l x42_c =>
          sB1 w0 i bit (decide ((IntKind.i64.wrap (bit.tdiv (8 : Int))) ≥ ((x42_l : Nat) : Int))) w))))) = kstep Tryz.prog 71 Tryz.f43.results.toList (Tryz.f43.body.getD .skip) (wirem_Wire_Flip.RV R) (kvc Tryz.prog 71 Tryz.f43.results.toList (Tryz.f43.body.getD .skip) (wirem_Wire_Flip.RV R) [([(0, [1, 0, 1]), (0, [1, 1])], fun σ w => dP (slotOf σ 0) fun w0_ => dI .i64 (slotOf σ 1) fun i_ => dI .i64 (slotOf σ 2) fun bit_ => dB (slotOf σ 45) fun t45_ => sB1 w0_ i_ bit_ t45_ w)] 2000) [(0, [])] [(0, .pointer w0), (1, .int .i64 i), (2, .int .i64 bit)] w := by kernel_rfl
theorem wirem_Wire_Flip.B0_sound {R : Bool → World → Prop}  (w0 : Option Addr) (i bit : Int) (w : World) (h : wirem_Wire_Flip.B0 w0 i bit w   R) :
    KW Tryz.prog 43 71 (wirem_Wire_Flip.RV R) ([(0, [])].map (toItem (Tryz.f43.body.getD .skip))) [(0, .pointer w0), (1, .int .i64 i), (2, .int .i64 bit)] w := by
  exact block_spec Tryz.func43 Tryz.mixed (stops_cons (fun σ w h => by
      obtain ⟨w0_, e0, h⟩ := dP_elim h
      obtain ⟨i_, e1, h⟩ := dI_elim h
      obtain ⟨bit_, e2, h⟩ := dI_elim h
      obtain ⟨t45_, e3, h⟩ := dB_elim h
      exact (wirem_Wire_Flip.B1_sound  w0_ i_ bit_ t45_ w h).weaken (Sub.cons (Sub.cons (Sub.cons (Sub.cons (Sub.nil _) e3) e2) e1) e0)) stops_nil) (Eq.mp (wirem_Wire_Flip.B0_eq w0 i bit w   R (fun w0_ i_ bit_ t45_ w => wirem_Wire_Flip.B1 w0_ i_ bit_ t45_ w  R)) h)
theorem wirem_Wire_Flip.sound (w0 : Option Addr) (i bit : Int) (w : World) (R : Bool → World → Prop) (h : wirem_Wire_Flip.B0 w0 i bit w R) : wirem_Wire_Flip.Call w0 i bit w R := by
  have hc := calls_of_block (args := #[.pointer w0, .int .i64 i, .int .i64 bit]) Tryz.func43 (body := (Tryz.f43.body.getD .skip)) (by kernel_rfl) (by kernel_rfl) (args_slot _) (wirem_Wire_Flip.B0_sound w0 i bit w h)
  exact hc.mono fun e w' he => by
    obtain ⟨v, rfl, hv⟩ := he
    exact wirem_Wire_Flip.RV_elim hv
def hostlaw_World_Listen.B3 (w0 : Option Addr) (c port want sd e : Int) (t60 : Bool) (w : World)   (R : Bool → World → Prop) : Prop :=
  Bm t60 (
    R false w) (
    Bm (e != want) (
      R false w) (
      Bm (e != (0 : Int)) (
        R (sd == (0 : Int)) w) (
        Pn w0 fun a =>
        (0 ≤ c ∧ c < ((3 : Nat) : Int)) ∧
        LdP (Addr.add a (c.toNat * 1)) w fun x74 =>
        host_Host_Info.Call x74 sd w fun r76_0_0 r76_0_1 r76_0_2 r76_0_3 r76_0_4 r76_0_5 r76_0_6 r76_0_7 r76_0_8 r76_1 w1 =>
        New (.cells #[.int .i64 (0 : Int), .int .i64 (0 : Int), .int .i64 (0 : Int), .int .i64 (0 : Int), .int .i64 (0 : Int), .int .i64 (0 : Int), .int .i64 (0 : Int), .bool false, .pointer none] 69) w1 fun s_ w2 =>
        Sts [.int .i64 r76_0_0, .int .i64 r76_0_1, .int .i64 r76_0_2, .int .i64 r76_0_3, .int .i64 r76_0_4, .int .i64 r76_0_5, .int .i64 r76_0_6, .bool r76_0_7, .pointer r76_0_8] ⟨s_, 0, none⟩ 0 w2 fun w3 =>
        Pn w0 fun a_1 =>
        (0 ≤ c ∧ c < ((3 : Nat) : Int)) ∧
        LdI .i64 (Addr.add (a_1.add 31) (c.toNat * 1)) w3 fun x85 =>
        Bm (decide (sd > x85)) (
          Bm (r76_1 == (0 : Int)) (
            LdI .i64 ⟨s_, 1, none⟩ w3 fun x94 =>
            Bm (x94 == (1 : Int)) (
              LdI .i64 ⟨s_, 2, none⟩ w3 fun x100 =>
              R (x100 == port) w3) (
              R false w3)) (
            R false w3)) (
          R false w3))))
theorem hostlaw_World_Listen.B3_eq (w0 : Option Addr) (c port want sd e : Int) (t60 : Bool) (w : World)   (R : Bool → World → Prop)  :
    (
  Bm t60 (
    R false w) (
    Bm (e != want) (
      R false w) (
      Bm (e != (0 : Int)) (
        R (sd == (0 : Int)) w) (
        Pn w0 fun a =>
        (0 ≤ c ∧ c < ((3 : Nat) : Int)) ∧
        LdP (Addr.add a (c.toNat * 1)) w fun x74 =>
        host_Host_Info.Call x74 sd w fun r76_0_0 r76_0_1 r76_0_2 r76_0_3 r76_0_4 r76_0_5 r76_0_6 r76_0_7 r76_0_8 r76_1 w1 =>
        New (.cells #[.int .i64 (0 : Int), .int .i64 (0 : Int), .int .i64 (0 : Int), .int .i64 (0 : Int), .int .i64 (0 : Int), .int .i64 (0 : Int), .int .i64 (0 : Int), .bool false, .pointer none] 69) w1 fun s_ w2 =>
        Sts [.int .i64 r76_0_0, .int .i64 r76_0_1, .int .i64 r76_0_2, .int .i64 r76_0_3, .int .i64 r76_0_4, .int .i64 r76_0_5, .int .i64 r76_0_6, .bool r76_0_7, .pointer r76_0_8] ⟨s_, 0, none⟩ 0 w2 fun w3 =>
        Pn w0 fun a_1 =>
        (0 ≤ c ∧ c < ((3 : Nat) : Int)) ∧
        LdI .i64 (Addr.add (a_1.add 31) (c.toNat * 1)) w3 fun x85 =>
        Bm (decide (sd > x85)) (
          Bm (r76_1 == (0 : Int)) (
            LdI .i64 ⟨s_, 1, none⟩ w3 fun x94 =>
            Bm (x94 == (1 : Int)) (
              LdI .i64 ⟨s_, 2, none⟩ w3 fun x100 =>
              R (x100 == port) w3) (
              R false w3)) (
            R false w3)) (
          R false w3))))) = kstep Tryz.prog 104 Tryz.f44.results.toList (Tryz.f44.body.getD .skip) (hostlaw_World_Listen.RV R) (kvc Tryz.prog 104 Tryz.f44.results.toList (Tryz.f44.body.getD .skip) (hostlaw_World_Listen.RV R) [] 2000) [(0, [1, 1, 1, 1, 0, 1, 0, 1, 1]), (0, [1, 1, 1, 1, 1])] [(0, .pointer w0), (1, .int .i64 c), (2, .int .i64 port), (7, .int .i64 want), (8, .int .i64 sd), (9, .int .i64 e), (60, .bool t60)] w := by kernel_rfl
theorem hostlaw_World_Listen.B3_sound {R : Bool → World → Prop}  (w0 : Option Addr) (c port want sd e : Int) (t60 : Bool) (w : World) (h : hostlaw_World_Listen.B3 w0 c port want sd e t60 w   R) :
    KW Tryz.prog 44 104 (hostlaw_World_Listen.RV R) ([(0, [1, 1, 1, 1, 0, 1, 0, 1, 1]), (0, [1, 1, 1, 1, 1])].map (toItem (Tryz.f44.body.getD .skip))) [(0, .pointer w0), (1, .int .i64 c), (2, .int .i64 port), (7, .int .i64 want), (8, .int .i64 sd), (9, .int .i64 e), (60, .bool t60)] w := by
  exact block_spec Tryz.func44 Tryz.mixed stops_nil (Eq.mp (hostlaw_World_Listen.B3_eq w0 c port want sd e t60 w   R ) h)
def hostlaw_World_Listen.B2 (w0 : Option Addr) (c port want : Int) (w : World)   (R : Bool → World → Prop) : Prop :=
  Pn w0 fun a =>
  (0 ≤ c ∧ c < ((3 : Nat) : Int)) ∧
  LdP (Addr.add a (c.toNat * 1)) w fun x33 =>
  host_Host_Listen.Call x33 port w fun r35_0 r35_1 w1 =>
  Pn w0 fun a_1 =>
  LdB (a_1.add 27) w1 fun x41 =>
  Bm x41 (
    Pn w0 fun a_2 =>
    (0 ≤ c ∧ c < ((3 : Nat) : Int)) ∧
    LdP (Addr.add (a_2.add 24) (c.toNat * 1)) w1 fun x48 =>
    host_Host_Listen.Call x48 port w1 fun r50_0 r50_1 w2 =>
    Bm (r50_0 != r35_0) (
      hostlaw_World_Listen.B3 w0 c port want r35_0 r35_1 true w2  R) (
      hostlaw_World_Listen.B3 w0 c port want r35_0 r35_1 (r50_1 != r35_1) w2  R)) (
    Bm (r35_1 != want) (
      R false w1) (
      Bm (r35_1 != (0 : Int)) (
        R (r35_0 == (0 : Int)) w1) (
        Pn w0 fun a_3 =>
        (0 ≤ c ∧ c < ((3 : Nat) : Int)) ∧
        LdP (Addr.add a_3 (c.toNat * 1)) w1 fun x74 =>
        host_Host_Info.Call x74 r35_0 w1 fun r76_0_0 r76_0_1 r76_0_2 r76_0_3 r76_0_4 r76_0_5 r76_0_6 r76_0_7 r76_0_8 r76_1 w3 =>
        New (.cells #[.int .i64 (0 : Int), .int .i64 (0 : Int), .int .i64 (0 : Int), .int .i64 (0 : Int), .int .i64 (0 : Int), .int .i64 (0 : Int), .int .i64 (0 : Int), .bool false, .pointer none] 69) w3 fun s_ w4 =>
        Sts [.int .i64 r76_0_0, .int .i64 r76_0_1, .int .i64 r76_0_2, .int .i64 r76_0_3, .int .i64 r76_0_4, .int .i64 r76_0_5, .int .i64 r76_0_6, .bool r76_0_7, .pointer r76_0_8] ⟨s_, 0, none⟩ 0 w4 fun w5 =>
        Pn w0 fun a_4 =>
        (0 ≤ c ∧ c < ((3 : Nat) : Int)) ∧
        LdI .i64 (Addr.add (a_4.add 31) (c.toNat * 1)) w5 fun x85 =>
        Bm (decide (r35_0 > x85)) (
          Bm (r76_1 == (0 : Int)) (
            LdI .i64 ⟨s_, 1, none⟩ w5 fun x94 =>
            Bm (x94 == (1 : Int)) (
              LdI .i64 ⟨s_, 2, none⟩ w5 fun x100 =>
              R (x100 == port) w5) (
              R false w5)) (
            R false w5)) (
          R false w5))))
theorem hostlaw_World_Listen.B2_eq (w0 : Option Addr) (c port want : Int) (w : World)   (R : Bool → World → Prop) (sB3 : Option Addr → Int → Int → Int → Int → Int → Bool → World → Prop) :
    (
  Pn w0 fun a =>
  (0 ≤ c ∧ c < ((3 : Nat) : Int)) ∧
  LdP (Addr.add a (c.toNat * 1)) w fun x33 =>
  host_Host_Listen.Call x33 port w fun r35_0 r35_1 w1 =>
  Pn w0 fun a_1 =>
  LdB (a_1.add 27) w1 fun x41 =>
  Bm x41 (
    Pn w0 fun a_2 =>
    (0 ≤ c ∧ c < ((3 : Nat) : Int)) ∧
    LdP (Addr.add (a_2.add 24) (c.toNat * 1)) w1 fun x48 =>
    host_Host_Listen.Call x48 port w1 fun r50_0 r50_1 w2 =>
    Bm (r50_0 != r35_0) (
      sB3 w0 c port want r35_0 r35_1 true w2) (
      sB3 w0 c port want r35_0 r35_1 (r50_1 != r35_1) w2)) (
    Bm (r35_1 != want) (
      R false w1) (
      Bm (r35_1 != (0 : Int)) (
        R (r35_0 == (0 : Int)) w1) (
        Pn w0 fun a_3 =>
        (0 ≤ c ∧ c < ((3 : Nat) : Int)) ∧
        LdP (Addr.add a_3 (c.toNat * 1)) w1 fun x74 =>
        host_Host_Info.Call x74 r35_0 w1 fun r76_0_0 r76_0_1 r76_0_2 r76_0_3 r76_0_4 r76_0_5 r76_0_6 r76_0_7 r76_0_8 r76_1 w3 =>
        New (.cells #[.int .i64 (0 : Int), .int .i64 (0 : Int), .int .i64 (0 : Int), .int .i64 (0 : Int), .int .i64 (0 : Int), .int .i64 (0 : Int), .int .i64 (0 : Int), .bool false, .pointer none] 69) w3 fun s_ w4 =>
        Sts [.int .i64 r76_0_0, .int .i64 r76_0_1, .int .i64 r76_0_2, .int .i64 r76_0_3, .int .i64 r76_0_4, .int .i64 r76_0_5, .int .i64 r76_0_6, .bool r76_0_7, .pointer r76_0_8] ⟨s_, 0, none⟩ 0 w4 fun w5 =>
        Pn w0 fun a_4 =>
        (0 ≤ c ∧ c < ((3 : Nat) : Int)) ∧
        LdI .i64 (Addr.add (a_4.add 31) (c.toNat * 1)) w5 fun x85 =>
        Bm (decide (r35_0 > x85)) (
          Bm (r76_1 == (0 : Int)) (
            LdI .i64 ⟨s_, 1, none⟩ w5 fun x94 =>
            Bm (x94 == (1 : Int)) (
              LdI .i64 ⟨s_, 2, none⟩ w5 fun x100 =>
              R (x100 == port) w5) (
              R false w5)) (
            R false w5)) (
          R false w5))))) = kstep Tryz.prog 104 Tryz.f44.results.toList (Tryz.f44.body.getD .skip) (hostlaw_World_Listen.RV R) (kvc Tryz.prog 104 Tryz.f44.results.toList (Tryz.f44.body.getD .skip) (hostlaw_World_Listen.RV R) [([(0, [1, 1, 1, 1, 0, 1, 0, 1, 1]), (0, [1, 1, 1, 1, 1])], fun σ w => dP (slotOf σ 0) fun w0_ => dI .i64 (slotOf σ 1) fun c_ => dI .i64 (slotOf σ 2) fun port_ => dI .i64 (slotOf σ 7) fun want_ => dI .i64 (slotOf σ 8) fun sd_ => dI .i64 (slotOf σ 9) fun e_ => dB (slotOf σ 60) fun t60_ => sB3 w0_ c_ port_ want_ sd_ e_ t60_ w)] 2000) [(0, [1, 1, 1])] [(0, .pointer w0), (1, .int .i64 c), (2, .int .i64 port), (7, .int .i64 want)] w := by kernel_rfl
theorem hostlaw_World_Listen.B2_sound {R : Bool → World → Prop}  (w0 : Option Addr) (c port want : Int) (w : World) (h : hostlaw_World_Listen.B2 w0 c port want w   R) :
    KW Tryz.prog 44 104 (hostlaw_World_Listen.RV R) ([(0, [1, 1, 1])].map (toItem (Tryz.f44.body.getD .skip))) [(0, .pointer w0), (1, .int .i64 c), (2, .int .i64 port), (7, .int .i64 want)] w := by
  exact block_spec Tryz.func44 Tryz.mixed (stops_cons (fun σ w h => by
      obtain ⟨w0_, e0, h⟩ := dP_elim h
      obtain ⟨c_, e1, h⟩ := dI_elim h
      obtain ⟨port_, e2, h⟩ := dI_elim h
      obtain ⟨want_, e3, h⟩ := dI_elim h
      obtain ⟨sd_, e4, h⟩ := dI_elim h
      obtain ⟨e_, e5, h⟩ := dI_elim h
      obtain ⟨t60_, e6, h⟩ := dB_elim h
      exact (hostlaw_World_Listen.B3_sound  w0_ c_ port_ want_ sd_ e_ t60_ w h).weaken (Sub.cons (Sub.cons (Sub.cons (Sub.cons (Sub.cons (Sub.cons (Sub.cons (Sub.nil _) e6) e5) e4) e3) e2) e1) e0)) stops_nil) (Eq.mp (hostlaw_World_Listen.B2_eq w0 c port want w   R (fun w0_ c_ port_ want_ sd_ e_ t60_ w => hostlaw_World_Listen.B3 w0_ c_ port_ want_ sd_ e_ t60_ w  R)) h)
def hostlaw_World_Listen.B1 (w0 : Option Addr) (c port want : Int) (t18 : Bool) (w : World)   (R : Bool → World → Prop) : Prop :=
  Bm t18 (
    hostlaw_World_Listen.B2 w0 c port (22 : Int) w  R) (
    hostlaw_World_listens.Call w0 c port w fun r22 w1 =>
    Bm r22 (
      hostlaw_World_Listen.B2 w0 c port (23 : Int) w1  R) (
      hostlaw_World_count.Call w0 c (1 : Int) w1 fun r25 w2 =>
      Bm (r25 == (2 : Int)) (
        hostlaw_World_Listen.B2 w0 c port (11 : Int) w2  R) (
        hostlaw_World_Listen.B2 w0 c port want w2  R)))
theorem hostlaw_World_Listen.B1_eq (w0 : Option Addr) (c port want : Int) (t18 : Bool) (w : World)   (R : Bool → World → Prop) (sB2 : Option Addr → Int → Int → Int → World → Prop) :
    (
  Bm t18 (
    sB2 w0 c port (22 : Int) w) (
    hostlaw_World_listens.Call w0 c port w fun r22 w1 =>
    Bm r22 (
      sB2 w0 c port (23 : Int) w1) (
      hostlaw_World_count.Call w0 c (1 : Int) w1 fun r25 w2 =>
      Bm (r25 == (2 : Int)) (
        sB2 w0 c port (11 : Int) w2) (
        sB2 w0 c port want w2)))) = kstep Tryz.prog 104 Tryz.f44.results.toList (Tryz.f44.body.getD .skip) (hostlaw_World_Listen.RV R) (kvc Tryz.prog 104 Tryz.f44.results.toList (Tryz.f44.body.getD .skip) (hostlaw_World_Listen.RV R) [([(0, [1, 1, 1])], fun σ w => dP (slotOf σ 0) fun w0_ => dI .i64 (slotOf σ 1) fun c_ => dI .i64 (slotOf σ 2) fun port_ => dI .i64 (slotOf σ 7) fun want_ => sB2 w0_ c_ port_ want_ w)] 2000) [(0, [1, 1, 0, 1]), (0, [1, 1, 1])] [(0, .pointer w0), (1, .int .i64 c), (2, .int .i64 port), (7, .int .i64 want), (18, .bool t18)] w := by kernel_rfl
theorem hostlaw_World_Listen.B1_sound {R : Bool → World → Prop}  (w0 : Option Addr) (c port want : Int) (t18 : Bool) (w : World) (h : hostlaw_World_Listen.B1 w0 c port want t18 w   R) :
    KW Tryz.prog 44 104 (hostlaw_World_Listen.RV R) ([(0, [1, 1, 0, 1]), (0, [1, 1, 1])].map (toItem (Tryz.f44.body.getD .skip))) [(0, .pointer w0), (1, .int .i64 c), (2, .int .i64 port), (7, .int .i64 want), (18, .bool t18)] w := by
  exact block_spec Tryz.func44 Tryz.mixed (stops_cons (fun σ w h => by
      obtain ⟨w0_, e0, h⟩ := dP_elim h
      obtain ⟨c_, e1, h⟩ := dI_elim h
      obtain ⟨port_, e2, h⟩ := dI_elim h
      obtain ⟨want_, e3, h⟩ := dI_elim h
      exact (hostlaw_World_Listen.B2_sound  w0_ c_ port_ want_ w h).weaken (Sub.cons (Sub.cons (Sub.cons (Sub.cons (Sub.nil _) e3) e2) e1) e0)) stops_nil) (Eq.mp (hostlaw_World_Listen.B1_eq w0 c port want t18 w   R (fun w0_ c_ port_ want_ w => hostlaw_World_Listen.B2 w0_ c_ port_ want_ w  R)) h)
def hostlaw_World_Listen.B0 (w0 : Option Addr) (c port : Int) (w : World)   (R : Bool → World → Prop) : Prop :=
  Bm (decide (port < (1 : Int))) (
    hostlaw_World_Listen.B1 w0 c port (0 : Int) true w  R) (
    hostlaw_World_Listen.B1 w0 c port (0 : Int) (decide (port ≥ (8 : Int))) w  R)
theorem hostlaw_World_Listen.B0_eq (w0 : Option Addr) (c port : Int) (w : World)   (R : Bool → World → Prop) (sB1 : Option Addr → Int → Int → Int → Bool → World → Prop) :
    (
  Bm (decide (port < (1 : Int))) (
    sB1 w0 c port (0 : Int) true w) (
    sB1 w0 c port (0 : Int) (decide (port ≥ (8 : Int))) w)) = kstep Tryz.prog 104 Tryz.f44.results.toList (Tryz.f44.body.getD .skip) (hostlaw_World_Listen.RV R) (kvc Tryz.prog 104 Tryz.f44.results.toList (Tryz.f44.body.getD .skip) (hostlaw_World_Listen.RV R) [([(0, [1, 1, 0, 1]), (0, [1, 1, 1])], fun σ w => dP (slotOf σ 0) fun w0_ => dI .i64 (slotOf σ 1) fun c_ => dI .i64 (slotOf σ 2) fun port_ => dI .i64 (slotOf σ 7) fun want_ => dB (slotOf σ 18) fun t18_ => sB1 w0_ c_ port_ want_ t18_ w)] 2000) [(0, [])] [(0, .pointer w0), (1, .int .i64 c), (2, .int .i64 port)] w := by kernel_rfl
theorem hostlaw_World_Listen.B0_sound {R : Bool → World → Prop}  (w0 : Option Addr) (c port : Int) (w : World) (h : hostlaw_World_Listen.B0 w0 c port w   R) :
    KW Tryz.prog 44 104 (hostlaw_World_Listen.RV R) ([(0, [])].map (toItem (Tryz.f44.body.getD .skip))) [(0, .pointer w0), (1, .int .i64 c), (2, .int .i64 port)] w := by
  exact block_spec Tryz.func44 Tryz.mixed (stops_cons (fun σ w h => by
      obtain ⟨w0_, e0, h⟩ := dP_elim h
      obtain ⟨c_, e1, h⟩ := dI_elim h
      obtain ⟨port_, e2, h⟩ := dI_elim h
      obtain ⟨want_, e3, h⟩ := dI_elim h
      obtain ⟨t18_, e4, h⟩ := dB_elim h
      exact (hostlaw_World_Listen.B1_sound  w0_ c_ port_ want_ t18_ w h).weaken (Sub.cons (Sub.cons (Sub.cons (Sub.cons (Sub.cons (Sub.nil _) e4) e3) e2) e1) e0)) stops_nil) (Eq.mp (hostlaw_World_Listen.B0_eq w0 c port w   R (fun w0_ c_ port_ want_ t18_ w => hostlaw_World_Listen.B1 w0_ c_ port_ want_ t18_ w  R)) h)
theorem hostlaw_World_Listen.sound (w0 : Option Addr) (c port : Int) (w : World) (R : Bool → World → Prop) (h : hostlaw_World_Listen.B0 w0 c port w R) : hostlaw_World_Listen.Call w0 c port w R := by
  have hc := calls_of_block (args := #[.pointer w0, .int .i64 c, .int .i64 port]) Tryz.func44 (body := (Tryz.f44.body.getD .skip)) (by kernel_rfl) (by kernel_rfl) (args_slot _) (hostlaw_World_Listen.B0_sound w0 c port w h)
  exact hc.mono fun e w' he => by
    obtain ⟨v, rfl, hv⟩ := he
    exact hostlaw_World_Listen.RV_elim hv
end Go.Proofs.Qxb6500424aGreat
