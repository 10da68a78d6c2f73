import Derived.Test.Qxb6500424aGreatSig
set_option maxRecDepth 100000
set_option linter.unusedVariables false
open Go.Vc
namespace Go.Proofs.Qxb6500424aGreat
def hostlaw_World_Connect.B8 (w0 : Option Addr) (c rhost rport : Int) (fr_b : Option Addr) (fr_l fr_c s : Nat) (i : Int) (t214 : Bool) (w : World) (N1 : Option Addr → Int → Int → Int → Option Addr → Nat → Nat → Nat → Int → World → Prop)  (R : Bool → World → Prop) : Prop :=
  Bm t214 (
    R false w) (
    N1 w0 c rhost rport fr_b fr_l fr_c s (IntKind.i64.wrap (i + (1 : Int))) w)
theorem hostlaw_World_Connect.B8_eq (w0 : Option Addr) (c rhost rport : Int) (fr_b : Option Addr) (fr_l fr_c s : Nat) (i : Int) (t214 : Bool) (w : World) (N1 : Option Addr → Int → Int → Int → Option Addr → Nat → Nat → Nat → Int → World → Prop)  (R : Bool → World → Prop)  :
    (
  Bm t214 (
    R false w) (
    N1 w0 c rhost rport fr_b fr_l fr_c s (IntKind.i64.wrap (i + (1 : Int))) w)) = kstep Tryz.prog 227 Tryz.f45.results.toList (Tryz.f45.body.getD .skip) (hostlaw_World_Connect.RV R) (kvc Tryz.prog 227 Tryz.f45.results.toList (Tryz.f45.body.getD .skip) (hostlaw_World_Connect.RV R) [([(0, [1, 1, 1, 1, 1, 1, 1, 1, 1, 1, 0, 1, 0, 0]), (2, [1, 1, 1, 1, 1, 1, 1, 1, 1, 1, 0, 1, 0, 0]), (1, [0]), (0, [1, 1, 1, 1, 1, 1, 1, 1, 1, 1, 1])], fun σ w => dP (slotOf σ 0) fun w0_ => dI .i64 (slotOf σ 1) fun c_ => dI .i64 (slotOf σ 2) fun rhost_ => dI .i64 (slotOf σ 3) fun rport_ => dL (slotOf σ 11) fun fr_b_ fr_l_ fr_c_ => dK (slotOf σ 16) fun s_ => dI .i64 (slotOf σ 17) fun i_ => N1 w0_ c_ rhost_ rport_ fr_b_ fr_l_ fr_c_ s_ i_ w)] 2000) [(0, [1, 1, 1, 1, 1, 1, 1, 1, 1, 1, 0, 1, 0, 0, 1, 0, 0, 1, 1]), (1, [1]), (0, [1, 1, 1, 1, 1, 1, 1, 1, 1, 1, 0, 1, 0, 0, 1, 1]), (2, [1, 1, 1, 1, 1, 1, 1, 1, 1, 1, 0, 1, 0, 0]), (1, [0]), (0, [1, 1, 1, 1, 1, 1, 1, 1, 1, 1, 1])] [(0, .pointer w0), (1, .int .i64 c), (2, .int .i64 rhost), (3, .int .i64 rport), (11, .slice fr_b fr_l fr_c), (16, .pointer (some ⟨s, 0, none⟩)), (17, .int .i64 i), (214, .bool t214)] w := by kernel_rfl
theorem hostlaw_World_Connect.B8_sound {R : Bool → World → Prop} {N1 : Option Addr → Int → Int → Int → Option Addr → Nat → Nat → Nat → Int → World → Prop} (hN1 : ∀ w0 c rhost rport fr_b fr_l fr_c s i w, N1 w0 c rhost rport fr_b fr_l fr_c s i w → KW Tryz.prog 45 227 (hostlaw_World_Connect.RV R) ([(0, [1, 1, 1, 1, 1, 1, 1, 1, 1, 1, 0, 1, 0, 0]), (2, [1, 1, 1, 1, 1, 1, 1, 1, 1, 1, 0, 1, 0, 0]), (1, [0]), (0, [1, 1, 1, 1, 1, 1, 1, 1, 1, 1, 1])].map (toItem (Tryz.f45.body.getD .skip))) [(0, .pointer w0), (1, .int .i64 c), (2, .int .i64 rhost), (3, .int .i64 rport), (11, .slice fr_b fr_l fr_c), (16, .pointer (some ⟨s, 0, none⟩)), (17, .int .i64 i)] w) (w0 : Option Addr) (c rhost rport : Int) (fr_b : Option Addr) (fr_l fr_c s : Nat) (i : Int) (t214 : Bool) (w : World) (h : hostlaw_World_Connect.B8 w0 c rhost rport fr_b fr_l fr_c s i t214 w N1  R) :
    KW Tryz.prog 45 227 (hostlaw_World_Connect.RV R) ([(0, [1, 1, 1, 1, 1, 1, 1, 1, 1, 1, 0, 1, 0, 0, 1, 0, 0, 1, 1]), (1, [1]), (0, [1, 1, 1, 1, 1, 1, 1, 1, 1, 1, 0, 1, 0, 0, 1, 1]), (2, [1, 1, 1, 1, 1, 1, 1, 1, 1, 1, 0, 1, 0, 0]), (1, [0]), (0, [1, 1, 1, 1, 1, 1, 1, 1, 1, 1, 1])].map (toItem (Tryz.f45.body.getD .skip))) [(0, .pointer w0), (1, .int .i64 c), (2, .int .i64 rhost), (3, .int .i64 rport), (11, .slice fr_b fr_l fr_c), (16, .pointer (some ⟨s, 0, none⟩)), (17, .int .i64 i), (214, .bool t214)] w := by
  exact block_spec Tryz.func45 Tryz.mixed (stops_cons (fun σ w h => by
      obtain ⟨w0_, e0, h⟩ := dP_elim h
      obtain ⟨c_, e1, h⟩ := dI_elim h
      obtain ⟨rhost_, e2, h⟩ := dI_elim h
      obtain ⟨rport_, e3, h⟩ := dI_elim h
      obtain ⟨fr_b_, fr_l_, fr_c_, e4, h⟩ := dL_elim h
      obtain ⟨s_, e5, h⟩ := dK_elim h
      obtain ⟨i_, e6, h⟩ := dI_elim h
      exact (hN1 w0_ c_ rhost_ rport_ fr_b_ fr_l_ fr_c_ s_ i_ w h).weaken (Sub.cons (Sub.cons (Sub.cons (Sub.cons (Sub.cons (Sub.cons (Sub.cons (Sub.nil _) e6) e5) e4) e3) e2) e1) e0)) stops_nil) (Eq.mp (hostlaw_World_Connect.B8_eq w0 c rhost rport fr_b fr_l fr_c s i t214 w N1  R ) h)
def hostlaw_World_Connect.B7 (w0 : Option Addr) (c rhost rport : Int) (fr_b : Option Addr) (fr_l fr_c s : Nat) (i : Int) (o : Nat) (e : Int) (w : World) (N1 : Option Addr → Int → Int → Int → Option Addr → Nat → Nat → Nat → Int → World → Prop)  (R : Bool → World → Prop) : Prop :=
  Bm (e == (0 : Int)) (
    LdI .i64 ⟨o, 1, none⟩ w fun x189 =>
    Bm (x189 == (2 : Int)) (
      LdI .i64 ⟨o, 2, none⟩ w fun x195 =>
      LdI .i64 ⟨s, 2, none⟩ w fun x198 =>
      Bm (x195 == x198) (
        LdI .i64 ⟨o, 3, none⟩ w fun x204 =>
        Bm (x204 == rhost) (
          LdI .i64 ⟨o, 4, none⟩ w fun x211 =>
          hostlaw_World_Connect.B8 w0 c rhost rport fr_b fr_l fr_c s i (x211 == rport) w N1 R) (
          hostlaw_World_Connect.B8 w0 c rhost rport fr_b fr_l fr_c s i false w N1 R)) (
        hostlaw_World_Connect.B8 w0 c rhost rport fr_b fr_l fr_c s i false w N1 R)) (
      hostlaw_World_Connect.B8 w0 c rhost rport fr_b fr_l fr_c s i false w N1 R)) (
    hostlaw_World_Connect.B8 w0 c rhost rport fr_b fr_l fr_c s i false w N1 R)
theorem hostlaw_World_Connect.B7_eq (w0 : Option Addr) (c rhost rport : Int) (fr_b : Option Addr) (fr_l fr_c s : Nat) (i : Int) (o : Nat) (e : Int) (w : World) (N1 : Option Addr → Int → Int → Int → Option Addr → Nat → Nat → Nat → Int → World → Prop)  (R : Bool → World → Prop) (sB8 : Option Addr → Int → Int → Int → Option Addr → Nat → Nat → Nat → Int → Bool → World → Prop) :
    (
  Bm (e == (0 : Int)) (
    LdI .i64 ⟨o, 1, none⟩ w fun x189 =>
    Bm (x189 == (2 : Int)) (
      LdI .i64 ⟨o, 2, none⟩ w fun x195 =>
      LdI .i64 ⟨s, 2, none⟩ w fun x198 =>
      Bm (x195 == x198) (
        LdI .i64 ⟨o, 3, none⟩ w fun x204 =>
        Bm (x204 == rhost) (
          LdI .i64 ⟨o, 4, none⟩ w fun x211 =>
          sB8 w0 c rhost rport fr_b fr_l fr_c s i (x211 == rport) w) (
          sB8 w0 c rhost rport fr_b fr_l fr_c s i false w)) (
        sB8 w0 c rhost rport fr_b fr_l fr_c s i false w)) (
      sB8 w0 c rhost rport fr_b fr_l fr_c s i false w)) (
    sB8 w0 c rhost rport fr_b fr_l fr_c s i false w)) = kstep Tryz.prog 227 Tryz.f45.results.toList (Tryz.f45.body.getD .skip) (hostlaw_World_Connect.RV R) (kvc Tryz.prog 227 Tryz.f45.results.toList (Tryz.f45.body.getD .skip) (hostlaw_World_Connect.RV R) [([(0, [1, 1, 1, 1, 1, 1, 1, 1, 1, 1, 0, 1, 0, 0, 1, 0, 0, 1, 1]), (1, [1]), (0, [1, 1, 1, 1, 1, 1, 1, 1, 1, 1, 0, 1, 0, 0, 1, 1]), (2, [1, 1, 1, 1, 1, 1, 1, 1, 1, 1, 0, 1, 0, 0]), (1, [0]), (0, [1, 1, 1, 1, 1, 1, 1, 1, 1, 1, 1])], fun σ w => dP (slotOf σ 0) fun w0_ => dI .i64 (slotOf σ 1) fun c_ => dI .i64 (slotOf σ 2) fun rhost_ => dI .i64 (slotOf σ 3) fun rport_ => dL (slotOf σ 11) fun fr_b_ fr_l_ fr_c_ => dK (slotOf σ 16) fun s_ => dI .i64 (slotOf σ 17) fun i_ => dB (slotOf σ 214) fun t214_ => sB8 w0_ c_ rhost_ rport_ fr_b_ fr_l_ fr_c_ s_ i_ t214_ w)] 2000) [(0, [1, 1, 1, 1, 1, 1, 1, 1, 1, 1, 0, 1, 0, 0, 1, 0, 0, 1]), (1, [1]), (0, [1, 1, 1, 1, 1, 1, 1, 1, 1, 1, 0, 1, 0, 0, 1, 1]), (2, [1, 1, 1, 1, 1, 1, 1, 1, 1, 1, 0, 1, 0, 0]), (1, [0]), (0, [1, 1, 1, 1, 1, 1, 1, 1, 1, 1, 1])] [(0, .pointer w0), (1, .int .i64 c), (2, .int .i64 rhost), (3, .int .i64 rport), (11, .slice fr_b fr_l fr_c), (16, .pointer (some ⟨s, 0, none⟩)), (17, .int .i64 i), (18, .pointer (some ⟨o, 0, none⟩)), (19, .int .i64 e)] w := by kernel_rfl
theorem hostlaw_World_Connect.B7_sound {R : Bool → World → Prop} {N1 : Option Addr → Int → Int → Int → Option Addr → Nat → Nat → Nat → Int → World → Prop} (hN1 : ∀ w0 c rhost rport fr_b fr_l fr_c s i w, N1 w0 c rhost rport fr_b fr_l fr_c s i w → KW Tryz.prog 45 227 (hostlaw_World_Connect.RV R) ([(0, [1, 1, 1, 1, 1, 1, 1, 1, 1, 1, 0, 1, 0, 0]), (2, [1, 1, 1, 1, 1, 1, 1, 1, 1, 1, 0, 1, 0, 0]), (1, [0]), (0, [1, 1, 1, 1, 1, 1, 1, 1, 1, 1, 1])].map (toItem (Tryz.f45.body.getD .skip))) [(0, .pointer w0), (1, .int .i64 c), (2, .int .i64 rhost), (3, .int .i64 rport), (11, .slice fr_b fr_l fr_c), (16, .pointer (some ⟨s, 0, none⟩)), (17, .int .i64 i)] w) (w0 : Option Addr) (c rhost rport : Int) (fr_b : Option Addr) (fr_l fr_c s : Nat) (i : Int) (o : Nat) (e : Int) (w : World) (h : hostlaw_World_Connect.B7 w0 c rhost rport fr_b fr_l fr_c s i o e w N1  R) :
    KW Tryz.prog 45 227 (hostlaw_World_Connect.RV R) ([(0, [1, 1, 1, 1, 1, 1, 1, 1, 1, 1, 0, 1, 0, 0, 1, 0, 0, 1]), (1, [1]), (0, [1, 1, 1, 1, 1, 1, 1, 1, 1, 1, 0, 1, 0, 0, 1, 1]), (2, [1, 1, 1, 1, 1, 1, 1, 1, 1, 1, 0, 1, 0, 0]), (1, [0]), (0, [1, 1, 1, 1, 1, 1, 1, 1, 1, 1, 1])].map (toItem (Tryz.f45.body.getD .skip))) [(0, .pointer w0), (1, .int .i64 c), (2, .int .i64 rhost), (3, .int .i64 rport), (11, .slice fr_b fr_l fr_c), (16, .pointer (some ⟨s, 0, none⟩)), (17, .int .i64 i), (18, .pointer (some ⟨o, 0, none⟩)), (19, .int .i64 e)] w := by
  exact block_spec Tryz.func45 Tryz.mixed (stops_cons (fun σ w h => by
      obtain ⟨w0_, e0, h⟩ := dP_elim h
      obtain ⟨c_, e1, h⟩ := dI_elim h
      obtain ⟨rhost_, e2, h⟩ := dI_elim h
      obtain ⟨rport_, e3, h⟩ := dI_elim h
      obtain ⟨fr_b_, fr_l_, fr_c_, e4, h⟩ := dL_elim h
      obtain ⟨s_, e5, h⟩ := dK_elim h
      obtain ⟨i_, e6, h⟩ := dI_elim h
      obtain ⟨t214_, e7, h⟩ := dB_elim h
      exact (hostlaw_World_Connect.B8_sound hN1 w0_ c_ rhost_ rport_ fr_b_ fr_l_ fr_c_ s_ i_ t214_ w h).weaken (Sub.cons (Sub.cons (Sub.cons (Sub.cons (Sub.cons (Sub.cons (Sub.cons (Sub.cons (Sub.nil _) e7) e6) e5) e4) e3) e2) e1) e0)) stops_nil) (Eq.mp (hostlaw_World_Connect.B7_eq w0 c rhost rport fr_b fr_l fr_c s i o e w N1  R (fun w0_ c_ rhost_ rport_ fr_b_ fr_l_ fr_c_ s_ i_ t214_ w => hostlaw_World_Connect.B8 w0_ c_ rhost_ rport_ fr_b_ fr_l_ fr_c_ s_ i_ t214_ w N1 R)) h)
def hostlaw_World_Connect.L1b (w0 : Option Addr) (c rhost rport : Int) (fr_b : Option Addr) (fr_l fr_c s : Nat) (i : Int) (w : World)  (N1 : Option Addr → Int → Int → Int → Option Addr → Nat → Nat → Nat → Int → World → Prop) (R : Bool → World → Prop) : Prop :=
  Pn w0 fun a =>
  (0 ≤ c ∧ c < ((3 : Nat) : Int)) ∧
  LdL (Addr.add (a.add 34) (c.toNat * 1)) w fun x160_b x160_l x160_c =>
  Bm (decide (i < ((x160_l : Nat) : Int))) (
    Pn w0 fun a_1 =>
    (0 ≤ c ∧ c < ((3 : Nat) : Int)) ∧
    LdP (Addr.add a_1 (c.toNat * 1)) w.drew fun x171 =>
    Pn w0 fun a_2 =>
    (0 ≤ c ∧ c < ((3 : Nat) : Int)) ∧
    LdL (Addr.add (a_2.add 34) (c.toNat * 1)) w.drew fun x177_b x177_l x177_c =>
    Pn x177_b fun a_3 =>
    (0 ≤ i ∧ i < ((x177_l : Nat) : Int)) ∧
    LdI .i64 (Addr.add a_3 (i.toNat * 1)) w.drew fun x180 =>
    ((
      host_Host_Info.Call x171 x180 w.drew fun r181_0_0 r181_0_1 r181_0_2 r181_0_3 r181_0_4 r181_0_5 r181_0_6 r181_0_7 r181_0_8 r181_1 w1 =>
      New (.cells #[.int .i64 (0 : Int), .int .i64 (0 : Int), .int .i64 (0 : Int), .int .i64 (0 : Int), .int .i64 (0 : Int), .int .i64 (0 : Int), .int .i64 (0 : Int), .bool false, .pointer none] 69) w1 fun o_ w2 =>
      Sts [.int .i64 r181_0_0, .int .i64 r181_0_1, .int .i64 r181_0_2, .int .i64 r181_0_3, .int .i64 r181_0_4, .int .i64 r181_0_5, .int .i64 r181_0_6, .bool r181_0_7, .pointer r181_0_8] ⟨o_, 0, none⟩ 0 w2 fun w3 =>
      hostlaw_World_Connect.B7 w0 c rhost rport fr_b fr_l fr_c s i o_ r181_1 w3 N1 R) ∧ (
      New (.cells #[.int .i64 (0 : Int), .int .i64 (0 : Int), .int .i64 (0 : Int), .int .i64 (0 : Int), .int .i64 (0 : Int), .int .i64 (0 : Int), .int .i64 (0 : Int), .bool false, .pointer none] 69) w.drew fun o__1 w4 =>
      w4.cell? (Addr.add a_3 (i.toNat * 1)) = some (.int .i64 x180) ∧
      w4.cell? (Addr.add (a_2.add 34) (c.toNat * 1)) = some (.slice x177_b x177_l x177_c) ∧
      w4.cell? (Addr.add a_1 (c.toNat * 1)) = some (.pointer x171) ∧
      host_Host_Info.Call x171 x180 w4 fun r181_0_0_1 r181_0_1_1 r181_0_2_1 r181_0_3_1 r181_0_4_1 r181_0_5_1 r181_0_6_1 r181_0_7_1 r181_0_8_1 r181_1_1 w5 =>
      Sts [.int .i64 r181_0_0_1, .int .i64 r181_0_1_1, .int .i64 r181_0_2_1, .int .i64 r181_0_3_1, .int .i64 r181_0_4_1, .int .i64 r181_0_5_1, .int .i64 r181_0_6_1, .bool r181_0_7_1, .pointer r181_0_8_1] ⟨o__1, 0, none⟩ 0 w5 fun w6 =>
      hostlaw_World_Connect.B7 w0 c rhost rport fr_b fr_l fr_c s i o__1 r181_1_1 w6 N1 R))) (
    Pn w0 fun a_4 =>
    LdP (a_4.add 30) w.drew fun x218 =>
    LdI .i64 ⟨s, 0, none⟩ w.drew fun x220_0 =>
    LdI .i64 ⟨s, 1, none⟩ w.drew fun x220_1 =>
    LdI .i64 ⟨s, 2, none⟩ w.drew fun x220_2 =>
    LdI .i64 ⟨s, 3, none⟩ w.drew fun x220_3 =>
    LdI .i64 ⟨s, 4, none⟩ w.drew fun x220_4 =>
    LdI .i64 ⟨s, 5, none⟩ w.drew fun x220_5 =>
    LdI .i64 ⟨s, 6, none⟩ w.drew fun x220_6 =>
    LdB ⟨s, 7, none⟩ w.drew fun x220_7 =>
    LdP ⟨s, 8, none⟩ w.drew fun x220_8 =>
    hostm_Net_Connected.Call x218 c x220_0 x220_1 x220_2 x220_3 x220_4 x220_5 x220_6 x220_7 x220_8 w.drew fun r221 w7 =>
    Bm (!r221) (
      R false w7) (
      hostlaw_World_Put.Call w0 c fr_b fr_l fr_c w7 fun w8 =>
      R true w8))
theorem hostlaw_World_Connect.L1b_eq (w0 : Option Addr) (c rhost rport : Int) (fr_b : Option Addr) (fr_l fr_c s : Nat) (i : Int) (w : World)  (N1 : Option Addr → Int → Int → Int → Option Addr → Nat → Nat → Nat → Int → World → Prop) (R : Bool → World → Prop) (sB7 : Option Addr → Int → Int → Int → Option Addr → Nat → Nat → Nat → Int → Nat → Int → World → Prop) :
    (
  Pn w0 fun a =>
  (0 ≤ c ∧ c < ((3 : Nat) : Int)) ∧
  LdL (Addr.add (a.add 34) (c.toNat * 1)) w fun x160_b x160_l x160_c =>
  Bm (decide (i < ((x160_l : Nat) : Int))) (
    Pn w0 fun a_1 =>
    (0 ≤ c ∧ c < ((3 : Nat) : Int)) ∧
    LdP (Addr.add a_1 (c.toNat * 1)) w.drew fun x171 =>
    Pn w0 fun a_2 =>
    (0 ≤ c ∧ c < ((3 : Nat) : Int)) ∧
    LdL (Addr.add (a_2.add 34) (c.toNat * 1)) w.drew fun x177_b x177_l x177_c =>
    Pn x177_b fun a_3 =>
    (0 ≤ i ∧ i < ((x177_l : Nat) : Int)) ∧
    LdI .i64 (Addr.add a_3 (i.toNat * 1)) w.drew fun x180 =>
    ((
      host_Host_Info.Call x171 x180 w.drew fun r181_0_0 r181_0_1 r181_0_2 r181_0_3 r181_0_4 r181_0_5 r181_0_6 r181_0_7 r181_0_8 r181_1 w1 =>
      New (.cells #[.int .i64 (0 : Int), .int .i64 (0 : Int), .int .i64 (0 : Int), .int .i64 (0 : Int), .int .i64 (0 : Int), .int .i64 (0 : Int), .int .i64 (0 : Int), .bool false, .pointer none] 69) w1 fun o_ w2 =>
      Sts [.int .i64 r181_0_0, .int .i64 r181_0_1, .int .i64 r181_0_2, .int .i64 r181_0_3, .int .i64 r181_0_4, .int .i64 r181_0_5, .int .i64 r181_0_6, .bool r181_0_7, .pointer r181_0_8] ⟨o_, 0, none⟩ 0 w2 fun w3 =>
      sB7 w0 c rhost rport fr_b fr_l fr_c s i o_ r181_1 w3) ∧ (
      New (.cells #[.int .i64 (0 : Int), .int .i64 (0 : Int), .int .i64 (0 : Int), .int .i64 (0 : Int), .int .i64 (0 : Int), .int .i64 (0 : Int), .int .i64 (0 : Int), .bool false, .pointer none] 69) w.drew fun o__1 w4 =>
      w4.cell? (Addr.add a_3 (i.toNat * 1)) = some (.int .i64 x180) ∧
      w4.cell? (Addr.add (a_2.add 34) (c.toNat * 1)) = some (.slice x177_b x177_l x177_c) ∧
      w4.cell? (Addr.add a_1 (c.toNat * 1)) = some (.pointer x171) ∧
      host_Host_Info.Call x171 x180 w4 fun r181_0_0_1 r181_0_1_1 r181_0_2_1 r181_0_3_1 r181_0_4_1 r181_0_5_1 r181_0_6_1 r181_0_7_1 r181_0_8_1 r181_1_1 w5 =>
      Sts [.int .i64 r181_0_0_1, .int .i64 r181_0_1_1, .int .i64 r181_0_2_1, .int .i64 r181_0_3_1, .int .i64 r181_0_4_1, .int .i64 r181_0_5_1, .int .i64 r181_0_6_1, .bool r181_0_7_1, .pointer r181_0_8_1] ⟨o__1, 0, none⟩ 0 w5 fun w6 =>
      sB7 w0 c rhost rport fr_b fr_l fr_c s i o__1 r181_1_1 w6))) (
    Pn w0 fun a_4 =>
    LdP (a_4.add 30) w.drew fun x218 =>
    LdI .i64 ⟨s, 0, none⟩ w.drew fun x220_0 =>
    LdI .i64 ⟨s, 1, none⟩ w.drew fun x220_1 =>
    LdI .i64 ⟨s, 2, none⟩ w.drew fun x220_2 =>
    LdI .i64 ⟨s, 3, none⟩ w.drew fun x220_3 =>
    LdI .i64 ⟨s, 4, none⟩ w.drew fun x220_4 =>
    LdI .i64 ⟨s, 5, none⟩ w.drew fun x220_5 =>
    LdI .i64 ⟨s, 6, none⟩ w.drew fun x220_6 =>
    LdB ⟨s, 7, none⟩ w.drew fun x220_7 =>
    LdP ⟨s, 8, none⟩ w.drew fun x220_8 =>
    hostm_Net_Connected.Call x218 c x220_0 x220_1 x220_2 x220_3 x220_4 x220_5 x220_6 x220_7 x220_8 w.drew fun r221 w7 =>
    Bm (!r221) (
      R false w7) (
      hostlaw_World_Put.Call w0 c fr_b fr_l fr_c w7 fun w8 =>
      R true w8))) = kstep Tryz.prog 227 Tryz.f45.results.toList (Tryz.f45.body.getD .skip) (hostlaw_World_Connect.RV R) (kvc Tryz.prog 227 Tryz.f45.results.toList (Tryz.f45.body.getD .skip) (hostlaw_World_Connect.RV R) [([(0, [1, 1, 1, 1, 1, 1, 1, 1, 1, 1, 0, 1, 0, 0, 1, 0, 0, 1]), (1, [1]), (0, [1, 1, 1, 1, 1, 1, 1, 1, 1, 1, 0, 1, 0, 0, 1, 1]), (2, [1, 1, 1, 1, 1, 1, 1, 1, 1, 1, 0, 1, 0, 0]), (1, [0]), (0, [1, 1, 1, 1, 1, 1, 1, 1, 1, 1, 1])], fun σ w => dP (slotOf σ 0) fun w0_ => dI .i64 (slotOf σ 1) fun c_ => dI .i64 (slotOf σ 2) fun rhost_ => dI .i64 (slotOf σ 3) fun rport_ => dL (slotOf σ 11) fun fr_b_ fr_l_ fr_c_ => dK (slotOf σ 16) fun s_ => dI .i64 (slotOf σ 17) fun i_ => dK (slotOf σ 18) fun o_ => dI .i64 (slotOf σ 19) fun e_ => sB7 w0_ c_ rhost_ rport_ fr_b_ fr_l_ fr_c_ s_ i_ o_ e_ w)] 2000) [(0, [1, 1, 1, 1, 1, 1, 1, 1, 1, 1, 0, 1, 0, 0]), (2, [1, 1, 1, 1, 1, 1, 1, 1, 1, 1, 0, 1, 0, 0]), (1, [0]), (0, [1, 1, 1, 1, 1, 1, 1, 1, 1, 1, 1])] [(0, .pointer w0), (1, .int .i64 c), (2, .int .i64 rhost), (3, .int .i64 rport), (11, .slice fr_b fr_l fr_c), (16, .pointer (some ⟨s, 0, none⟩)), (17, .int .i64 i)] w := by kernel_rfl
theorem hostlaw_World_Connect.L1b_sound {R : Bool → World → Prop} {N1 : Option Addr → Int → Int → Int → Option Addr → Nat → Nat → Nat → Int → World → Prop} (hN1 : ∀ w0 c rhost rport fr_b fr_l fr_c s i w, N1 w0 c rhost rport fr_b fr_l fr_c s i w → KW Tryz.prog 45 227 (hostlaw_World_Connect.RV R) ([(0, [1, 1, 1, 1, 1, 1, 1, 1, 1, 1, 0, 1, 0, 0]), (2, [1, 1, 1, 1, 1, 1, 1, 1, 1, 1, 0, 1, 0, 0]), (1, [0]), (0, [1, 1, 1, 1, 1, 1, 1, 1, 1, 1, 1])].map (toItem (Tryz.f45.body.getD .skip))) [(0, .pointer w0), (1, .int .i64 c), (2, .int .i64 rhost), (3, .int .i64 rport), (11, .slice fr_b fr_l fr_c), (16, .pointer (some ⟨s, 0, none⟩)), (17, .int .i64 i)] w) (w0 : Option Addr) (c rhost rport : Int) (fr_b : Option Addr) (fr_l fr_c s : Nat) (i : Int) (w : World) (h : hostlaw_World_Connect.L1b w0 c rhost rport fr_b fr_l fr_c s i w  N1 R) :
    KW Tryz.prog 45 227 (hostlaw_World_Connect.RV R) ([(0, [1, 1, 1, 1, 1, 1, 1, 1, 1, 1, 0, 1, 0, 0]), (2, [1, 1, 1, 1, 1, 1, 1, 1, 1, 1, 0, 1, 0, 0]), (1, [0]), (0, [1, 1, 1, 1, 1, 1, 1, 1, 1, 1, 1])].map (toItem (Tryz.f45.body.getD .skip))) [(0, .pointer w0), (1, .int .i64 c), (2, .int .i64 rhost), (3, .int .i64 rport), (11, .slice fr_b fr_l fr_c), (16, .pointer (some ⟨s, 0, none⟩)), (17, .int .i64 i)] w := by
  exact block_spec Tryz.func45 Tryz.mixed (stops_cons (fun σ w h => by
      obtain ⟨w0_, e0, h⟩ := dP_elim h
      obtain ⟨c_, e1, h⟩ := dI_elim h
      obtain ⟨rhost_, e2, h⟩ := dI_elim h
      obtain ⟨rport_, e3, h⟩ := dI_elim h
      obtain ⟨fr_b_, fr_l_, fr_c_, e4, h⟩ := dL_elim h
      obtain ⟨s_, e5, h⟩ := dK_elim h
      obtain ⟨i_, e6, h⟩ := dI_elim h
      obtain ⟨o_, e7, h⟩ := dK_elim h
      obtain ⟨e_, e8, h⟩ := dI_elim h
      exact (hostlaw_World_Connect.B7_sound hN1 w0_ c_ rhost_ rport_ fr_b_ fr_l_ fr_c_ s_ i_ o_ e_ w h).weaken (Sub.cons (Sub.cons (Sub.cons (Sub.cons (Sub.cons (Sub.cons (Sub.cons (Sub.cons (Sub.cons (Sub.nil _) e8) e7) e6) e5) e4) e3) e2) e1) e0)) stops_nil) (Eq.mp (hostlaw_World_Connect.L1b_eq w0 c rhost rport fr_b fr_l fr_c s i w  N1 R (fun w0_ c_ rhost_ rport_ fr_b_ fr_l_ fr_c_ s_ i_ o_ e_ w => hostlaw_World_Connect.B7 w0_ c_ rhost_ rport_ fr_b_ fr_l_ fr_c_ s_ i_ o_ e_ w N1 R)) h)
def hostlaw_World_Connect.L1 (w0 : Option Addr) (c rhost rport : Int) (fr_b : Option Addr) (fr_l fr_c s : Nat) (i : Int) (w : World)  (R : Bool → World → Prop) : Prop :=
  ∃ (I : Nat → Option Addr → Int → Int → Int → Option Addr → Nat → Nat → Nat → Int → World → Prop) (m : Nat), I m w0 c rhost rport fr_b fr_l fr_c s i w ∧ ∀ m w0 c rhost rport fr_b fr_l fr_c s i w, I m w0 c rhost rport fr_b fr_l fr_c s i w → hostlaw_World_Connect.L1b w0 c rhost rport fr_b fr_l fr_c s i w  (fun w0' c' rhost' rport' fr_b' fr_l' fr_c' s' i' w' => ∃ m', m' < m ∧ I m' w0' c' rhost' rport' fr_b' fr_l' fr_c' s' i' w') R
theorem hostlaw_World_Connect.L1_sound {R : Bool → World → Prop}  (w0 : Option Addr) (c rhost rport : Int) (fr_b : Option Addr) (fr_l fr_c s : Nat) (i : Int) (w : World) (h : hostlaw_World_Connect.L1 w0 c rhost rport fr_b fr_l fr_c s i w  R) :
    KW Tryz.prog 45 227 (hostlaw_World_Connect.RV R) ([(0, [1, 1, 1, 1, 1, 1, 1, 1, 1, 1, 0, 1, 0, 0]), (2, [1, 1, 1, 1, 1, 1, 1, 1, 1, 1, 0, 1, 0, 0]), (1, [0]), (0, [1, 1, 1, 1, 1, 1, 1, 1, 1, 1, 1])].map (toItem (Tryz.f45.body.getD .skip))) [(0, .pointer w0), (1, .int .i64 c), (2, .int .i64 rhost), (3, .int .i64 rport), (11, .slice fr_b fr_l fr_c), (16, .pointer (some ⟨s, 0, none⟩)), (17, .int .i64 i)] w := by
  obtain ⟨I, m, hBase, hr⟩ := h
  refine KW.loop (fun m σ w => ∃ (w0 : Option Addr) (c rhost rport : Int) (fr_b : Option Addr) (fr_l fr_c s : Nat) (i : Int), σ = [(0, .pointer w0), (1, .int .i64 c), (2, .int .i64 rhost), (3, .int .i64 rport), (11, .slice fr_b fr_l fr_c), (16, .pointer (some ⟨s, 0, none⟩)), (17, .int .i64 i)] ∧ I m w0 c rhost rport fr_b fr_l fr_c s i w) ?_ m _ w ⟨w0, c, rhost, rport, fr_b, fr_l, fr_c, s, i, rfl, hBase⟩
  rintro m ih σ w ⟨w0, c, rhost, rport, fr_b, fr_l, fr_c, s, i, rfl, hI⟩
  exact hostlaw_World_Connect.L1b_sound  (N1 := fun w0' c' rhost' rport' fr_b' fr_l' fr_c' s' i' w' => ∃ m', m' < m ∧ I m' w0' c' rhost' rport' fr_b' fr_l' fr_c' s' i' w') (fun w0' c' rhost' rport' fr_b' fr_l' fr_c' s' i' w' hx => by obtain ⟨m', hlt, hI'⟩ := hx; exact ih m' hlt _ w' ⟨w0', c', rhost', rport', fr_b', fr_l', fr_c', s', i', rfl, hI'⟩) w0 c rhost rport fr_b fr_l fr_c s i w (hr m w0 c rhost rport fr_b fr_l fr_c s i w hI)
def hostlaw_World_Connect.B6 (w0 : Option Addr) (c rhost rport : Int) (fr_b : Option Addr) (fr_l fr_c s : Nat) (t153 : Bool) (w : World)   (R : Bool → World → Prop) : Prop :=
  Bm t153 (
    R false w) (
    hostlaw_World_Connect.L1 w0 c rhost rport fr_b fr_l fr_c s (0 : Int) w  R)
theorem hostlaw_World_Connect.B6_eq (w0 : Option Addr) (c rhost rport : Int) (fr_b : Option Addr) (fr_l fr_c s : Nat) (t153 : Bool) (w : World)   (R : Bool → World → Prop) (sL1 : Option Addr → Int → Int → Int → Option Addr → Nat → Nat → Nat → Int → World → Prop) :
    (
  Bm t153 (
    R false w) (
    sL1 w0 c rhost rport fr_b fr_l fr_c s (0 : Int) w)) = kstep Tryz.prog 227 Tryz.f45.results.toList (Tryz.f45.body.getD .skip) (hostlaw_World_Connect.RV R) (kvc Tryz.prog 227 Tryz.f45.results.toList (Tryz.f45.body.getD .skip) (hostlaw_World_Connect.RV R) [([(0, [1, 1, 1, 1, 1, 1, 1, 1, 1, 1, 0, 1, 0, 0]), (2, [1, 1, 1, 1, 1, 1, 1, 1, 1, 1, 0, 1, 0, 0]), (1, [0]), (0, [1, 1, 1, 1, 1, 1, 1, 1, 1, 1, 1])], fun σ w => dP (slotOf σ 0) fun w0_ => dI .i64 (slotOf σ 1) fun c_ => dI .i64 (slotOf σ 2) fun rhost_ => dI .i64 (slotOf σ 3) fun rport_ => dL (slotOf σ 11) fun fr_b_ fr_l_ fr_c_ => dK (slotOf σ 16) fun s_ => dI .i64 (slotOf σ 17) fun i_ => sL1 w0_ c_ rhost_ rport_ fr_b_ fr_l_ fr_c_ s_ i_ w)] 2000) [(0, [1, 1, 1, 1, 1, 1, 1, 1, 1, 0, 1]), (0, [1, 1, 1, 1, 1, 1, 1, 1, 1, 1])] [(0, .pointer w0), (1, .int .i64 c), (2, .int .i64 rhost), (3, .int .i64 rport), (11, .slice fr_b fr_l fr_c), (16, .pointer (some ⟨s, 0, none⟩)), (153, .bool t153)] w := by kernel_rfl
theorem hostlaw_World_Connect.B6_sound {R : Bool → World → Prop}  (w0 : Option Addr) (c rhost rport : Int) (fr_b : Option Addr) (fr_l fr_c s : Nat) (t153 : Bool) (w : World) (h : hostlaw_World_Connect.B6 w0 c rhost rport fr_b fr_l fr_c s t153 w   R) :
    KW Tryz.prog 45 227 (hostlaw_World_Connect.RV R) ([(0, [1, 1, 1, 1, 1, 1, 1, 1, 1, 0, 1]), (0, [1, 1, 1, 1, 1, 1, 1, 1, 1, 1])].map (toItem (Tryz.f45.body.getD .skip))) [(0, .pointer w0), (1, .int .i64 c), (2, .int .i64 rhost), (3, .int .i64 rport), (11, .slice fr_b fr_l fr_c), (16, .pointer (some ⟨s, 0, none⟩)), (153, .bool t153)] w := by
  exact block_spec Tryz.func45 Tryz.mixed (stops_cons (fun σ w h => by
      obtain ⟨w0_, e0, h⟩ := dP_elim h
      obtain ⟨c_, e1, h⟩ := dI_elim h
      obtain ⟨rhost_, e2, h⟩ := dI_elim h
      obtain ⟨rport_, e3, h⟩ := dI_elim h
      obtain ⟨fr_b_, fr_l_, fr_c_, e4, h⟩ := dL_elim h
      obtain ⟨s_, e5, h⟩ := dK_elim h
      obtain ⟨i_, e6, h⟩ := dI_elim h
      exact (hostlaw_World_Connect.L1_sound  w0_ c_ rhost_ rport_ fr_b_ fr_l_ fr_c_ s_ i_ w h).weaken (Sub.cons (Sub.cons (Sub.cons (Sub.cons (Sub.cons (Sub.cons (Sub.cons (Sub.nil _) e6) e5) e4) e3) e2) e1) e0)) stops_nil) (Eq.mp (hostlaw_World_Connect.B6_eq w0 c rhost rport fr_b fr_l fr_c s t153 w   R (fun w0_ c_ rhost_ rport_ fr_b_ fr_l_ fr_c_ s_ i_ w => hostlaw_World_Connect.L1 w0_ c_ rhost_ rport_ fr_b_ fr_l_ fr_c_ s_ i_ w  R)) h)
def hostlaw_World_Connect.B5 (w0 : Option Addr) (c rhost rport : Int) (fr_b : Option Addr) (fr_l fr_c s : Nat) (t129 : Bool) (w : World)   (R : Bool → World → Prop) : Prop :=
  Bm t129 (
    R false w) (
    LdI .i64 ⟨s, 3, none⟩ w fun x132 =>
    Bm (x132 != rhost) (
      hostlaw_World_Connect.B6 w0 c rhost rport fr_b fr_l fr_c s true w  R) (
      LdI .i64 ⟨s, 4, none⟩ w fun x138 =>
      Bm (x138 != rport) (
        hostlaw_World_Connect.B6 w0 c rhost rport fr_b fr_l fr_c s true w  R) (
        LdI .i64 ⟨s, 2, none⟩ w fun x145 =>
        Bm (decide (x145 < (8 : Int))) (
          hostlaw_World_Connect.B6 w0 c rhost rport fr_b fr_l fr_c s true w  R) (
          LdI .i64 ⟨s, 2, none⟩ w fun x151 =>
          hostlaw_World_Connect.B6 w0 c rhost rport fr_b fr_l fr_c s (decide (x151 > (15 : Int))) w  R))))
theorem hostlaw_World_Connect.B5_eq (w0 : Option Addr) (c rhost rport : Int) (fr_b : Option Addr) (fr_l fr_c s : Nat) (t129 : Bool) (w : World)   (R : Bool → World → Prop) (sB6 : Option Addr → Int → Int → Int → Option Addr → Nat → Nat → Nat → Bool → World → Prop) :
    (
  Bm t129 (
    R false w) (
    LdI .i64 ⟨s, 3, none⟩ w fun x132 =>
    Bm (x132 != rhost) (
      sB6 w0 c rhost rport fr_b fr_l fr_c s true w) (
      LdI .i64 ⟨s, 4, none⟩ w fun x138 =>
      Bm (x138 != rport) (
        sB6 w0 c rhost rport fr_b fr_l fr_c s true w) (
        LdI .i64 ⟨s, 2, none⟩ w fun x145 =>
        Bm (decide (x145 < (8 : Int))) (
          sB6 w0 c rhost rport fr_b fr_l fr_c s true w) (
          LdI .i64 ⟨s, 2, none⟩ w fun x151 =>
          sB6 w0 c rhost rport fr_b fr_l fr_c s (decide (x151 > (15 : Int))) w))))) = kstep Tryz.prog 227 Tryz.f45.results.toList (Tryz.f45.body.getD .skip) (hostlaw_World_Connect.RV R) (kvc Tryz.prog 227 Tryz.f45.results.toList (Tryz.f45.body.getD .skip) (hostlaw_World_Connect.RV R) [([(0, [1, 1, 1, 1, 1, 1, 1, 1, 1, 0, 1]), (0, [1, 1, 1, 1, 1, 1, 1, 1, 1, 1])], fun σ w => dP (slotOf σ 0) fun w0_ => dI .i64 (slotOf σ 1) fun c_ => dI .i64 (slotOf σ 2) fun rhost_ => dI .i64 (slotOf σ 3) fun rport_ => dL (slotOf σ 11) fun fr_b_ fr_l_ fr_c_ => dK (slotOf σ 16) fun s_ => dB (slotOf σ 153) fun t153_ => sB6 w0_ c_ rhost_ rport_ fr_b_ fr_l_ fr_c_ s_ t153_ w)] 2000) [(0, [1, 1, 1, 1, 1, 1, 1, 1, 0, 1]), (0, [1, 1, 1, 1, 1, 1, 1, 1, 1])] [(0, .pointer w0), (1, .int .i64 c), (2, .int .i64 rhost), (3, .int .i64 rport), (11, .slice fr_b fr_l fr_c), (16, .pointer (some ⟨s, 0, none⟩)), (129, .bool t129)] w := by kernel_rfl
theorem hostlaw_World_Connect.B5_sound {R : Bool → World → Prop}  (w0 : Option Addr) (c rhost rport : Int) (fr_b : Option Addr) (fr_l fr_c s : Nat) (t129 : Bool) (w : World) (h : hostlaw_World_Connect.B5 w0 c rhost rport fr_b fr_l fr_c s t129 w   R) :
    KW Tryz.prog 45 227 (hostlaw_World_Connect.RV R) ([(0, [1, 1, 1, 1, 1, 1, 1, 1, 0, 1]), (0, [1, 1, 1, 1, 1, 1, 1, 1, 1])].map (toItem (Tryz.f45.body.getD .skip))) [(0, .pointer w0), (1, .int .i64 c), (2, .int .i64 rhost), (3, .int .i64 rport), (11, .slice fr_b fr_l fr_c), (16, .pointer (some ⟨s, 0, none⟩)), (129, .bool t129)] w := by
  exact block_spec Tryz.func45 Tryz.mixed (stops_cons (fun σ w h => by
      obtain ⟨w0_, e0, h⟩ := dP_elim h
      obtain ⟨c_, e1, h⟩ := dI_elim h
      obtain ⟨rhost_, e2, h⟩ := dI_elim h
      obtain ⟨rport_, e3, h⟩ := dI_elim h
      obtain ⟨fr_b_, fr_l_, fr_c_, e4, h⟩ := dL_elim h
      obtain ⟨s_, e5, h⟩ := dK_elim h
      obtain ⟨t153_, e6, h⟩ := dB_elim h
      exact (hostlaw_World_Connect.B6_sound  w0_ c_ rhost_ rport_ fr_b_ fr_l_ fr_c_ s_ t153_ w h).weaken (Sub.cons (Sub.cons (Sub.cons (Sub.cons (Sub.cons (Sub.cons (Sub.cons (Sub.nil _) e6) e5) e4) e3) e2) e1) e0)) stops_nil) (Eq.mp (hostlaw_World_Connect.B5_eq w0 c rhost rport fr_b fr_l fr_c s t129 w   R (fun w0_ c_ rhost_ rport_ fr_b_ fr_l_ fr_c_ s_ t153_ w => hostlaw_World_Connect.B6 w0_ c_ rhost_ rport_ fr_b_ fr_l_ fr_c_ s_ t153_ w  R)) h)
def hostlaw_World_Connect.B4 (w0 : Option Addr) (c rhost rport want sd : Int) (fr_b : Option Addr) (fr_l fr_c : Nat) (e : Int) (fr2_b : Option Addr) (fr2_l fr2_c : Nat) (t79 : Bool) (w : World)   (R : Bool → World → Prop) : Prop :=
  Bm t79 (
    R false w) (
    hostlaw_World_OwnAll.Call w0 fr2_b fr2_l fr2_c w fun w1 =>
    Bm (e != want) (
      R false w1) (
      Bm (e != (0 : Int)) (
        Bm (sd == (0 : Int)) (
          R (((fr_l : Nat) : Int) == (0 : Int)) w1) (
          R false w1)) (
        Pn w0 fun a =>
        (0 ≤ c ∧ c < ((3 : Nat) : Int)) ∧
        LdP (Addr.add a (c.toNat * 1)) w1 fun x101 =>
        host_Host_Info.Call x101 sd w1 fun r103_0_0 r103_0_1 r103_0_2 r103_0_3 r103_0_4 r103_0_5 r103_0_6 r103_0_7 r103_0_8 r103_1 w2 =>
        New (.cells #[.int .i64 (0 : Int), .int .i64 (0 : Int), .int .i64 (0 : Int), .int .i64 (0 : Int), .int .i64 (0 : Int), .int .i64 (0 : Int), .int .i64 (0 : Int), .bool false, .pointer none] 69) w2 fun s_ w3 =>
        Sts [.int .i64 r103_0_0, .int .i64 r103_0_1, .int .i64 r103_0_2, .int .i64 r103_0_3, .int .i64 r103_0_4, .int .i64 r103_0_5, .int .i64 r103_0_6, .bool r103_0_7, .pointer r103_0_8] ⟨s_, 0, none⟩ 0 w3 fun w4 =>
        Pn w0 fun a_1 =>
        (0 ≤ c ∧ c < ((3 : Nat) : Int)) ∧
        LdI .i64 (Addr.add (a_1.add 31) (c.toNat * 1)) w4 fun x112 =>
        Bm (decide (sd ≤ x112)) (
          hostlaw_World_Connect.B5 w0 c rhost rport fr_b fr_l fr_c s_ true w4  R) (
          Bm (r103_1 != (0 : Int)) (
            hostlaw_World_Connect.B5 w0 c rhost rport fr_b fr_l fr_c s_ true w4  R) (
            LdI .i64 ⟨s_, 1, none⟩ w4 fun x121 =>
            Bm (x121 != (2 : Int)) (
              hostlaw_World_Connect.B5 w0 c rhost rport fr_b fr_l fr_c s_ true w4  R) (
              LdI .i64 ⟨s_, 6, none⟩ w4 fun x127 =>
              hostlaw_World_Connect.B5 w0 c rhost rport fr_b fr_l fr_c s_ (x127 != (0 : Int)) w4  R))))))
theorem hostlaw_World_Connect.B4_eq (w0 : Option Addr) (c rhost rport want sd : Int) (fr_b : Option Addr) (fr_l fr_c : Nat) (e : Int) (fr2_b : Option Addr) (fr2_l fr2_c : Nat) (t79 : Bool) (w : World)   (R : Bool → World → Prop) (sB5 : Option Addr → Int → Int → Int → Option Addr → Nat → Nat → Nat → Bool → World → Prop) :
    (
  Bm t79 (
    R false w) (
    hostlaw_World_OwnAll.Call w0 fr2_b fr2_l fr2_c w fun w1 =>
    Bm (e != want) (
      R false w1) (
      Bm (e != (0 : Int)) (
        Bm (sd == (0 : Int)) (
          R (((fr_l : Nat) : Int) == (0 : Int)) w1) (
          R false w1)) (
        Pn w0 fun a =>
        (0 ≤ c ∧ c < ((3 : Nat) : Int)) ∧
        LdP (Addr.add a (c.toNat * 1)) w1 fun x101 =>
        host_Host_Info.Call x101 sd w1 fun r103_0_0 r103_0_1 r103_0_2 r103_0_3 r103_0_4 r103_0_5 r103_0_6 r103_0_7 r103_0_8 r103_1 w2 =>
        New (.cells #[.int .i64 (0 : Int), .int .i64 (0 : Int), .int .i64 (0 : Int), .int .i64 (0 : Int), .int .i64 (0 : Int), .int .i64 (0 : Int), .int .i64 (0 : Int), .bool false, .pointer none] 69) w2 fun s_ w3 =>
        Sts [.int .i64 r103_0_0, .int .i64 r103_0_1, .int .i64 r103_0_2, .int .i64 r103_0_3, .int .i64 r103_0_4, .int .i64 r103_0_5, .int .i64 r103_0_6, .bool r103_0_7, .pointer r103_0_8] ⟨s_, 0, none⟩ 0 w3 fun w4 =>
        Pn w0 fun a_1 =>
        (0 ≤ c ∧ c < ((3 : Nat) : Int)) ∧
        LdI .i64 (Addr.add (a_1.add 31) (c.toNat * 1)) w4 fun x112 =>
        Bm (decide (sd ≤ x112)) (
          sB5 w0 c rhost rport fr_b fr_l fr_c s_ true w4) (
          Bm (r103_1 != (0 : Int)) (
            sB5 w0 c rhost rport fr_b fr_l fr_c s_ true w4) (
            LdI .i64 ⟨s_, 1, none⟩ w4 fun x121 =>
            Bm (x121 != (2 : Int)) (
              sB5 w0 c rhost rport fr_b fr_l fr_c s_ true w4) (
              LdI .i64 ⟨s_, 6, none⟩ w4 fun x127 =>
              sB5 w0 c rhost rport fr_b fr_l fr_c s_ (x127 != (0 : Int)) w4))))))) = kstep Tryz.prog 227 Tryz.f45.results.toList (Tryz.f45.body.getD .skip) (hostlaw_World_Connect.RV R) (kvc Tryz.prog 227 Tryz.f45.results.toList (Tryz.f45.body.getD .skip) (hostlaw_World_Connect.RV R) [([(0, [1, 1, 1, 1, 1, 1, 1, 1, 0, 1]), (0, [1, 1, 1, 1, 1, 1, 1, 1, 1])], fun σ w => dP (slotOf σ 0) fun w0_ => dI .i64 (slotOf σ 1) fun c_ => dI .i64 (slotOf σ 2) fun rhost_ => dI .i64 (slotOf σ 3) fun rport_ => dL (slotOf σ 11) fun fr_b_ fr_l_ fr_c_ => dK (slotOf σ 16) fun s_ => dB (slotOf σ 129) fun t129_ => sB5 w0_ c_ rhost_ rport_ fr_b_ fr_l_ fr_c_ s_ t129_ w)] 2000) [(0, [1, 1, 1, 1, 0, 1, 0, 1, 0, 1]), (0, [1, 1, 1, 1, 0, 1, 0, 1, 1]), (0, [1, 1, 1, 1, 1])] [(0, .pointer w0), (1, .int .i64 c), (2, .int .i64 rhost), (3, .int .i64 rport), (9, .int .i64 want), (10, .int .i64 sd), (11, .slice fr_b fr_l fr_c), (12, .int .i64 e), (14, .slice fr2_b fr2_l fr2_c), (79, .bool t79)] w := by kernel_rfl
theorem hostlaw_World_Connect.B4_sound {R : Bool → World → Prop}  (w0 : Option Addr) (c rhost rport want sd : Int) (fr_b : Option Addr) (fr_l fr_c : Nat) (e : Int) (fr2_b : Option Addr) (fr2_l fr2_c : Nat) (t79 : Bool) (w : World) (h : hostlaw_World_Connect.B4 w0 c rhost rport want sd fr_b fr_l fr_c e fr2_b fr2_l fr2_c t79 w   R) :
    KW Tryz.prog 45 227 (hostlaw_World_Connect.RV R) ([(0, [1, 1, 1, 1, 0, 1, 0, 1, 0, 1]), (0, [1, 1, 1, 1, 0, 1, 0, 1, 1]), (0, [1, 1, 1, 1, 1])].map (toItem (Tryz.f45.body.getD .skip))) [(0, .pointer w0), (1, .int .i64 c), (2, .int .i64 rhost), (3, .int .i64 rport), (9, .int .i64 want), (10, .int .i64 sd), (11, .slice fr_b fr_l fr_c), (12, .int .i64 e), (14, .slice fr2_b fr2_l fr2_c), (79, .bool t79)] w := by
  exact block_spec Tryz.func45 Tryz.mixed (stops_cons (fun σ w h => by
      obtain ⟨w0_, e0, h⟩ := dP_elim h
      obtain ⟨c_, e1, h⟩ := dI_elim h
      obtain ⟨rhost_, e2, h⟩ := dI_elim h
      obtain ⟨rport_, e3, h⟩ := dI_elim h
      obtain ⟨fr_b_, fr_l_, fr_c_, e4, h⟩ := dL_elim h
      obtain ⟨s_, e5, h⟩ := dK_elim h
      obtain ⟨t129_, e6, h⟩ := dB_elim h
      exact (hostlaw_World_Connect.B5_sound  w0_ c_ rhost_ rport_ fr_b_ fr_l_ fr_c_ s_ t129_ w h).weaken (Sub.cons (Sub.cons (Sub.cons (Sub.cons (Sub.cons (Sub.cons (Sub.cons (Sub.nil _) e6) e5) e4) e3) e2) e1) e0)) stops_nil) (Eq.mp (hostlaw_World_Connect.B4_eq w0 c rhost rport want sd fr_b fr_l fr_c e fr2_b fr2_l fr2_c t79 w   R (fun w0_ c_ rhost_ rport_ fr_b_ fr_l_ fr_c_ s_ t129_ w => hostlaw_World_Connect.B5 w0_ c_ rhost_ rport_ fr_b_ fr_l_ fr_c_ s_ t129_ w  R)) h)
def hostlaw_World_Connect.B2 (w0 : Option Addr) (c rhost rport want : Int) (w : World)   (R : Bool → World → Prop) : Prop :=
  Pn w0 fun a =>
  (0 ≤ c ∧ c < ((3 : Nat) : Int)) ∧
  LdP (Addr.add a (c.toNat * 1)) w fun x42 =>
  host_Host_Connect.Call x42 rhost rport w fun r45_0 r45_1_b r45_1_l r45_1_c r45_2 w1 =>
  Pn w0 fun a_1 =>
  LdB (a_1.add 27) w1 fun x52 =>
  Bm x52 (
    Pn w0 fun a_2 =>
    (0 ≤ c ∧ c < ((3 : Nat) : Int)) ∧
    LdP (Addr.add (a_2.add 24) (c.toNat * 1)) w1 fun x59 =>
    host_Host_Connect.Call x59 rhost rport w1 fun r62_0 r62_1_b r62_1_l r62_1_c r62_2 w2 =>
    Bm (r62_0 != r45_0) (
      hostlaw_World_Connect.B4 w0 c rhost rport want r45_0 r45_1_b r45_1_l r45_1_c r45_2 r62_1_b r62_1_l r62_1_c true w2  R) (
      Bm (r62_2 != r45_2) (
        hostlaw_World_Connect.B4 w0 c rhost rport want r45_0 r45_1_b r45_1_l r45_1_c r45_2 r62_1_b r62_1_l r62_1_c true w2  R) (
        hostlaw_SameFrames.Call r45_1_b r45_1_l r45_1_c r62_1_b r62_1_l r62_1_c w2 fun r77 w3 =>
        hostlaw_World_Connect.B4 w0 c rhost rport want r45_0 r45_1_b r45_1_l r45_1_c r45_2 r62_1_b r62_1_l r62_1_c (!r77) w3  R))) (
    Bm (r45_2 != want) (
      R false w1) (
      Bm (r45_2 != (0 : Int)) (
        Bm (r45_0 == (0 : Int)) (
          R (((r45_1_l : Nat) : Int) == (0 : Int)) w1) (
          R false w1)) (
        Pn w0 fun a_3 =>
        (0 ≤ c ∧ c < ((3 : Nat) : Int)) ∧
        LdP (Addr.add a_3 (c.toNat * 1)) w1 fun x101 =>
        host_Host_Info.Call x101 r45_0 w1 fun r103_0_0 r103_0_1 r103_0_2 r103_0_3 r103_0_4 r103_0_5 r103_0_6 r103_0_7 r103_0_8 r103_1 w4 =>
        New (.cells #[.int .i64 (0 : Int), .int .i64 (0 : Int), .int .i64 (0 : Int), .int .i64 (0 : Int), .int .i64 (0 : Int), .int .i64 (0 : Int), .int .i64 (0 : Int), .bool false, .pointer none] 69) w4 fun s_ w5 =>
        Sts [.int .i64 r103_0_0, .int .i64 r103_0_1, .int .i64 r103_0_2, .int .i64 r103_0_3, .int .i64 r103_0_4, .int .i64 r103_0_5, .int .i64 r103_0_6, .bool r103_0_7, .pointer r103_0_8] ⟨s_, 0, none⟩ 0 w5 fun w6 =>
        Pn w0 fun a_4 =>
        (0 ≤ c ∧ c < ((3 : Nat) : Int)) ∧
        LdI .i64 (Addr.add (a_4.add 31) (c.toNat * 1)) w6 fun x112 =>
        Bm (decide (r45_0 ≤ x112)) (
          hostlaw_World_Connect.B5 w0 c rhost rport r45_1_b r45_1_l r45_1_c s_ true w6  R) (
          Bm (r103_1 != (0 : Int)) (
            hostlaw_World_Connect.B5 w0 c rhost rport r45_1_b r45_1_l r45_1_c s_ true w6  R) (
            LdI .i64 ⟨s_, 1, none⟩ w6 fun x121 =>
            Bm (x121 != (2 : Int)) (
              hostlaw_World_Connect.B5 w0 c rhost rport r45_1_b r45_1_l r45_1_c s_ true w6  R) (
              LdI .i64 ⟨s_, 6, none⟩ w6 fun x127 =>
              hostlaw_World_Connect.B5 w0 c rhost rport r45_1_b r45_1_l r45_1_c s_ (x127 != (0 : Int)) w6  R))))))
theorem hostlaw_World_Connect.B2_eq (w0 : Option Addr) (c rhost rport want : Int) (w : World)   (R : Bool → World → Prop) (sB4 : Option Addr → Int → Int → Int → Int → Int → Option Addr → Nat → Nat → Int → Option Addr → Nat → Nat → Bool → World → Prop) (sB5 : Option Addr → Int → Int → Int → Option Addr → Nat → Nat → Nat → Bool → World → Prop) :
    (
  Pn w0 fun a =>
  (0 ≤ c ∧ c < ((3 : Nat) : Int)) ∧
  LdP (Addr.add a (c.toNat * 1)) w fun x42 =>
  host_Host_Connect.Call x42 rhost rport w fun r45_0 r45_1_b r45_1_l r45_1_c r45_2 w1 =>
  Pn w0 fun a_1 =>
  LdB (a_1.add 27) w1 fun x52 =>
  Bm x52 (
    Pn w0 fun a_2 =>
    (0 ≤ c ∧ c < ((3 : Nat) : Int)) ∧
    LdP (Addr.add (a_2.add 24) (c.toNat * 1)) w1 fun x59 =>
    host_Host_Connect.Call x59 rhost rport w1 fun r62_0 r62_1_b r62_1_l r62_1_c r62_2 w2 =>
    Bm (r62_0 != r45_0) (
      sB4 w0 c rhost rport want r45_0 r45_1_b r45_1_l r45_1_c r45_2 r62_1_b r62_1_l r62_1_c true w2) (
      Bm (r62_2 != r45_2) (
        sB4 w0 c rhost rport want r45_0 r45_1_b r45_1_l r45_1_c r45_2 r62_1_b r62_1_l r62_1_c true w2) (
        hostlaw_SameFrames.Call r45_1_b r45_1_l r45_1_c r62_1_b r62_1_l r62_1_c w2 fun r77 w3 =>
        sB4 w0 c rhost rport want r45_0 r45_1_b r45_1_l r45_1_c r45_2 r62_1_b r62_1_l r62_1_c (!r77) w3))) (
    Bm (r45_2 != want) (
      R false w1) (
      Bm (r45_2 != (0 : Int)) (
        Bm (r45_0 == (0 : Int)) (
          R (((r45_1_l : Nat) : Int) == (0 : Int)) w1) (
          R false w1)) (
        Pn w0 fun a_3 =>
        (0 ≤ c ∧ c < ((3 : Nat) : Int)) ∧
        LdP (Addr.add a_3 (c.toNat * 1)) w1 fun x101 =>
        host_Host_Info.Call x101 r45_0 w1 fun r103_0_0 r103_0_1 r103_0_2 r103_0_3 r103_0_4 r103_0_5 r103_0_6 r103_0_7 r103_0_8 r103_1 w4 =>
        New (.cells #[.int .i64 (0 : Int), .int .i64 (0 : Int), .int .i64 (0 : Int), .int .i64 (0 : Int), .int .i64 (0 : Int), .int .i64 (0 : Int), .int .i64 (0 : Int), .bool false, .pointer none] 69) w4 fun s_ w5 =>
        Sts [.int .i64 r103_0_0, .int .i64 r103_0_1, .int .i64 r103_0_2, .int .i64 r103_0_3, .int .i64 r103_0_4, .int .i64 r103_0_5, .int .i64 r103_0_6, .bool r103_0_7, .pointer r103_0_8] ⟨s_, 0, none⟩ 0 w5 fun w6 =>
        Pn w0 fun a_4 =>
        (0 ≤ c ∧ c < ((3 : Nat) : Int)) ∧
        LdI .i64 (Addr.add (a_4.add 31) (c.toNat * 1)) w6 fun x112 =>
        Bm (decide (r45_0 ≤ x112)) (
          sB5 w0 c rhost rport r45_1_b r45_1_l r45_1_c s_ true w6) (
          Bm (r103_1 != (0 : Int)) (
            sB5 w0 c rhost rport r45_1_b r45_1_l r45_1_c s_ true w6) (
            LdI .i64 ⟨s_, 1, none⟩ w6 fun x121 =>
            Bm (x121 != (2 : Int)) (
              sB5 w0 c rhost rport r45_1_b r45_1_l r45_1_c s_ true w6) (
              LdI .i64 ⟨s_, 6, none⟩ w6 fun x127 =>
              sB5 w0 c rhost rport r45_1_b r45_1_l r45_1_c s_ (x127 != (0 : Int)) w6))))))) = kstep Tryz.prog 227 Tryz.f45.results.toList (Tryz.f45.body.getD .skip) (hostlaw_World_Connect.RV R) (kvc Tryz.prog 227 Tryz.f45.results.toList (Tryz.f45.body.getD .skip) (hostlaw_World_Connect.RV R) [([(0, [1, 1, 1, 1, 0, 1, 0, 1, 0, 1]), (0, [1, 1, 1, 1, 0, 1, 0, 1, 1]), (0, [1, 1, 1, 1, 1])], fun σ w => dP (slotOf σ 0) fun w0_ => dI .i64 (slotOf σ 1) fun c_ => dI .i64 (slotOf σ 2) fun rhost_ => dI .i64 (slotOf σ 3) fun rport_ => dI .i64 (slotOf σ 9) fun want_ => dI .i64 (slotOf σ 10) fun sd_ => dL (slotOf σ 11) fun fr_b_ fr_l_ fr_c_ => dI .i64 (slotOf σ 12) fun e_ => dL (slotOf σ 14) fun fr2_b_ fr2_l_ fr2_c_ => dB (slotOf σ 79) fun t79_ => sB4 w0_ c_ rhost_ rport_ want_ sd_ fr_b_ fr_l_ fr_c_ e_ fr2_b_ fr2_l_ fr2_c_ t79_ w),
    ([(0, [1, 1, 1, 1, 1, 1, 1, 1, 0, 1]), (0, [1, 1, 1, 1, 1, 1, 1, 1, 1])], fun σ w => dP (slotOf σ 0) fun w0_ => dI .i64 (slotOf σ 1) fun c_ => dI .i64 (slotOf σ 2) fun rhost_ => dI .i64 (slotOf σ 3) fun rport_ => dL (slotOf σ 11) fun fr_b_ fr_l_ fr_c_ => dK (slotOf σ 16) fun s_ => dB (slotOf σ 129) fun t129_ => sB5 w0_ c_ rhost_ rport_ fr_b_ fr_l_ fr_c_ s_ t129_ w)] 2000) [(0, [1, 1, 1])] [(0, .pointer w0), (1, .int .i64 c), (2, .int .i64 rhost), (3, .int .i64 rport), (9, .int .i64 want)] w := by kernel_rfl
theorem hostlaw_World_Connect.B2_sound {R : Bool → World → Prop}  (w0 : Option Addr) (c rhost rport want : Int) (w : World) (h : hostlaw_World_Connect.B2 w0 c rhost rport want w   R) :
    KW Tryz.prog 45 227 (hostlaw_World_Connect.RV R) ([(0, [1, 1, 1])].map (toItem (Tryz.f45.body.getD .skip))) [(0, .pointer w0), (1, .int .i64 c), (2, .int .i64 rhost), (3, .int .i64 rport), (9, .int .i64 want)] w := by
  exact block_spec Tryz.func45 Tryz.mixed (stops_cons (fun σ w h => by
      obtain ⟨w0_, e0, h⟩ := dP_elim h
      obtain ⟨c_, e1, h⟩ := dI_elim h
      obtain ⟨rhost_, e2, h⟩ := dI_elim h
      obtain ⟨rport_, e3, h⟩ := dI_elim h
      obtain ⟨want_, e4, h⟩ := dI_elim h
      obtain ⟨sd_, e5, h⟩ := dI_elim h
      obtain ⟨fr_b_, fr_l_, fr_c_, e6, h⟩ := dL_elim h
      obtain ⟨e_, e7, h⟩ := dI_elim h
      obtain ⟨fr2_b_, fr2_l_, fr2_c_, e8, h⟩ := dL_elim h
      obtain ⟨t79_, e9, h⟩ := dB_elim h
      exact (hostlaw_World_Connect.B4_sound  w0_ c_ rhost_ rport_ want_ sd_ fr_b_ fr_l_ fr_c_ e_ fr2_b_ fr2_l_ fr2_c_ t79_ w h).weaken (Sub.cons (Sub.cons (Sub.cons (Sub.cons (Sub.cons (Sub.cons (Sub.cons (Sub.cons (Sub.cons (Sub.cons (Sub.nil _) e9) e8) e7) e6) e5) e4) e3) e2) e1) e0)) (stops_cons (fun σ w h => by
      obtain ⟨w0_, e0, h⟩ := dP_elim h
      obtain ⟨c_, e1, h⟩ := dI_elim h
      obtain ⟨rhost_, e2, h⟩ := dI_elim h
      obtain ⟨rport_, e3, h⟩ := dI_elim h
      obtain ⟨fr_b_, fr_l_, fr_c_, e4, h⟩ := dL_elim h
      obtain ⟨s_, e5, h⟩ := dK_elim h
      obtain ⟨t129_, e6, h⟩ := dB_elim h
      exact (hostlaw_World_Connect.B5_sound  w0_ c_ rhost_ rport_ fr_b_ fr_l_ fr_c_ s_ t129_ w h).weaken (Sub.cons (Sub.cons (Sub.cons (Sub.cons (Sub.cons (Sub.cons (Sub.cons (Sub.nil _) e6) e5) e4) e3) e2) e1) e0)) stops_nil)) (Eq.mp (hostlaw_World_Connect.B2_eq w0 c rhost rport want w   R (fun w0_ c_ rhost_ rport_ want_ sd_ fr_b_ fr_l_ fr_c_ e_ fr2_b_ fr2_l_ fr2_c_ t79_ w => hostlaw_World_Connect.B4 w0_ c_ rhost_ rport_ want_ sd_ fr_b_ fr_l_ fr_c_ e_ fr2_b_ fr2_l_ fr2_c_ t79_ w  R) (fun w0_ c_ rhost_ rport_ fr_b_ fr_l_ fr_c_ s_ t129_ w => hostlaw_World_Connect.B5 w0_ c_ rhost_ rport_ fr_b_ fr_l_ fr_c_ s_ t129_ w  R)) h)
def hostlaw_World_Connect.B3 (w0 : Option Addr) (c rhost rport want : Int) (t31 : Bool) (w : World)   (R : Bool → World → Prop) : Prop :=
  Bm t31 (
    hostlaw_World_Connect.B2 w0 c rhost rport (22 : Int) w  R) (
    hostlaw_World_count.Call w0 c (2 : Int) w fun r34 w1 =>
    Bm (r34 == (4 : Int)) (
      hostlaw_World_Connect.B2 w0 c rhost rport (11 : Int) w1  R) (
      hostlaw_World_Connect.B2 w0 c rhost rport want w1  R))
theorem hostlaw_World_Connect.B3_eq (w0 : Option Addr) (c rhost rport want : Int) (t31 : Bool) (w : World)   (R : Bool → World → Prop) (sB2 : Option Addr → Int → Int → Int → Int → World → Prop) :
    (
  Bm t31 (
    sB2 w0 c rhost rport (22 : Int) w) (
    hostlaw_World_count.Call w0 c (2 : Int) w fun r34 w1 =>
    Bm (r34 == (4 : Int)) (
      sB2 w0 c rhost rport (11 : Int) w1) (
      sB2 w0 c rhost rport want w1))) = kstep Tryz.prog 227 Tryz.f45.results.toList (Tryz.f45.body.getD .skip) (hostlaw_World_Connect.RV R) (kvc Tryz.prog 227 Tryz.f45.results.toList (Tryz.f45.body.getD .skip) (hostlaw_World_Connect.RV R) [([(0, [1, 1, 1])], fun σ w => dP (slotOf σ 0) fun w0_ => dI .i64 (slotOf σ 1) fun c_ => dI .i64 (slotOf σ 2) fun rhost_ => dI .i64 (slotOf σ 3) fun rport_ => dI .i64 (slotOf σ 9) fun want_ => sB2 w0_ c_ rhost_ rport_ want_ w)] 2000) [(0, [1, 1, 0, 1, 1, 1]), (0, [1, 1, 1])] [(0, .pointer w0), (1, .int .i64 c), (2, .int .i64 rhost), (3, .int .i64 rport), (9, .int .i64 want), (31, .bool t31)] w := by kernel_rfl
theorem hostlaw_World_Connect.B3_sound {R : Bool → World → Prop}  (w0 : Option Addr) (c rhost rport want : Int) (t31 : Bool) (w : World) (h : hostlaw_World_Connect.B3 w0 c rhost rport want t31 w   R) :
    KW Tryz.prog 45 227 (hostlaw_World_Connect.RV R) ([(0, [1, 1, 0, 1, 1, 1]), (0, [1, 1, 1])].map (toItem (Tryz.f45.body.getD .skip))) [(0, .pointer w0), (1, .int .i64 c), (2, .int .i64 rhost), (3, .int .i64 rport), (9, .int .i64 want), (31, .bool t31)] w := by
  exact block_spec Tryz.func45 Tryz.mixed (stops_cons (fun σ w h => by
      obtain ⟨w0_, e0, h⟩ := dP_elim h
      obtain ⟨c_, e1, h⟩ := dI_elim h
      obtain ⟨rhost_, e2, h⟩ := dI_elim h
      obtain ⟨rport_, e3, h⟩ := dI_elim h
      obtain ⟨want_, e4, h⟩ := dI_elim h
      exact (hostlaw_World_Connect.B2_sound  w0_ c_ rhost_ rport_ want_ w h).weaken (Sub.cons (Sub.cons (Sub.cons (Sub.cons (Sub.cons (Sub.nil _) e4) e3) e2) e1) e0)) stops_nil) (Eq.mp (hostlaw_World_Connect.B3_eq w0 c rhost rport want t31 w   R (fun w0_ c_ rhost_ rport_ want_ w => hostlaw_World_Connect.B2 w0_ c_ rhost_ rport_ want_ w  R)) h)
def hostlaw_World_Connect.B1 (w0 : Option Addr) (c rhost rport want : Int) (t25 : Bool) (w : World)   (R : Bool → World → Prop) : Prop :=
  Bm t25 (
    hostlaw_World_Connect.B2 w0 c rhost rport (5 : Int) w  R) (
    Bm (decide (rport < (1 : Int))) (
      hostlaw_World_Connect.B3 w0 c rhost rport want true w  R) (
      hostlaw_World_Connect.B3 w0 c rhost rport want (decide (rport > (15 : Int))) w  R))
theorem hostlaw_World_Connect.B1_eq (w0 : Option Addr) (c rhost rport want : Int) (t25 : Bool) (w : World)   (R : Bool → World → Prop) (sB2 : Option Addr → Int → Int → Int → Int → World → Prop) (sB3 : Option Addr → Int → Int → Int → Int → Bool → World → Prop) :
    (
  Bm t25 (
    sB2 w0 c rhost rport (5 : Int) w) (
    Bm (decide (rport < (1 : Int))) (
      sB3 w0 c rhost rport want true w) (
      sB3 w0 c rhost rport want (decide (rport > (15 : Int))) w))) = kstep Tryz.prog 227 Tryz.f45.results.toList (Tryz.f45.body.getD .skip) (hostlaw_World_Connect.RV R) (kvc Tryz.prog 227 Tryz.f45.results.toList (Tryz.f45.body.getD .skip) (hostlaw_World_Connect.RV R) [([(0, [1, 1, 1])], fun σ w => dP (slotOf σ 0) fun w0_ => dI .i64 (slotOf σ 1) fun c_ => dI .i64 (slotOf σ 2) fun rhost_ => dI .i64 (slotOf σ 3) fun rport_ => dI .i64 (slotOf σ 9) fun want_ => sB2 w0_ c_ rhost_ rport_ want_ w),
    ([(0, [1, 1, 0, 1, 1, 1]), (0, [1, 1, 1])], fun σ w => dP (slotOf σ 0) fun w0_ => dI .i64 (slotOf σ 1) fun c_ => dI .i64 (slotOf σ 2) fun rhost_ => dI .i64 (slotOf σ 3) fun rport_ => dI .i64 (slotOf σ 9) fun want_ => dB (slotOf σ 31) fun t31_ => sB3 w0_ c_ rhost_ rport_ want_ t31_ w)] 2000) [(0, [1, 1, 0, 1]), (0, [1, 1, 1])] [(0, .pointer w0), (1, .int .i64 c), (2, .int .i64 rhost), (3, .int .i64 rport), (9, .int .i64 want), (25, .bool t25)] w := by kernel_rfl
theorem hostlaw_World_Connect.B1_sound {R : Bool → World → Prop}  (w0 : Option Addr) (c rhost rport want : Int) (t25 : Bool) (w : World) (h : hostlaw_World_Connect.B1 w0 c rhost rport want t25 w   R) :
    KW Tryz.prog 45 227 (hostlaw_World_Connect.RV R) ([(0, [1, 1, 0, 1]), (0, [1, 1, 1])].map (toItem (Tryz.f45.body.getD .skip))) [(0, .pointer w0), (1, .int .i64 c), (2, .int .i64 rhost), (3, .int .i64 rport), (9, .int .i64 want), (25, .bool t25)] w := by
  exact block_spec Tryz.func45 Tryz.mixed (stops_cons (fun σ w h => by
      obtain ⟨w0_, e0, h⟩ := dP_elim h
      obtain ⟨c_, e1, h⟩ := dI_elim h
      obtain ⟨rhost_, e2, h⟩ := dI_elim h
      obtain ⟨rport_, e3, h⟩ := dI_elim h
      obtain ⟨want_, e4, h⟩ := dI_elim h
      exact (hostlaw_World_Connect.B2_sound  w0_ c_ rhost_ rport_ want_ w h).weaken (Sub.cons (Sub.cons (Sub.cons (Sub.cons (Sub.cons (Sub.nil _) e4) e3) e2) e1) e0)) (stops_cons (fun σ w h => by
      obtain ⟨w0_, e0, h⟩ := dP_elim h
      obtain ⟨c_, e1, h⟩ := dI_elim h
      obtain ⟨rhost_, e2, h⟩ := dI_elim h
      obtain ⟨rport_, e3, h⟩ := dI_elim h
      obtain ⟨want_, e4, h⟩ := dI_elim h
      obtain ⟨t31_, e5, h⟩ := dB_elim h
      exact (hostlaw_World_Connect.B3_sound  w0_ c_ rhost_ rport_ want_ t31_ w h).weaken (Sub.cons (Sub.cons (Sub.cons (Sub.cons (Sub.cons (Sub.cons (Sub.nil _) e5) e4) e3) e2) e1) e0)) stops_nil)) (Eq.mp (hostlaw_World_Connect.B1_eq w0 c rhost rport want t25 w   R (fun w0_ c_ rhost_ rport_ want_ w => hostlaw_World_Connect.B2 w0_ c_ rhost_ rport_ want_ w  R) (fun w0_ c_ rhost_ rport_ want_ t31_ w => hostlaw_World_Connect.B3 w0_ c_ rhost_ rport_ want_ t31_ w  R)) h)
def hostlaw_World_Connect.B0 (w0 : Option Addr) (c rhost rport : Int) (w : World)   (R : Bool → World → Prop) : Prop :=
  Bm (decide (rhost < (1 : Int))) (
    hostlaw_World_Connect.B1 w0 c rhost rport (0 : Int) true w  R) (
    hostlaw_World_Connect.B1 w0 c rhost rport (0 : Int) (decide (rhost > (255 : Int))) w  R)
theorem hostlaw_World_Connect.B0_eq (w0 : Option Addr) (c rhost rport : Int) (w : World)   (R : Bool → World → Prop) (sB1 : Option Addr → Int → Int → Int → Int → Bool → World → Prop) :
    (
  Bm (decide (rhost < (1 : Int))) (
    sB1 w0 c rhost rport (0 : Int) true w) (
    sB1 w0 c rhost rport (0 : Int) (decide (rhost > (255 : Int))) w)) = kstep Tryz.prog 227 Tryz.f45.results.toList (Tryz.f45.body.getD .skip) (hostlaw_World_Connect.RV R) (kvc Tryz.prog 227 Tryz.f45.results.toList (Tryz.f45.body.getD .skip) (hostlaw_World_Connect.RV R) [([(0, [1, 1, 0, 1]), (0, [1, 1, 1])], fun σ w => dP (slotOf σ 0) fun w0_ => dI .i64 (slotOf σ 1) fun c_ => dI .i64 (slotOf σ 2) fun rhost_ => dI .i64 (slotOf σ 3) fun rport_ => dI .i64 (slotOf σ 9) fun want_ => dB (slotOf σ 25) fun t25_ => sB1 w0_ c_ rhost_ rport_ want_ t25_ w)] 2000) [(0, [])] [(0, .pointer w0), (1, .int .i64 c), (2, .int .i64 rhost), (3, .int .i64 rport)] w := by kernel_rfl
theorem hostlaw_World_Connect.B0_sound {R : Bool → World → Prop}  (w0 : Option Addr) (c rhost rport : Int) (w : World) (h : hostlaw_World_Connect.B0 w0 c rhost rport w   R) :
    KW Tryz.prog 45 227 (hostlaw_World_Connect.RV R) ([(0, [])].map (toItem (Tryz.f45.body.getD .skip))) [(0, .pointer w0), (1, .int .i64 c), (2, .int .i64 rhost), (3, .int .i64 rport)] w := by
  exact block_spec Tryz.func45 Tryz.mixed (stops_cons (fun σ w h => by
      obtain ⟨w0_, e0, h⟩ := dP_elim h
      obtain ⟨c_, e1, h⟩ := dI_elim h
      obtain ⟨rhost_, e2, h⟩ := dI_elim h
      obtain ⟨rport_, e3, h⟩ := dI_elim h
      obtain ⟨want_, e4, h⟩ := dI_elim h
      obtain ⟨t25_, e5, h⟩ := dB_elim h
      exact (hostlaw_World_Connect.B1_sound  w0_ c_ rhost_ rport_ want_ t25_ w h).weaken (Sub.cons (Sub.cons (Sub.cons (Sub.cons (Sub.cons (Sub.cons (Sub.nil _) e5) e4) e3) e2) e1) e0)) stops_nil) (Eq.mp (hostlaw_World_Connect.B0_eq w0 c rhost rport w   R (fun w0_ c_ rhost_ rport_ want_ t25_ w => hostlaw_World_Connect.B1 w0_ c_ rhost_ rport_ want_ t25_ w  R)) h)
theorem hostlaw_World_Connect.sound (w0 : Option Addr) (c rhost rport : Int) (w : World) (R : Bool → World → Prop) (h : hostlaw_World_Connect.B0 w0 c rhost rport w R) : hostlaw_World_Connect.Call w0 c rhost rport w R := by
  have hc := calls_of_block (args := #[.pointer w0, .int .i64 c, .int .i64 rhost, .int .i64 rport]) Tryz.func45 (body := (Tryz.f45.body.getD .skip)) (by kernel_rfl) (by kernel_rfl) (args_slot _) (hostlaw_World_Connect.B0_sound w0 c rhost rport w h)
  exact hc.mono fun e w' he => by
    obtain ⟨v, rfl, hv⟩ := he
    exact hostlaw_World_Connect.RV_elim hv
def hostlaw_World_Accept.B1 (want child sd e : Int) (t95 : Bool) (w : World)   (R : Bool → World → Prop) : Prop :=
  Bm t95 (
    R false w) (
    Bm (e == want) (
      R (sd == child) w) (
      R false w))
theorem hostlaw_World_Accept.B1_eq (want child sd e : Int) (t95 : Bool) (w : World)   (R : Bool → World → Prop)  :
    (
  Bm t95 (
    R false w) (
    Bm (e == want) (
      R (sd == child) w) (
      R false w))) = kstep Tryz.prog 104 Tryz.f46.results.toList (Tryz.f46.body.getD .skip) (hostlaw_World_Accept.RV R) (kvc Tryz.prog 104 Tryz.f46.results.toList (Tryz.f46.body.getD .skip) (hostlaw_World_Accept.RV R) [] 2000) [(0, [1, 1, 1, 1, 0, 1, 0, 1, 1]), (0, [1, 1, 1, 1, 1])] [(7, .int .i64 want), (8, .int .i64 child), (10, .int .i64 sd), (11, .int .i64 e), (95, .bool t95)] w := by kernel_rfl
theorem hostlaw_World_Accept.B1_sound {R : Bool → World → Prop}  (want child sd e : Int) (t95 : Bool) (w : World) (h : hostlaw_World_Accept.B1 want child sd e t95 w   R) :
    KW Tryz.prog 46 104 (hostlaw_World_Accept.RV R) ([(0, [1, 1, 1, 1, 0, 1, 0, 1, 1]), (0, [1, 1, 1, 1, 1])].map (toItem (Tryz.f46.body.getD .skip))) [(7, .int .i64 want), (8, .int .i64 child), (10, .int .i64 sd), (11, .int .i64 e), (95, .bool t95)] w := by
  exact block_spec Tryz.func46 Tryz.mixed stops_nil (Eq.mp (hostlaw_World_Accept.B1_eq want child sd e t95 w   R ) h)
def hostlaw_World_Accept.B4 (w0 : Option Addr) (c lsd want child i : Int) (w : World) (N1 : Option Addr → Int → Int → Int → Int → Int → World → Prop)  (R : Bool → World → Prop) : Prop :=
  N1 w0 c lsd want child (IntKind.i64.wrap (i + (1 : Int))) w
theorem hostlaw_World_Accept.B4_eq (w0 : Option Addr) (c lsd want child i : Int) (w : World) (N1 : Option Addr → Int → Int → Int → Int → Int → World → Prop)  (R : Bool → World → Prop)  :
    (
  N1 w0 c lsd want child (IntKind.i64.wrap (i + (1 : Int))) w) = kstep Tryz.prog 104 Tryz.f46.results.toList (Tryz.f46.body.getD .skip) (hostlaw_World_Accept.RV R) (kvc Tryz.prog 104 Tryz.f46.results.toList (Tryz.f46.body.getD .skip) (hostlaw_World_Accept.RV R) [([(0, [1, 1, 0, 1, 1, 1, 1, 0, 0]), (2, [1, 1, 0, 1, 1, 1, 1, 0, 0]), (1, [0]), (0, [1, 1, 1])], fun σ w => dP (slotOf σ 0) fun w0_ => dI .i64 (slotOf σ 1) fun c_ => dI .i64 (slotOf σ 2) fun lsd_ => dI .i64 (slotOf σ 7) fun want_ => dI .i64 (slotOf σ 8) fun child_ => dI .i64 (slotOf σ 9) fun i_ => N1 w0_ c_ lsd_ want_ child_ i_ w)] 2000) [(0, [1, 1, 0, 1, 1, 1, 1, 0, 0, 1, 1]), (2, [1, 1, 0, 1, 1, 1, 1, 0, 0]), (1, [0]), (0, [1, 1, 1])] [(0, .pointer w0), (1, .int .i64 c), (2, .int .i64 lsd), (7, .int .i64 want), (8, .int .i64 child), (9, .int .i64 i)] w := by kernel_rfl
theorem hostlaw_World_Accept.B4_sound {R : Bool → World → Prop} {N1 : Option Addr → Int → Int → Int → Int → Int → World → Prop} (hN1 : ∀ w0 c lsd want child i w, N1 w0 c lsd want child i w → KW Tryz.prog 46 104 (hostlaw_World_Accept.RV R) ([(0, [1, 1, 0, 1, 1, 1, 1, 0, 0]), (2, [1, 1, 0, 1, 1, 1, 1, 0, 0]), (1, [0]), (0, [1, 1, 1])].map (toItem (Tryz.f46.body.getD .skip))) [(0, .pointer w0), (1, .int .i64 c), (2, .int .i64 lsd), (7, .int .i64 want), (8, .int .i64 child), (9, .int .i64 i)] w) (w0 : Option Addr) (c lsd want child i : Int) (w : World) (h : hostlaw_World_Accept.B4 w0 c lsd want child i w N1  R) :
    KW Tryz.prog 46 104 (hostlaw_World_Accept.RV R) ([(0, [1, 1, 0, 1, 1, 1, 1, 0, 0, 1, 1]), (2, [1, 1, 0, 1, 1, 1, 1, 0, 0]), (1, [0]), (0, [1, 1, 1])].map (toItem (Tryz.f46.body.getD .skip))) [(0, .pointer w0), (1, .int .i64 c), (2, .int .i64 lsd), (7, .int .i64 want), (8, .int .i64 child), (9, .int .i64 i)] w := by
  exact block_spec Tryz.func46 Tryz.mixed (stops_cons (fun σ w h => by
      obtain ⟨w0_, e0, h⟩ := dP_elim h
      obtain ⟨c_, e1, h⟩ := dI_elim h
      obtain ⟨lsd_, e2, h⟩ := dI_elim h
      obtain ⟨want_, e3, h⟩ := dI_elim h
      obtain ⟨child_, e4, h⟩ := dI_elim h
      obtain ⟨i_, e5, h⟩ := dI_elim h
      exact (hN1 w0_ c_ lsd_ want_ child_ i_ w h).weaken (Sub.cons (Sub.cons (Sub.cons (Sub.cons (Sub.cons (Sub.cons (Sub.nil _) e5) e4) e3) e2) e1) e0)) stops_nil) (Eq.mp (hostlaw_World_Accept.B4_eq w0 c lsd want child i w N1  R ) h)
def hostlaw_World_Accept.B3 (w0 : Option Addr) (c lsd want child i : Int) (t53 : Bool) (w : World) (N1 : Option Addr → Int → Int → Int → Int → Int → World → Prop)  (R : Bool → World → Prop) : Prop :=
  Bm t53 (
    Pn w0 fun a =>
    LdL (a.add 46) w.drew fun x57_b x57_l x57_c =>
    Pn x57_b fun a_1 =>
    (0 ≤ i ∧ i < ((x57_l : Nat) : Int)) ∧
    LdI .i64 ((Addr.add a_1 (i.toNat * 3)).add 1) w.drew fun x61 =>
    hostlaw_World_Accept.B4 w0 c lsd (0 : Int) x61 i w.drew N1 R) (
    hostlaw_World_Accept.B4 w0 c lsd want child i w N1 R)
theorem hostlaw_World_Accept.B3_eq (w0 : Option Addr) (c lsd want child i : Int) (t53 : Bool) (w : World) (N1 : Option Addr → Int → Int → Int → Int → Int → World → Prop)  (R : Bool → World → Prop) (sB4 : Option Addr → Int → Int → Int → Int → Int → World → Prop) :
    (
  Bm t53 (
    Pn w0 fun a =>
    LdL (a.add 46) w.drew fun x57_b x57_l x57_c =>
    Pn x57_b fun a_1 =>
    (0 ≤ i ∧ i < ((x57_l : Nat) : Int)) ∧
    LdI .i64 ((Addr.add a_1 (i.toNat * 3)).add 1) w.drew fun x61 =>
    sB4 w0 c lsd (0 : Int) x61 i w.drew) (
    sB4 w0 c lsd want child i w)) = kstep Tryz.prog 104 Tryz.f46.results.toList (Tryz.f46.body.getD .skip) (hostlaw_World_Accept.RV R) (kvc Tryz.prog 104 Tryz.f46.results.toList (Tryz.f46.body.getD .skip) (hostlaw_World_Accept.RV R) [([(0, [1, 1, 0, 1, 1, 1, 1, 0, 0, 1, 1]), (2, [1, 1, 0, 1, 1, 1, 1, 0, 0]), (1, [0]), (0, [1, 1, 1])], fun σ w => dP (slotOf σ 0) fun w0_ => dI .i64 (slotOf σ 1) fun c_ => dI .i64 (slotOf σ 2) fun lsd_ => dI .i64 (slotOf σ 7) fun want_ => dI .i64 (slotOf σ 8) fun child_ => dI .i64 (slotOf σ 9) fun i_ => sB4 w0_ c_ lsd_ want_ child_ i_ w)] 2000) [(0, [1, 1, 0, 1, 1, 1, 1, 0, 0, 1, 0, 0, 1]), (1, [1]), (0, [1, 1, 0, 1, 1, 1, 1, 0, 0, 1, 1]), (2, [1, 1, 0, 1, 1, 1, 1, 0, 0]), (1, [0]), (0, [1, 1, 1])] [(0, .pointer w0), (1, .int .i64 c), (2, .int .i64 lsd), (7, .int .i64 want), (8, .int .i64 child), (9, .int .i64 i), (53, .bool t53)] w := by kernel_rfl
theorem hostlaw_World_Accept.B3_sound {R : Bool → World → Prop} {N1 : Option Addr → Int → Int → Int → Int → Int → World → Prop} (hN1 : ∀ w0 c lsd want child i w, N1 w0 c lsd want child i w → KW Tryz.prog 46 104 (hostlaw_World_Accept.RV R) ([(0, [1, 1, 0, 1, 1, 1, 1, 0, 0]), (2, [1, 1, 0, 1, 1, 1, 1, 0, 0]), (1, [0]), (0, [1, 1, 1])].map (toItem (Tryz.f46.body.getD .skip))) [(0, .pointer w0), (1, .int .i64 c), (2, .int .i64 lsd), (7, .int .i64 want), (8, .int .i64 child), (9, .int .i64 i)] w) (w0 : Option Addr) (c lsd want child i : Int) (t53 : Bool) (w : World) (h : hostlaw_World_Accept.B3 w0 c lsd want child i t53 w N1  R) :
    KW Tryz.prog 46 104 (hostlaw_World_Accept.RV R) ([(0, [1, 1, 0, 1, 1, 1, 1, 0, 0, 1, 0, 0, 1]), (1, [1]), (0, [1, 1, 0, 1, 1, 1, 1, 0, 0, 1, 1]), (2, [1, 1, 0, 1, 1, 1, 1, 0, 0]), (1, [0]), (0, [1, 1, 1])].map (toItem (Tryz.f46.body.getD .skip))) [(0, .pointer w0), (1, .int .i64 c), (2, .int .i64 lsd), (7, .int .i64 want), (8, .int .i64 child), (9, .int .i64 i), (53, .bool t53)] w := by
  exact block_spec Tryz.func46 Tryz.mixed (stops_cons (fun σ w h => by
      obtain ⟨w0_, e0, h⟩ := dP_elim h
      obtain ⟨c_, e1, h⟩ := dI_elim h
      obtain ⟨lsd_, e2, h⟩ := dI_elim h
      obtain ⟨want_, e3, h⟩ := dI_elim h
      obtain ⟨child_, e4, h⟩ := dI_elim h
      obtain ⟨i_, e5, h⟩ := dI_elim h
      exact (hostlaw_World_Accept.B4_sound hN1 w0_ c_ lsd_ want_ child_ i_ w h).weaken (Sub.cons (Sub.cons (Sub.cons (Sub.cons (Sub.cons (Sub.cons (Sub.nil _) e5) e4) e3) e2) e1) e0)) stops_nil) (Eq.mp (hostlaw_World_Accept.B3_eq w0 c lsd want child i t53 w N1  R (fun w0_ c_ lsd_ want_ child_ i_ w => hostlaw_World_Accept.B4 w0_ c_ lsd_ want_ child_ i_ w N1 R)) h)
def hostlaw_World_Accept.B2 (w0 : Option Addr) (c lsd want child i : Int) (t29 : Bool) (w : World) (N1 : Option Addr → Int → Int → Int → Int → Int → World → Prop)  (R : Bool → World → Prop) : Prop :=
  Bm t29 (
    Pn w0 fun a =>
    LdL (a.add 46) w fun x35_b x35_l x35_c =>
    Pn x35_b fun a_1 =>
    (0 ≤ i ∧ i < ((x35_l : Nat) : Int)) ∧
    LdI .i64 (Addr.add a_1 (i.toNat * 3)) w fun x39 =>
    Bm (x39 == c) (
      Pn w0 fun a_2 =>
      LdL (a_2.add 46) w fun x46_b x46_l x46_c =>
      Pn x46_b fun a_3 =>
      (0 ≤ i ∧ i < ((x46_l : Nat) : Int)) ∧
      LdI .i64 ((Addr.add a_3 (i.toNat * 3)).add 2) w fun x50 =>
      hostlaw_World_Accept.B3 w0 c lsd want child i (x50 == lsd) w N1 R) (
      hostlaw_World_Accept.B3 w0 c lsd want child i false w N1 R)) (
    Pn w0 fun a_4 =>
    (0 ≤ c ∧ c < ((3 : Nat) : Int)) ∧
    LdP (Addr.add a_4 (c.toNat * 1)) w fun x68 =>
    host_Host_Accept.Call x68 lsd w fun r70_0 r70_1 w1 =>
    Pn w0 fun a_5 =>
    LdB (a_5.add 27) w1 fun x76 =>
    Bm x76 (
      Pn w0 fun a_6 =>
      (0 ≤ c ∧ c < ((3 : Nat) : Int)) ∧
      LdP (Addr.add (a_6.add 24) (c.toNat * 1)) w1 fun x83 =>
      host_Host_Accept.Call x83 lsd w1 fun r85_0 r85_1 w2 =>
      Bm (r85_0 != r70_0) (
        hostlaw_World_Accept.B1 want child r70_0 r70_1 true w2  R) (
        hostlaw_World_Accept.B1 want child r70_0 r70_1 (r85_1 != r70_1) w2  R)) (
      Bm (r70_1 == want) (
        R (r70_0 == child) w1) (
        R false w1)))
theorem hostlaw_World_Accept.B2_eq (w0 : Option Addr) (c lsd want child i : Int) (t29 : Bool) (w : World) (N1 : Option Addr → Int → Int → Int → Int → Int → World → Prop)  (R : Bool → World → Prop) (sB3 : Option Addr → Int → Int → Int → Int → Int → Bool → World → Prop) (sB1 : Int → Int → Int → Int → Bool → World → Prop) :
    (
  Bm t29 (
    Pn w0 fun a =>
    LdL (a.add 46) w fun x35_b x35_l x35_c =>
    Pn x35_b fun a_1 =>
    (0 ≤ i ∧ i < ((x35_l : Nat) : Int)) ∧
    LdI .i64 (Addr.add a_1 (i.toNat * 3)) w fun x39 =>
    Bm (x39 == c) (
      Pn w0 fun a_2 =>
      LdL (a_2.add 46) w fun x46_b x46_l x46_c =>
      Pn x46_b fun a_3 =>
      (0 ≤ i ∧ i < ((x46_l : Nat) : Int)) ∧
      LdI .i64 ((Addr.add a_3 (i.toNat * 3)).add 2) w fun x50 =>
      sB3 w0 c lsd want child i (x50 == lsd) w) (
      sB3 w0 c lsd want child i false w)) (
    Pn w0 fun a_4 =>
    (0 ≤ c ∧ c < ((3 : Nat) : Int)) ∧
    LdP (Addr.add a_4 (c.toNat * 1)) w fun x68 =>
    host_Host_Accept.Call x68 lsd w fun r70_0 r70_1 w1 =>
    Pn w0 fun a_5 =>
    LdB (a_5.add 27) w1 fun x76 =>
    Bm x76 (
      Pn w0 fun a_6 =>
      (0 ≤ c ∧ c < ((3 : Nat) : Int)) ∧
      LdP (Addr.add (a_6.add 24) (c.toNat * 1)) w1 fun x83 =>
      host_Host_Accept.Call x83 lsd w1 fun r85_0 r85_1 w2 =>
      Bm (r85_0 != r70_0) (
        sB1 want child r70_0 r70_1 true w2) (
        sB1 want child r70_0 r70_1 (r85_1 != r70_1) w2)) (
      Bm (r70_1 == want) (
        R (r70_0 == child) w1) (
        R false w1)))) = kstep Tryz.prog 104 Tryz.f46.results.toList (Tryz.f46.body.getD .skip) (hostlaw_World_Accept.RV R) (kvc Tryz.prog 104 Tryz.f46.results.toList (Tryz.f46.body.getD .skip) (hostlaw_World_Accept.RV R) [([(0, [1, 1, 0, 1, 1, 1, 1, 0, 0, 1, 0, 0, 1]), (1, [1]), (0, [1, 1, 0, 1, 1, 1, 1, 0, 0, 1, 1]), (2, [1, 1, 0, 1, 1, 1, 1, 0, 0]), (1, [0]), (0, [1, 1, 1])], fun σ w => dP (slotOf σ 0) fun w0_ => dI .i64 (slotOf σ 1) fun c_ => dI .i64 (slotOf σ 2) fun lsd_ => dI .i64 (slotOf σ 7) fun want_ => dI .i64 (slotOf σ 8) fun child_ => dI .i64 (slotOf σ 9) fun i_ => dB (slotOf σ 53) fun t53_ => sB3 w0_ c_ lsd_ want_ child_ i_ t53_ w),
    ([(0, [1, 1, 1, 1, 0, 1, 0, 1, 1]), (0, [1, 1, 1, 1, 1])], fun σ w => dI .i64 (slotOf σ 7) fun want_ => dI .i64 (slotOf σ 8) fun child_ => dI .i64 (slotOf σ 10) fun sd_ => dI .i64 (slotOf σ 11) fun e_ => dB (slotOf σ 95) fun t95_ => sB1 want_ child_ sd_ e_ t95_ w)] 2000) [(0, [1, 1, 0, 1, 1, 1, 1, 0, 0, 0, 1]), (0, [1, 1, 0, 1, 1, 1, 1, 0, 0, 1]), (2, [1, 1, 0, 1, 1, 1, 1, 0, 0]), (1, [0]), (0, [1, 1, 1])] [(0, .pointer w0), (1, .int .i64 c), (2, .int .i64 lsd), (7, .int .i64 want), (8, .int .i64 child), (9, .int .i64 i), (29, .bool t29)] w := by kernel_rfl
theorem hostlaw_World_Accept.B2_sound {R : Bool → World → Prop} {N1 : Option Addr → Int → Int → Int → Int → Int → World → Prop} (hN1 : ∀ w0 c lsd want child i w, N1 w0 c lsd want child i w → KW Tryz.prog 46 104 (hostlaw_World_Accept.RV R) ([(0, [1, 1, 0, 1, 1, 1, 1, 0, 0]), (2, [1, 1, 0, 1, 1, 1, 1, 0, 0]), (1, [0]), (0, [1, 1, 1])].map (toItem (Tryz.f46.body.getD .skip))) [(0, .pointer w0), (1, .int .i64 c), (2, .int .i64 lsd), (7, .int .i64 want), (8, .int .i64 child), (9, .int .i64 i)] w) (w0 : Option Addr) (c lsd want child i : Int) (t29 : Bool) (w : World) (h : hostlaw_World_Accept.B2 w0 c lsd want child i t29 w N1  R) :
    KW Tryz.prog 46 104 (hostlaw_World_Accept.RV R) ([(0, [1, 1, 0, 1, 1, 1, 1, 0, 0, 0, 1]), (0, [1, 1, 0, 1, 1, 1, 1, 0, 0, 1]), (2, [1, 1, 0, 1, 1, 1, 1, 0, 0]), (1, [0]), (0, [1, 1, 1])].map (toItem (Tryz.f46.body.getD .skip))) [(0, .pointer w0), (1, .int .i64 c), (2, .int .i64 lsd), (7, .int .i64 want), (8, .int .i64 child), (9, .int .i64 i), (29, .bool t29)] w := by
  exact block_spec Tryz.func46 Tryz.mixed (stops_cons (fun σ w h => by
      obtain ⟨w0_, e0, h⟩ := dP_elim h
      obtain ⟨c_, e1, h⟩ := dI_elim h
      obtain ⟨lsd_, e2, h⟩ := dI_elim h
      obtain ⟨want_, e3, h⟩ := dI_elim h
      obtain ⟨child_, e4, h⟩ := dI_elim h
      obtain ⟨i_, e5, h⟩ := dI_elim h
      obtain ⟨t53_, e6, h⟩ := dB_elim h
      exact (hostlaw_World_Accept.B3_sound hN1 w0_ c_ lsd_ want_ child_ i_ t53_ w h).weaken (Sub.cons (Sub.cons (Sub.cons (Sub.cons (Sub.cons (Sub.cons (Sub.cons (Sub.nil _) e6) e5) e4) e3) e2) e1) e0)) (stops_cons (fun σ w h => by
      obtain ⟨want_, e0, h⟩ := dI_elim h
      obtain ⟨child_, e1, h⟩ := dI_elim h
      obtain ⟨sd_, e2, h⟩ := dI_elim h
      obtain ⟨e_, e3, h⟩ := dI_elim h
      obtain ⟨t95_, e4, h⟩ := dB_elim h
      exact (hostlaw_World_Accept.B1_sound  want_ child_ sd_ e_ t95_ w h).weaken (Sub.cons (Sub.cons (Sub.cons (Sub.cons (Sub.cons (Sub.nil _) e4) e3) e2) e1) e0)) stops_nil)) (Eq.mp (hostlaw_World_Accept.B2_eq w0 c lsd want child i t29 w N1  R (fun w0_ c_ lsd_ want_ child_ i_ t53_ w => hostlaw_World_Accept.B3 w0_ c_ lsd_ want_ child_ i_ t53_ w N1 R) (fun want_ child_ sd_ e_ t95_ w => hostlaw_World_Accept.B1 want_ child_ sd_ e_ t95_ w  R)) h)
def hostlaw_World_Accept.L1b (w0 : Option Addr) (c lsd want child i : Int) (w : World)  (N1 : Option Addr → Int → Int → Int → Int → Int → World → Prop) (R : Bool → World → Prop) : Prop :=
  Pn w0 fun a =>
  LdL (a.add 46) w fun x23_b x23_l x23_c =>
  Bm (decide (i < ((x23_l : Nat) : Int))) (
    hostlaw_World_Accept.B2 w0 c lsd want child i (child == (0 : Int)) w N1 R) (
    hostlaw_World_Accept.B2 w0 c lsd want child i false w N1 R)
theorem hostlaw_World_Accept.L1b_eq (w0 : Option Addr) (c lsd want child i : Int) (w : World)  (N1 : Option Addr → Int → Int → Int → Int → Int → World → Prop) (R : Bool → World → Prop) (sB2 : Option Addr → Int → Int → Int → Int → Int → Bool → World → Prop) :
    (
  Pn w0 fun a =>
  LdL (a.add 46) w fun x23_b x23_l x23_c =>
  Bm (decide (i < ((x23_l : Nat) : Int))) (
    sB2 w0 c lsd want child i (child == (0 : Int)) w) (
    sB2 w0 c lsd want child i false w)) = kstep Tryz.prog 104 Tryz.f46.results.toList (Tryz.f46.body.getD .skip) (hostlaw_World_Accept.RV R) (kvc Tryz.prog 104 Tryz.f46.results.toList (Tryz.f46.body.getD .skip) (hostlaw_World_Accept.RV R) [([(0, [1, 1, 0, 1, 1, 1, 1, 0, 0, 0, 1]), (0, [1, 1, 0, 1, 1, 1, 1, 0, 0, 1]), (2, [1, 1, 0, 1, 1, 1, 1, 0, 0]), (1, [0]), (0, [1, 1, 1])], fun σ w => dP (slotOf σ 0) fun w0_ => dI .i64 (slotOf σ 1) fun c_ => dI .i64 (slotOf σ 2) fun lsd_ => dI .i64 (slotOf σ 7) fun want_ => dI .i64 (slotOf σ 8) fun child_ => dI .i64 (slotOf σ 9) fun i_ => dB (slotOf σ 29) fun t29_ => sB2 w0_ c_ lsd_ want_ child_ i_ t29_ w)] 2000) [(0, [1, 1, 0, 1, 1, 1, 1, 0, 0]), (2, [1, 1, 0, 1, 1, 1, 1, 0, 0]), (1, [0]), (0, [1, 1, 1])] [(0, .pointer w0), (1, .int .i64 c), (2, .int .i64 lsd), (7, .int .i64 want), (8, .int .i64 child), (9, .int .i64 i)] w := by kernel_rfl
theorem hostlaw_World_Accept.L1b_sound {R : Bool → World → Prop} {N1 : Option Addr → Int → Int → Int → Int → Int → World → Prop} (hN1 : ∀ w0 c lsd want child i w, N1 w0 c lsd want child i w → KW Tryz.prog 46 104 (hostlaw_World_Accept.RV R) ([(0, [1, 1, 0, 1, 1, 1, 1, 0, 0]), (2, [1, 1, 0, 1, 1, 1, 1, 0, 0]), (1, [0]), (0, [1, 1, 1])].map (toItem (Tryz.f46.body.getD .skip))) [(0, .pointer w0), (1, .int .i64 c), (2, .int .i64 lsd), (7, .int .i64 want), (8, .int .i64 child), (9, .int .i64 i)] w) (w0 : Option Addr) (c lsd want child i : Int) (w : World) (h : hostlaw_World_Accept.L1b w0 c lsd want child i w  N1 R) :
    KW Tryz.prog 46 104 (hostlaw_World_Accept.RV R) ([(0, [1, 1, 0, 1, 1, 1, 1, 0, 0]), (2, [1, 1, 0, 1, 1, 1, 1, 0, 0]), (1, [0]), (0, [1, 1, 1])].map (toItem (Tryz.f46.body.getD .skip))) [(0, .pointer w0), (1, .int .i64 c), (2, .int .i64 lsd), (7, .int .i64 want), (8, .int .i64 child), (9, .int .i64 i)] w := by
  exact block_spec Tryz.func46 Tryz.mixed (stops_cons (fun σ w h => by
      obtain ⟨w0_, e0, h⟩ := dP_elim h
      obtain ⟨c_, e1, h⟩ := dI_elim h
      obtain ⟨lsd_, e2, h⟩ := dI_elim h
      obtain ⟨want_, e3, h⟩ := dI_elim h
      obtain ⟨child_, e4, h⟩ := dI_elim h
      obtain ⟨i_, e5, h⟩ := dI_elim h
      obtain ⟨t29_, e6, h⟩ := dB_elim h
      exact (hostlaw_World_Accept.B2_sound hN1 w0_ c_ lsd_ want_ child_ i_ t29_ w h).weaken (Sub.cons (Sub.cons (Sub.cons (Sub.cons (Sub.cons (Sub.cons (Sub.cons (Sub.nil _) e6) e5) e4) e3) e2) e1) e0)) stops_nil) (Eq.mp (hostlaw_World_Accept.L1b_eq w0 c lsd want child i w  N1 R (fun w0_ c_ lsd_ want_ child_ i_ t29_ w => hostlaw_World_Accept.B2 w0_ c_ lsd_ want_ child_ i_ t29_ w N1 R)) h)
def hostlaw_World_Accept.L1 (w0 : Option Addr) (c lsd want child i : Int) (w : World)  (R : Bool → World → Prop) : Prop :=
  ∃ (I : Nat → Option Addr → Int → Int → Int → Int → Int → World → Prop) (m : Nat), I m w0 c lsd want child i w ∧ ∀ m w0 c lsd want child i w, I m w0 c lsd want child i w → hostlaw_World_Accept.L1b w0 c lsd want child i w  (fun w0' c' lsd' want' child' i' w' => ∃ m', m' < m ∧ I m' w0' c' lsd' want' child' i' w') R
theorem hostlaw_World_Accept.L1_sound {R : Bool → World → Prop}  (w0 : Option Addr) (c lsd want child i : Int) (w : World) (h : hostlaw_World_Accept.L1 w0 c lsd want child i w  R) :
    KW Tryz.prog 46 104 (hostlaw_World_Accept.RV R) ([(0, [1, 1, 0, 1, 1, 1, 1, 0, 0]), (2, [1, 1, 0, 1, 1, 1, 1, 0, 0]), (1, [0]), (0, [1, 1, 1])].map (toItem (Tryz.f46.body.getD .skip))) [(0, .pointer w0), (1, .int .i64 c), (2, .int .i64 lsd), (7, .int .i64 want), (8, .int .i64 child), (9, .int .i64 i)] w := by
  obtain ⟨I, m, hBase, hr⟩ := h
  refine KW.loop (fun m σ w => ∃ (w0 : Option Addr) (c lsd want child i : Int), σ = [(0, .pointer w0), (1, .int .i64 c), (2, .int .i64 lsd), (7, .int .i64 want), (8, .int .i64 child), (9, .int .i64 i)] ∧ I m w0 c lsd want child i w) ?_ m _ w ⟨w0, c, lsd, want, child, i, rfl, hBase⟩
  rintro m ih σ w ⟨w0, c, lsd, want, child, i, rfl, hI⟩
  exact hostlaw_World_Accept.L1b_sound  (N1 := fun w0' c' lsd' want' child' i' w' => ∃ m', m' < m ∧ I m' w0' c' lsd' want' child' i' w') (fun w0' c' lsd' want' child' i' w' hx => by obtain ⟨m', hlt, hI'⟩ := hx; exact ih m' hlt _ w' ⟨w0', c', lsd', want', child', i', rfl, hI'⟩) w0 c lsd want child i w (hr m w0 c lsd want child i w hI)
def hostlaw_World_Accept.B0 (w0 : Option Addr) (c lsd : Int) (w : World)   (R : Bool → World → Prop) : Prop :=
  hostlaw_World_isListener.Call w0 c lsd w fun r17 w1 =>
  Bm (!r17) (
    Pn w0 fun a =>
    (0 ≤ c ∧ c < ((3 : Nat) : Int)) ∧
    LdP (Addr.add a (c.toNat * 1)) w1 fun x68 =>
    host_Host_Accept.Call x68 lsd w1 fun r70_0 r70_1 w2 =>
    Pn w0 fun a_1 =>
    LdB (a_1.add 27) w2 fun x76 =>
    Bm x76 (
      Pn w0 fun a_2 =>
      (0 ≤ c ∧ c < ((3 : Nat) : Int)) ∧
      LdP (Addr.add (a_2.add 24) (c.toNat * 1)) w2 fun x83 =>
      host_Host_Accept.Call x83 lsd w2 fun r85_0 r85_1 w3 =>
      Bm (r85_0 != r70_0) (
        hostlaw_World_Accept.B1 (21 : Int) (0 : Int) r70_0 r70_1 true w3  R) (
        hostlaw_World_Accept.B1 (21 : Int) (0 : Int) r70_0 r70_1 (r85_1 != r70_1) w3  R)) (
      Bm (r70_1 == (21 : Int)) (
        R (r70_0 == (0 : Int)) w2) (
        R false w2))) (
    hostlaw_World_Accept.L1 w0 c lsd (14 : Int) (0 : Int) (0 : Int) w1  R)
theorem hostlaw_World_Accept.B0_eq (w0 : Option Addr) (c lsd : Int) (w : World)   (R : Bool → World → Prop) (sB1 : Int → Int → Int → Int → Bool → World → Prop) (sL1 : Option Addr → Int → Int → Int → Int → Int → World → Prop) :
    (
  hostlaw_World_isListener.Call w0 c lsd w fun r17 w1 =>
  Bm (!r17) (
    Pn w0 fun a =>
    (0 ≤ c ∧ c < ((3 : Nat) : Int)) ∧
    LdP (Addr.add a (c.toNat * 1)) w1 fun x68 =>
    host_Host_Accept.Call x68 lsd w1 fun r70_0 r70_1 w2 =>
    Pn w0 fun a_1 =>
    LdB (a_1.add 27) w2 fun x76 =>
    Bm x76 (
      Pn w0 fun a_2 =>
      (0 ≤ c ∧ c < ((3 : Nat) : Int)) ∧
      LdP (Addr.add (a_2.add 24) (c.toNat * 1)) w2 fun x83 =>
      host_Host_Accept.Call x83 lsd w2 fun r85_0 r85_1 w3 =>
      Bm (r85_0 != r70_0) (
        sB1 (21 : Int) (0 : Int) r70_0 r70_1 true w3) (
        sB1 (21 : Int) (0 : Int) r70_0 r70_1 (r85_1 != r70_1) w3)) (
      Bm (r70_1 == (21 : Int)) (
        R (r70_0 == (0 : Int)) w2) (
        R false w2))) (
    sL1 w0 c lsd (14 : Int) (0 : Int) (0 : Int) w1)) = kstep Tryz.prog 104 Tryz.f46.results.toList (Tryz.f46.body.getD .skip) (hostlaw_World_Accept.RV R) (kvc Tryz.prog 104 Tryz.f46.results.toList (Tryz.f46.body.getD .skip) (hostlaw_World_Accept.RV R) [([(0, [1, 1, 1, 1, 0, 1, 0, 1, 1]), (0, [1, 1, 1, 1, 1])], fun σ w => dI .i64 (slotOf σ 7) fun want_ => dI .i64 (slotOf σ 8) fun child_ => dI .i64 (slotOf σ 10) fun sd_ => dI .i64 (slotOf σ 11) fun e_ => dB (slotOf σ 95) fun t95_ => sB1 want_ child_ sd_ e_ t95_ w),
    ([(0, [1, 1, 0, 1, 1, 1, 1, 0, 0]), (2, [1, 1, 0, 1, 1, 1, 1, 0, 0]), (1, [0]), (0, [1, 1, 1])], fun σ w => dP (slotOf σ 0) fun w0_ => dI .i64 (slotOf σ 1) fun c_ => dI .i64 (slotOf σ 2) fun lsd_ => dI .i64 (slotOf σ 7) fun want_ => dI .i64 (slotOf σ 8) fun child_ => dI .i64 (slotOf σ 9) fun i_ => sL1 w0_ c_ lsd_ want_ child_ i_ w)] 2000) [(0, [])] [(0, .pointer w0), (1, .int .i64 c), (2, .int .i64 lsd)] w := by kernel_rfl
theorem hostlaw_World_Accept.B0_sound {R : Bool → World → Prop}  (w0 : Option Addr) (c lsd : Int) (w : World) (h : hostlaw_World_Accept.B0 w0 c lsd w   R) :
    KW Tryz.prog 46 104 (hostlaw_World_Accept.RV R) ([(0, [])].map (toItem (Tryz.f46.body.getD .skip))) [(0, .pointer w0), (1, .int .i64 c), (2, .int .i64 lsd)] w := by
  exact block_spec Tryz.func46 Tryz.mixed (stops_cons (fun σ w h => by
      obtain ⟨want_, e0, h⟩ := dI_elim h
      obtain ⟨child_, e1, h⟩ := dI_elim h
      obtain ⟨sd_, e2, h⟩ := dI_elim h
      obtain ⟨e_, e3, h⟩ := dI_elim h
      obtain ⟨t95_, e4, h⟩ := dB_elim h
      exact (hostlaw_World_Accept.B1_sound  want_ child_ sd_ e_ t95_ w h).weaken (Sub.cons (Sub.cons (Sub.cons (Sub.cons (Sub.cons (Sub.nil _) e4) e3) e2) e1) e0)) (stops_cons (fun σ w h => by
      obtain ⟨w0_, e0, h⟩ := dP_elim h
      obtain ⟨c_, e1, h⟩ := dI_elim h
      obtain ⟨lsd_, e2, h⟩ := dI_elim h
      obtain ⟨want_, e3, h⟩ := dI_elim h
      obtain ⟨child_, e4, h⟩ := dI_elim h
      obtain ⟨i_, e5, h⟩ := dI_elim h
      exact (hostlaw_World_Accept.L1_sound  w0_ c_ lsd_ want_ child_ i_ w h).weaken (Sub.cons (Sub.cons (Sub.cons (Sub.cons (Sub.cons (Sub.cons (Sub.nil _) e5) e4) e3) e2) e1) e0)) stops_nil)) (Eq.mp (hostlaw_World_Accept.B0_eq w0 c lsd w   R (fun want_ child_ sd_ e_ t95_ w => hostlaw_World_Accept.B1 want_ child_ sd_ e_ t95_ w  R) (fun w0_ c_ lsd_ want_ child_ i_ w => hostlaw_World_Accept.L1 w0_ c_ lsd_ want_ child_ i_ w  R)) h)
theorem hostlaw_World_Accept.sound (w0 : Option Addr) (c lsd : Int) (w : World) (R : Bool → World → Prop) (h : hostlaw_World_Accept.B0 w0 c lsd w R) : hostlaw_World_Accept.Call w0 c lsd w R := by
  have hc := calls_of_block (args := #[.pointer w0, .int .i64 c, .int .i64 lsd]) Tryz.func46 (body := (Tryz.f46.body.getD .skip)) (by kernel_rfl) (by kernel_rfl) (args_slot _) (hostlaw_World_Accept.B0_sound w0 c lsd w h)
  exact hc.mono fun e w' he => by
    obtain ⟨v, rfl, hv⟩ := he
    exact hostlaw_World_Accept.RV_elim hv
end Go.Proofs.Qxb6500424aGreat
