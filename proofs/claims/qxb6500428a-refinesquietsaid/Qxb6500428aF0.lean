import Derived.Test.Qxb6500428aSig
set_option maxRecDepth 100000
set_option linter.unusedVariables false
open Go.Vc
namespace Go.Proofs.Qxb6500428a
def electlaw_Refines.B0 (script_b : Option Addr) (script_l script_c : Nat) (w : World)   (R : Bool → World → Prop) : Prop :=
  electlaw_RefinesUpTo.Call script_b script_l script_c w fun r4 w1 =>
  R (r4 == (-1 : Int)) w1
theorem electlaw_Refines.B0_eq (script_b : Option Addr) (script_l script_c : Nat) (w : World)   (R : Bool → World → Prop)  :
    (
  electlaw_RefinesUpTo.Call script_b script_l script_c w fun r4 w1 =>
  R (r4 == (-1 : Int)) w1) = kstep Try.prog 6 Try.f3.results.toList (Try.f3.body.getD .skip) (electlaw_Refines.RV R) (kvc Try.prog 6 Try.f3.results.toList (Try.f3.body.getD .skip) (electlaw_Refines.RV R) [] 2000) [(0, [])] [(0, .slice script_b script_l script_c)] w := by kernel_rfl
theorem electlaw_Refines.B0_sound {R : Bool → World → Prop}  (script_b : Option Addr) (script_l script_c : Nat) (w : World) (h : electlaw_Refines.B0 script_b script_l script_c w   R) :
    KW Try.prog 3 6 (electlaw_Refines.RV R) ([(0, [])].map (toItem (Try.f3.body.getD .skip))) [(0, .slice script_b script_l script_c)] w := by
  exact block_spec Try.func3 Try.mixed stops_nil (Eq.mp (electlaw_Refines.B0_eq script_b script_l script_c w   R ) h)
theorem electlaw_Refines.sound (script_b : Option Addr) (script_l script_c : Nat) (w : World) (R : Bool → World → Prop) (h : electlaw_Refines.B0 script_b script_l script_c w R) : electlaw_Refines.Call script_b script_l script_c w R := by
  have hc := calls_of_block (args := #[.slice script_b script_l script_c]) Try.func3 (body := (Try.f3.body.getD .skip)) (by kernel_rfl) (by kernel_rfl) (args_slot _) (electlaw_Refines.B0_sound script_b script_l script_c w h)
  exact hc.mono fun e w' he => by
    obtain ⟨v, rfl, hv⟩ := he
    exact electlaw_Refines.RV_elim hv
def electlaw_RefinesSteady.B0 (script_b : Option Addr) (script_l script_c : Nat) (w : World)   (R : Bool → World → Prop) : Prop :=
  electlaw_Refines.Call script_b script_l script_c w fun r4 w1 =>
  R r4 w1
theorem electlaw_RefinesSteady.B0_eq (script_b : Option Addr) (script_l script_c : Nat) (w : World)   (R : Bool → World → Prop)  :
    (
  electlaw_Refines.Call script_b script_l script_c w fun r4 w1 =>
  R r4 w1) = kstep Try.prog 5 Try.f4.results.toList (Try.f4.body.getD .skip) (electlaw_RefinesSteady.RV R) (kvc Try.prog 5 Try.f4.results.toList (Try.f4.body.getD .skip) (electlaw_RefinesSteady.RV R) [] 2000) [(0, [])] [(0, .slice script_b script_l script_c)] w := by kernel_rfl
theorem electlaw_RefinesSteady.B0_sound {R : Bool → World → Prop}  (script_b : Option Addr) (script_l script_c : Nat) (w : World) (h : electlaw_RefinesSteady.B0 script_b script_l script_c w   R) :
    KW Try.prog 4 5 (electlaw_RefinesSteady.RV R) ([(0, [])].map (toItem (Try.f4.body.getD .skip))) [(0, .slice script_b script_l script_c)] w := by
  exact block_spec Try.func4 Try.mixed stops_nil (Eq.mp (electlaw_RefinesSteady.B0_eq script_b script_l script_c w   R ) h)
theorem electlaw_RefinesSteady.sound (script_b : Option Addr) (script_l script_c : Nat) (w : World) (R : Bool → World → Prop) (h : electlaw_RefinesSteady.B0 script_b script_l script_c w R) : electlaw_RefinesSteady.Call script_b script_l script_c w R := by
  have hc := calls_of_block (args := #[.slice script_b script_l script_c]) Try.func4 (body := (Try.f4.body.getD .skip)) (by kernel_rfl) (by kernel_rfl) (args_slot _) (electlaw_RefinesSteady.B0_sound script_b script_l script_c w h)
  exact hc.mono fun e w' he => by
    obtain ⟨v, rfl, hv⟩ := he
    exact electlaw_RefinesSteady.RV_elim hv
def electlaw_RefinesQuiet.B0 (script_b : Option Addr) (script_l script_c : Nat) (w : World)   (R : Bool → World → Prop) : Prop :=
  electlaw_walk.Call script_b script_l script_c true w fun r7_0 r7_1 w1 =>
  R (r7_0 == (-1 : Int)) w1
theorem electlaw_RefinesQuiet.B0_eq (script_b : Option Addr) (script_l script_c : Nat) (w : World)   (R : Bool → World → Prop)  :
    (
  electlaw_walk.Call script_b script_l script_c true w fun r7_0 r7_1 w1 =>
  R (r7_0 == (-1 : Int)) w1) = kstep Try.prog 12 Try.f5.results.toList (Try.f5.body.getD .skip) (electlaw_RefinesQuiet.RV R) (kvc Try.prog 12 Try.f5.results.toList (Try.f5.body.getD .skip) (electlaw_RefinesQuiet.RV R) [] 2000) [(0, [])] [(0, .slice script_b script_l script_c)] w := by kernel_rfl
theorem electlaw_RefinesQuiet.B0_sound {R : Bool → World → Prop}  (script_b : Option Addr) (script_l script_c : Nat) (w : World) (h : electlaw_RefinesQuiet.B0 script_b script_l script_c w   R) :
    KW Try.prog 5 12 (electlaw_RefinesQuiet.RV R) ([(0, [])].map (toItem (Try.f5.body.getD .skip))) [(0, .slice script_b script_l script_c)] w := by
  exact block_spec Try.func5 Try.mixed stops_nil (Eq.mp (electlaw_RefinesQuiet.B0_eq script_b script_l script_c w   R ) h)
theorem electlaw_RefinesQuiet.sound (script_b : Option Addr) (script_l script_c : Nat) (w : World) (R : Bool → World → Prop) (h : electlaw_RefinesQuiet.B0 script_b script_l script_c w R) : electlaw_RefinesQuiet.Call script_b script_l script_c w R := by
  have hc := calls_of_block (args := #[.slice script_b script_l script_c]) Try.func5 (body := (Try.f5.body.getD .skip)) (by kernel_rfl) (by kernel_rfl) (args_slot _) (electlaw_RefinesQuiet.B0_sound script_b script_l script_c w h)
  exact hc.mono fun e w' he => by
    obtain ⟨v, rfl, hv⟩ := he
    exact electlaw_RefinesQuiet.RV_elim hv
def electlaw_Lemmas.B5 (script_b : Option Addr) (script_l script_c : Nat) (m0 : Option Addr) (wonAt idle i : Int) (a : Nat) (won campaign : Bool) (w : World) (N1 : Option Addr → Nat → Nat → Option Addr → Int → Int → Int → World → Prop)  (R : Bool → World → Prop) : Prop :=
  electlaw_FaceOf.Call m0 w fun r188_0 r188_1 r188_2 w1 =>
  New (.cells #[.int .i64 (0 : Int), .int .i64 (0 : Int), .int .i64 (0 : Int)] 32) w1 fun b_ w2 =>
  Sts [.int .i64 r188_0, .int .i64 r188_1, .int .i64 r188_2] ⟨b_, 0, none⟩ 0 w2 fun w3 =>
  LdI .i64 ⟨a, 0, none⟩ w3 fun x189_0 =>
  LdI .i64 ⟨a, 1, none⟩ w3 fun x189_1 =>
  LdI .i64 ⟨a, 2, none⟩ w3 fun x189_2 =>
  LdI .i64 ⟨b_, 0, none⟩ w3 fun x190_0 =>
  LdI .i64 ⟨b_, 1, none⟩ w3 fun x190_1 =>
  LdI .i64 ⟨b_, 2, none⟩ w3 fun x190_2 =>
  electlaw_TermRises.Call x189_0 x189_1 x189_2 x190_0 x190_1 x190_2 w3 fun r191 w4 =>
  Bm (!r191) (
    R false w4) (
    LdI .i64 ⟨a, 0, none⟩ w4 fun x193_0 =>
    LdI .i64 ⟨a, 1, none⟩ w4 fun x193_1 =>
    LdI .i64 ⟨a, 2, none⟩ w4 fun x193_2 =>
    LdI .i64 ⟨b_, 0, none⟩ w4 fun x194_0 =>
    LdI .i64 ⟨b_, 1, none⟩ w4 fun x194_1 =>
    LdI .i64 ⟨b_, 2, none⟩ w4 fun x194_2 =>
    electlaw_VotesOnce.Call x193_0 x193_1 x193_2 x194_0 x194_1 x194_2 w4 fun r195 w5 =>
    Bm (!r195) (
      R false w5) (
      LdI .i64 ⟨a, 0, none⟩ w5 fun x197_0 =>
      LdI .i64 ⟨a, 1, none⟩ w5 fun x197_1 =>
      LdI .i64 ⟨a, 2, none⟩ w5 fun x197_2 =>
      LdI .i64 ⟨b_, 0, none⟩ w5 fun x198_0 =>
      LdI .i64 ⟨b_, 1, none⟩ w5 fun x198_1 =>
      LdI .i64 ⟨b_, 2, none⟩ w5 fun x198_2 =>
      electlaw_Foot.Call x197_0 x197_1 x197_2 x198_0 x198_1 x198_2 won campaign w5 fun r201 w6 =>
      Bm (!r201) (
        R false w6) (
        N1 script_b script_l script_c m0 wonAt idle (IntKind.i64.wrap (i + (1 : Int))) w6)))
theorem electlaw_Lemmas.B5_eq (script_b : Option Addr) (script_l script_c : Nat) (m0 : Option Addr) (wonAt idle i : Int) (a : Nat) (won campaign : Bool) (w : World) (N1 : Option Addr → Nat → Nat → Option Addr → Int → Int → Int → World → Prop)  (R : Bool → World → Prop)  :
    (
  electlaw_FaceOf.Call m0 w fun r188_0 r188_1 r188_2 w1 =>
  New (.cells #[.int .i64 (0 : Int), .int .i64 (0 : Int), .int .i64 (0 : Int)] 32) w1 fun b_ w2 =>
  Sts [.int .i64 r188_0, .int .i64 r188_1, .int .i64 r188_2] ⟨b_, 0, none⟩ 0 w2 fun w3 =>
  LdI .i64 ⟨a, 0, none⟩ w3 fun x189_0 =>
  LdI .i64 ⟨a, 1, none⟩ w3 fun x189_1 =>
  LdI .i64 ⟨a, 2, none⟩ w3 fun x189_2 =>
  LdI .i64 ⟨b_, 0, none⟩ w3 fun x190_0 =>
  LdI .i64 ⟨b_, 1, none⟩ w3 fun x190_1 =>
  LdI .i64 ⟨b_, 2, none⟩ w3 fun x190_2 =>
  electlaw_TermRises.Call x189_0 x189_1 x189_2 x190_0 x190_1 x190_2 w3 fun r191 w4 =>
  Bm (!r191) (
    R false w4) (
    LdI .i64 ⟨a, 0, none⟩ w4 fun x193_0 =>
    LdI .i64 ⟨a, 1, none⟩ w4 fun x193_1 =>
    LdI .i64 ⟨a, 2, none⟩ w4 fun x193_2 =>
    LdI .i64 ⟨b_, 0, none⟩ w4 fun x194_0 =>
    LdI .i64 ⟨b_, 1, none⟩ w4 fun x194_1 =>
    LdI .i64 ⟨b_, 2, none⟩ w4 fun x194_2 =>
    electlaw_VotesOnce.Call x193_0 x193_1 x193_2 x194_0 x194_1 x194_2 w4 fun r195 w5 =>
    Bm (!r195) (
      R false w5) (
      LdI .i64 ⟨a, 0, none⟩ w5 fun x197_0 =>
      LdI .i64 ⟨a, 1, none⟩ w5 fun x197_1 =>
      LdI .i64 ⟨a, 2, none⟩ w5 fun x197_2 =>
      LdI .i64 ⟨b_, 0, none⟩ w5 fun x198_0 =>
      LdI .i64 ⟨b_, 1, none⟩ w5 fun x198_1 =>
      LdI .i64 ⟨b_, 2, none⟩ w5 fun x198_2 =>
      electlaw_Foot.Call x197_0 x197_1 x197_2 x198_0 x198_1 x198_2 won campaign w5 fun r201 w6 =>
      Bm (!r201) (
        R false w6) (
        N1 script_b script_l script_c m0 wonAt idle (IntKind.i64.wrap (i + (1 : Int))) w6)))) = kstep Try.prog 203 Try.f6.results.toList (Try.f6.body.getD .skip) (electlaw_Lemmas.RV R) (kvc Try.prog 203 Try.f6.results.toList (Try.f6.body.getD .skip) (electlaw_Lemmas.RV R) [([(0, [1, 1, 1, 0, 1, 0, 0]), (2, [1, 1, 1, 0, 1, 0, 0]), (1, [0]), (0, [1, 1, 1, 1])], fun σ w => dL (slotOf σ 0) fun script_b_ script_l_ script_c_ => dP (slotOf σ 3) fun m0_ => dI .i64 (slotOf σ 4) fun wonAt_ => dI .i64 (slotOf σ 5) fun idle_ => dI .i64 (slotOf σ 6) fun i_ => N1 script_b_ script_l_ script_c_ m0_ wonAt_ idle_ i_ w)] 2000) [(0, [1, 1, 1, 0, 1, 0, 0, 1, 0, 0, 1, 1, 1, 1]), (1, [1]), (0, [1, 1, 1, 0, 1, 0, 0, 1, 1]), (2, [1, 1, 1, 0, 1, 0, 0]), (1, [0]), (0, [1, 1, 1, 1])] [(0, .slice script_b script_l script_c), (3, .pointer m0), (4, .int .i64 wonAt), (5, .int .i64 idle), (6, .int .i64 i), (8, .pointer (some ⟨a, 0, none⟩)), (9, .bool won), (10, .bool campaign)] w := by kernel_rfl
theorem electlaw_Lemmas.B5_sound {R : Bool → World → Prop} {N1 : Option Addr → Nat → Nat → Option Addr → Int → Int → Int → World → Prop} (hN1 : ∀ script_b script_l script_c m0 wonAt idle i w, N1 script_b script_l script_c m0 wonAt idle i w → KW Try.prog 6 203 (electlaw_Lemmas.RV R) ([(0, [1, 1, 1, 0, 1, 0, 0]), (2, [1, 1, 1, 0, 1, 0, 0]), (1, [0]), (0, [1, 1, 1, 1])].map (toItem (Try.f6.body.getD .skip))) [(0, .slice script_b script_l script_c), (3, .pointer m0), (4, .int .i64 wonAt), (5, .int .i64 idle), (6, .int .i64 i)] w) (script_b : Option Addr) (script_l script_c : Nat) (m0 : Option Addr) (wonAt idle i : Int) (a : Nat) (won campaign : Bool) (w : World) (h : electlaw_Lemmas.B5 script_b script_l script_c m0 wonAt idle i a won campaign w N1  R) :
    KW Try.prog 6 203 (electlaw_Lemmas.RV R) ([(0, [1, 1, 1, 0, 1, 0, 0, 1, 0, 0, 1, 1, 1, 1]), (1, [1]), (0, [1, 1, 1, 0, 1, 0, 0, 1, 1]), (2, [1, 1, 1, 0, 1, 0, 0]), (1, [0]), (0, [1, 1, 1, 1])].map (toItem (Try.f6.body.getD .skip))) [(0, .slice script_b script_l script_c), (3, .pointer m0), (4, .int .i64 wonAt), (5, .int .i64 idle), (6, .int .i64 i), (8, .pointer (some ⟨a, 0, none⟩)), (9, .bool won), (10, .bool campaign)] w := by
  exact block_spec Try.func6 Try.mixed (stops_cons (fun σ w h => by
      obtain ⟨script_b_, script_l_, script_c_, e0, h⟩ := dL_elim h
      obtain ⟨m0_, e1, h⟩ := dP_elim h
      obtain ⟨wonAt_, e2, h⟩ := dI_elim h
      obtain ⟨idle_, e3, h⟩ := dI_elim h
      obtain ⟨i_, e4, h⟩ := dI_elim h
      exact (hN1 script_b_ script_l_ script_c_ m0_ wonAt_ idle_ i_ w h).weaken (Sub.cons (Sub.cons (Sub.cons (Sub.cons (Sub.cons (Sub.nil _) e4) e3) e2) e1) e0)) stops_nil) (Eq.mp (electlaw_Lemmas.B5_eq script_b script_l script_c m0 wonAt idle i a won campaign w N1  R ) h)
def electlaw_Lemmas.B10 (script_b : Option Addr) (script_l script_c : Nat) (m0 : Option Addr) (wonAt idle i : Int) (a : Nat) (won campaign t62 : Bool) (w : World) (N1 : Option Addr → Nat → Nat → Option Addr → Int → Int → Int → World → Prop)  (R : Bool → World → Prop) : Prop :=
  Bm t62 (
    R false w) (
    electlaw_Lemmas.B5 script_b script_l script_c m0 wonAt idle i a won campaign w N1 R)
theorem electlaw_Lemmas.B10_eq (script_b : Option Addr) (script_l script_c : Nat) (m0 : Option Addr) (wonAt idle i : Int) (a : Nat) (won campaign t62 : Bool) (w : World) (N1 : Option Addr → Nat → Nat → Option Addr → Int → Int → Int → World → Prop)  (R : Bool → World → Prop) (sB5 : Option Addr → Nat → Nat → Option Addr → Int → Int → Int → Nat → Bool → Bool → World → Prop) :
    (
  Bm t62 (
    R false w) (
    sB5 script_b script_l script_c m0 wonAt idle i a won campaign w)) = kstep Try.prog 203 Try.f6.results.toList (Try.f6.body.getD .skip) (electlaw_Lemmas.RV R) (kvc Try.prog 203 Try.f6.results.toList (Try.f6.body.getD .skip) (electlaw_Lemmas.RV R) [([(0, [1, 1, 1, 0, 1, 0, 0, 1, 0, 0, 1, 1, 1, 1]), (1, [1]), (0, [1, 1, 1, 0, 1, 0, 0, 1, 1]), (2, [1, 1, 1, 0, 1, 0, 0]), (1, [0]), (0, [1, 1, 1, 1])], fun σ w => dL (slotOf σ 0) fun script_b_ script_l_ script_c_ => dP (slotOf σ 3) fun m0_ => dI .i64 (slotOf σ 4) fun wonAt_ => dI .i64 (slotOf σ 5) fun idle_ => dI .i64 (slotOf σ 6) fun i_ => dK (slotOf σ 8) fun a_ => dB (slotOf σ 9) fun won_ => dB (slotOf σ 10) fun campaign_ => sB5 script_b_ script_l_ script_c_ m0_ wonAt_ idle_ i_ a_ won_ campaign_ w)] 2000) [(0, [1, 1, 1, 0, 1, 0, 0, 1, 0, 0, 1, 1, 1, 0, 1, 0, 1, 0, 1, 1, 1, 1, 1]), (1, [2]), (0, [1, 1, 1, 0, 1, 0, 0, 1, 0, 0, 1, 1, 1, 1]), (1, [1]), (0, [1, 1, 1, 0, 1, 0, 0, 1, 1]), (2, [1, 1, 1, 0, 1, 0, 0]), (1, [0]), (0, [1, 1, 1, 1])] [(0, .slice script_b script_l script_c), (3, .pointer m0), (4, .int .i64 wonAt), (5, .int .i64 idle), (6, .int .i64 i), (8, .pointer (some ⟨a, 0, none⟩)), (9, .bool won), (10, .bool campaign), (62, .bool t62)] w := by kernel_rfl
theorem electlaw_Lemmas.B10_sound {R : Bool → World → Prop} {N1 : Option Addr → Nat → Nat → Option Addr → Int → Int → Int → World → Prop} (hN1 : ∀ script_b script_l script_c m0 wonAt idle i w, N1 script_b script_l script_c m0 wonAt idle i w → KW Try.prog 6 203 (electlaw_Lemmas.RV R) ([(0, [1, 1, 1, 0, 1, 0, 0]), (2, [1, 1, 1, 0, 1, 0, 0]), (1, [0]), (0, [1, 1, 1, 1])].map (toItem (Try.f6.body.getD .skip))) [(0, .slice script_b script_l script_c), (3, .pointer m0), (4, .int .i64 wonAt), (5, .int .i64 idle), (6, .int .i64 i)] w) (script_b : Option Addr) (script_l script_c : Nat) (m0 : Option Addr) (wonAt idle i : Int) (a : Nat) (won campaign t62 : Bool) (w : World) (h : electlaw_Lemmas.B10 script_b script_l script_c m0 wonAt idle i a won campaign t62 w N1  R) :
    KW Try.prog 6 203 (electlaw_Lemmas.RV R) ([(0, [1, 1, 1, 0, 1, 0, 0, 1, 0, 0, 1, 1, 1, 0, 1, 0, 1, 0, 1, 1, 1, 1, 1]), (1, [2]), (0, [1, 1, 1, 0, 1, 0, 0, 1, 0, 0, 1, 1, 1, 1]), (1, [1]), (0, [1, 1, 1, 0, 1, 0, 0, 1, 1]), (2, [1, 1, 1, 0, 1, 0, 0]), (1, [0]), (0, [1, 1, 1, 1])].map (toItem (Try.f6.body.getD .skip))) [(0, .slice script_b script_l script_c), (3, .pointer m0), (4, .int .i64 wonAt), (5, .int .i64 idle), (6, .int .i64 i), (8, .pointer (some ⟨a, 0, none⟩)), (9, .bool won), (10, .bool campaign), (62, .bool t62)] w := by
  exact block_spec Try.func6 Try.mixed (stops_cons (fun σ w h => by
      obtain ⟨script_b_, script_l_, script_c_, e0, h⟩ := dL_elim h
      obtain ⟨m0_, e1, h⟩ := dP_elim h
      obtain ⟨wonAt_, e2, h⟩ := dI_elim h
      obtain ⟨idle_, e3, h⟩ := dI_elim h
      obtain ⟨i_, e4, h⟩ := dI_elim h
      obtain ⟨a_, e5, h⟩ := dK_elim h
      obtain ⟨won_, e6, h⟩ := dB_elim h
      obtain ⟨campaign_, e7, h⟩ := dB_elim h
      exact (electlaw_Lemmas.B5_sound hN1 script_b_ script_l_ script_c_ m0_ wonAt_ idle_ i_ a_ won_ campaign_ w h).weaken (Sub.cons (Sub.cons (Sub.cons (Sub.cons (Sub.cons (Sub.cons (Sub.cons (Sub.cons (Sub.nil _) e7) e6) e5) e4) e3) e2) e1) e0)) stops_nil) (Eq.mp (electlaw_Lemmas.B10_eq script_b script_l script_c m0 wonAt idle i a won campaign t62 w N1  R (fun script_b_ script_l_ script_c_ m0_ wonAt_ idle_ i_ a_ won_ campaign_ w => electlaw_Lemmas.B5 script_b_ script_l_ script_c_ m0_ wonAt_ idle_ i_ a_ won_ campaign_ w N1 R)) h)
def electlaw_Lemmas.B8 (script_b : Option Addr) (script_l script_c : Nat) (m0 : Option Addr) (wonAt idle i : Int) (a : Nat) (won campaign : Bool) (w : World) (N1 : Option Addr → Nat → Nat → Option Addr → Int → Int → Int → World → Prop)  (R : Bool → World → Prop) : Prop :=
  electm_Elect_Id.Call m0 w fun r53 w1 =>
  api_Timeout.Call r53 w1 fun r56 w2 =>
  Bm (decide (idle ≥ r56)) (
    LdI .i64 ⟨a, 0, none⟩ w2 fun x60 =>
    electlaw_Lemmas.B10 script_b script_l script_c m0 wonAt idle i a won campaign (decide (x60 < (72057594037927936 : Int))) w2 N1 R) (
    electlaw_Lemmas.B10 script_b script_l script_c m0 wonAt idle i a won campaign false w2 N1 R)
theorem electlaw_Lemmas.B8_eq (script_b : Option Addr) (script_l script_c : Nat) (m0 : Option Addr) (wonAt idle i : Int) (a : Nat) (won campaign : Bool) (w : World) (N1 : Option Addr → Nat → Nat → Option Addr → Int → Int → Int → World → Prop)  (R : Bool → World → Prop) (sB10 : Option Addr → Nat → Nat → Option Addr → Int → Int → Int → Nat → Bool → Bool → Bool → World → Prop) :
    (
  electm_Elect_Id.Call m0 w fun r53 w1 =>
  api_Timeout.Call r53 w1 fun r56 w2 =>
  Bm (decide (idle ≥ r56)) (
    LdI .i64 ⟨a, 0, none⟩ w2 fun x60 =>
    sB10 script_b script_l script_c m0 wonAt idle i a won campaign (decide (x60 < (72057594037927936 : Int))) w2) (
    sB10 script_b script_l script_c m0 wonAt idle i a won campaign false w2)) = kstep Try.prog 203 Try.f6.results.toList (Try.f6.body.getD .skip) (electlaw_Lemmas.RV R) (kvc Try.prog 203 Try.f6.results.toList (Try.f6.body.getD .skip) (electlaw_Lemmas.RV R) [([(0, [1, 1, 1, 0, 1, 0, 0, 1, 0, 0, 1, 1, 1, 0, 1, 0, 1, 0, 1, 1, 1, 1, 1]), (1, [2]), (0, [1, 1, 1, 0, 1, 0, 0, 1, 0, 0, 1, 1, 1, 1]), (1, [1]), (0, [1, 1, 1, 0, 1, 0, 0, 1, 1]), (2, [1, 1, 1, 0, 1, 0, 0]), (1, [0]), (0, [1, 1, 1, 1])], fun σ w => dL (slotOf σ 0) fun script_b_ script_l_ script_c_ => dP (slotOf σ 3) fun m0_ => dI .i64 (slotOf σ 4) fun wonAt_ => dI .i64 (slotOf σ 5) fun idle_ => dI .i64 (slotOf σ 6) fun i_ => dK (slotOf σ 8) fun a_ => dB (slotOf σ 9) fun won_ => dB (slotOf σ 10) fun campaign_ => dB (slotOf σ 62) fun t62_ => sB10 script_b_ script_l_ script_c_ m0_ wonAt_ idle_ i_ a_ won_ campaign_ t62_ w)] 2000) [(0, [1, 1, 1, 0, 1, 0, 0, 1, 0, 0, 1, 1, 1, 0, 1, 0, 1, 0, 1, 1, 1]), (1, [2]), (0, [1, 1, 1, 0, 1, 0, 0, 1, 0, 0, 1, 1, 1, 1]), (1, [1]), (0, [1, 1, 1, 0, 1, 0, 0, 1, 1]), (2, [1, 1, 1, 0, 1, 0, 0]), (1, [0]), (0, [1, 1, 1, 1])] [(0, .slice script_b script_l script_c), (3, .pointer m0), (4, .int .i64 wonAt), (5, .int .i64 idle), (6, .int .i64 i), (8, .pointer (some ⟨a, 0, none⟩)), (9, .bool won), (10, .bool campaign)] w := by kernel_rfl
theorem electlaw_Lemmas.B8_sound {R : Bool → World → Prop} {N1 : Option Addr → Nat → Nat → Option Addr → Int → Int → Int → World → Prop} (hN1 : ∀ script_b script_l script_c m0 wonAt idle i w, N1 script_b script_l script_c m0 wonAt idle i w → KW Try.prog 6 203 (electlaw_Lemmas.RV R) ([(0, [1, 1, 1, 0, 1, 0, 0]), (2, [1, 1, 1, 0, 1, 0, 0]), (1, [0]), (0, [1, 1, 1, 1])].map (toItem (Try.f6.body.getD .skip))) [(0, .slice script_b script_l script_c), (3, .pointer m0), (4, .int .i64 wonAt), (5, .int .i64 idle), (6, .int .i64 i)] w) (script_b : Option Addr) (script_l script_c : Nat) (m0 : Option Addr) (wonAt idle i : Int) (a : Nat) (won campaign : Bool) (w : World) (h : electlaw_Lemmas.B8 script_b script_l script_c m0 wonAt idle i a won campaign w N1  R) :
    KW Try.prog 6 203 (electlaw_Lemmas.RV R) ([(0, [1, 1, 1, 0, 1, 0, 0, 1, 0, 0, 1, 1, 1, 0, 1, 0, 1, 0, 1, 1, 1]), (1, [2]), (0, [1, 1, 1, 0, 1, 0, 0, 1, 0, 0, 1, 1, 1, 1]), (1, [1]), (0, [1, 1, 1, 0, 1, 0, 0, 1, 1]), (2, [1, 1, 1, 0, 1, 0, 0]), (1, [0]), (0, [1, 1, 1, 1])].map (toItem (Try.f6.body.getD .skip))) [(0, .slice script_b script_l script_c), (3, .pointer m0), (4, .int .i64 wonAt), (5, .int .i64 idle), (6, .int .i64 i), (8, .pointer (some ⟨a, 0, none⟩)), (9, .bool won), (10, .bool campaign)] w := by
  exact block_spec Try.func6 Try.mixed (stops_cons (fun σ w h => by
      obtain ⟨script_b_, script_l_, script_c_, e0, h⟩ := dL_elim h
      obtain ⟨m0_, e1, h⟩ := dP_elim h
      obtain ⟨wonAt_, e2, h⟩ := dI_elim h
      obtain ⟨idle_, e3, h⟩ := dI_elim h
      obtain ⟨i_, e4, h⟩ := dI_elim h
      obtain ⟨a_, e5, h⟩ := dK_elim h
      obtain ⟨won_, e6, h⟩ := dB_elim h
      obtain ⟨campaign_, e7, h⟩ := dB_elim h
      obtain ⟨t62_, e8, h⟩ := dB_elim h
      exact (electlaw_Lemmas.B10_sound hN1 script_b_ script_l_ script_c_ m0_ wonAt_ idle_ i_ a_ won_ campaign_ t62_ w h).weaken (Sub.cons (Sub.cons (Sub.cons (Sub.cons (Sub.cons (Sub.cons (Sub.cons (Sub.cons (Sub.cons (Sub.nil _) e8) e7) e6) e5) e4) e3) e2) e1) e0)) stops_nil) (Eq.mp (electlaw_Lemmas.B8_eq script_b script_l script_c m0 wonAt idle i a won campaign w N1  R (fun script_b_ script_l_ script_c_ m0_ wonAt_ idle_ i_ a_ won_ campaign_ t62_ w => electlaw_Lemmas.B10 script_b_ script_l_ script_c_ m0_ wonAt_ idle_ i_ a_ won_ campaign_ t62_ w N1 R)) h)
def electlaw_Lemmas.B2 (script_b : Option Addr) (script_l script_c : Nat) (m0 : Option Addr) (wonAt idle i : Int) (a : Nat) (won campaign t51 : Bool) (w : World) (N1 : Option Addr → Nat → Nat → Option Addr → Int → Int → Int → World → Prop)  (R : Bool → World → Prop) : Prop :=
  Bm t51 (
    electlaw_Lemmas.B8 script_b script_l script_c m0 wonAt (0 : Int) i a won campaign w N1 R) (
    electlaw_Lemmas.B8 script_b script_l script_c m0 wonAt idle i a won campaign w N1 R)
theorem electlaw_Lemmas.B2_eq (script_b : Option Addr) (script_l script_c : Nat) (m0 : Option Addr) (wonAt idle i : Int) (a : Nat) (won campaign t51 : Bool) (w : World) (N1 : Option Addr → Nat → Nat → Option Addr → Int → Int → Int → World → Prop)  (R : Bool → World → Prop) (sB8 : Option Addr → Nat → Nat → Option Addr → Int → Int → Int → Nat → Bool → Bool → World → Prop) :
    (
  Bm t51 (
    sB8 script_b script_l script_c m0 wonAt (0 : Int) i a won campaign w) (
    sB8 script_b script_l script_c m0 wonAt idle i a won campaign w)) = kstep Try.prog 203 Try.f6.results.toList (Try.f6.body.getD .skip) (electlaw_Lemmas.RV R) (kvc Try.prog 203 Try.f6.results.toList (Try.f6.body.getD .skip) (electlaw_Lemmas.RV R) [([(0, [1, 1, 1, 0, 1, 0, 0, 1, 0, 0, 1, 1, 1, 0, 1, 0, 1, 0, 1, 1, 1]), (1, [2]), (0, [1, 1, 1, 0, 1, 0, 0, 1, 0, 0, 1, 1, 1, 1]), (1, [1]), (0, [1, 1, 1, 0, 1, 0, 0, 1, 1]), (2, [1, 1, 1, 0, 1, 0, 0]), (1, [0]), (0, [1, 1, 1, 1])], fun σ w => dL (slotOf σ 0) fun script_b_ script_l_ script_c_ => dP (slotOf σ 3) fun m0_ => dI .i64 (slotOf σ 4) fun wonAt_ => dI .i64 (slotOf σ 5) fun idle_ => dI .i64 (slotOf σ 6) fun i_ => dK (slotOf σ 8) fun a_ => dB (slotOf σ 9) fun won_ => dB (slotOf σ 10) fun campaign_ => sB8 script_b_ script_l_ script_c_ m0_ wonAt_ idle_ i_ a_ won_ campaign_ w)] 2000) [(0, [1, 1, 1, 0, 1, 0, 0, 1, 0, 0, 1, 1, 1, 0, 1, 0, 1, 0, 1, 1, 0, 1]), (0, [1, 1, 1, 0, 1, 0, 0, 1, 0, 0, 1, 1, 1, 0, 1, 0, 1, 0, 1, 1, 1]), (1, [2]), (0, [1, 1, 1, 0, 1, 0, 0, 1, 0, 0, 1, 1, 1, 1]), (1, [1]), (0, [1, 1, 1, 0, 1, 0, 0, 1, 1]), (2, [1, 1, 1, 0, 1, 0, 0]), (1, [0]), (0, [1, 1, 1, 1])] [(0, .slice script_b script_l script_c), (3, .pointer m0), (4, .int .i64 wonAt), (5, .int .i64 idle), (6, .int .i64 i), (8, .pointer (some ⟨a, 0, none⟩)), (9, .bool won), (10, .bool campaign), (51, .bool t51)] w := by kernel_rfl
theorem electlaw_Lemmas.B2_sound {R : Bool → World → Prop} {N1 : Option Addr → Nat → Nat → Option Addr → Int → Int → Int → World → Prop} (hN1 : ∀ script_b script_l script_c m0 wonAt idle i w, N1 script_b script_l script_c m0 wonAt idle i w → KW Try.prog 6 203 (electlaw_Lemmas.RV R) ([(0, [1, 1, 1, 0, 1, 0, 0]), (2, [1, 1, 1, 0, 1, 0, 0]), (1, [0]), (0, [1, 1, 1, 1])].map (toItem (Try.f6.body.getD .skip))) [(0, .slice script_b script_l script_c), (3, .pointer m0), (4, .int .i64 wonAt), (5, .int .i64 idle), (6, .int .i64 i)] w) (script_b : Option Addr) (script_l script_c : Nat) (m0 : Option Addr) (wonAt idle i : Int) (a : Nat) (won campaign t51 : Bool) (w : World) (h : electlaw_Lemmas.B2 script_b script_l script_c m0 wonAt idle i a won campaign t51 w N1  R) :
    KW Try.prog 6 203 (electlaw_Lemmas.RV R) ([(0, [1, 1, 1, 0, 1, 0, 0, 1, 0, 0, 1, 1, 1, 0, 1, 0, 1, 0, 1, 1, 0, 1]), (0, [1, 1, 1, 0, 1, 0, 0, 1, 0, 0, 1, 1, 1, 0, 1, 0, 1, 0, 1, 1, 1]), (1, [2]), (0, [1, 1, 1, 0, 1, 0, 0, 1, 0, 0, 1, 1, 1, 1]), (1, [1]), (0, [1, 1, 1, 0, 1, 0, 0, 1, 1]), (2, [1, 1, 1, 0, 1, 0, 0]), (1, [0]), (0, [1, 1, 1, 1])].map (toItem (Try.f6.body.getD .skip))) [(0, .slice script_b script_l script_c), (3, .pointer m0), (4, .int .i64 wonAt), (5, .int .i64 idle), (6, .int .i64 i), (8, .pointer (some ⟨a, 0, none⟩)), (9, .bool won), (10, .bool campaign), (51, .bool t51)] w := by
  exact block_spec Try.func6 Try.mixed (stops_cons (fun σ w h => by
      obtain ⟨script_b_, script_l_, script_c_, e0, h⟩ := dL_elim h
      obtain ⟨m0_, e1, h⟩ := dP_elim h
      obtain ⟨wonAt_, e2, h⟩ := dI_elim h
      obtain ⟨idle_, e3, h⟩ := dI_elim h
      obtain ⟨i_, e4, h⟩ := dI_elim h
      obtain ⟨a_, e5, h⟩ := dK_elim h
      obtain ⟨won_, e6, h⟩ := dB_elim h
      obtain ⟨campaign_, e7, h⟩ := dB_elim h
      exact (electlaw_Lemmas.B8_sound hN1 script_b_ script_l_ script_c_ m0_ wonAt_ idle_ i_ a_ won_ campaign_ w h).weaken (Sub.cons (Sub.cons (Sub.cons (Sub.cons (Sub.cons (Sub.cons (Sub.cons (Sub.cons (Sub.nil _) e7) e6) e5) e4) e3) e2) e1) e0)) stops_nil) (Eq.mp (electlaw_Lemmas.B2_eq script_b script_l script_c m0 wonAt idle i a won campaign t51 w N1  R (fun script_b_ script_l_ script_c_ m0_ wonAt_ idle_ i_ a_ won_ campaign_ w => electlaw_Lemmas.B8 script_b_ script_l_ script_c_ m0_ wonAt_ idle_ i_ a_ won_ campaign_ w N1 R)) h)
def electlaw_Lemmas.B3 (script_b : Option Addr) (script_l script_c : Nat) (m0 : Option Addr) (wonAt idle i : Int) (a : Nat) (won campaign t83 : Bool) (w : World) (N1 : Option Addr → Nat → Nat → Option Addr → Int → Int → Int → World → Prop)  (R : Bool → World → Prop) : Prop :=
  Bm t83 (
    R false w) (
    electlaw_Lemmas.B5 script_b script_l script_c m0 wonAt idle i a won campaign w N1 R)
theorem electlaw_Lemmas.B3_eq (script_b : Option Addr) (script_l script_c : Nat) (m0 : Option Addr) (wonAt idle i : Int) (a : Nat) (won campaign t83 : Bool) (w : World) (N1 : Option Addr → Nat → Nat → Option Addr → Int → Int → Int → World → Prop)  (R : Bool → World → Prop) (sB5 : Option Addr → Nat → Nat → Option Addr → Int → Int → Int → Nat → Bool → Bool → World → Prop) :
    (
  Bm t83 (
    R false w) (
    sB5 script_b script_l script_c m0 wonAt idle i a won campaign w)) = kstep Try.prog 203 Try.f6.results.toList (Try.f6.body.getD .skip) (electlaw_Lemmas.RV R) (kvc Try.prog 203 Try.f6.results.toList (Try.f6.body.getD .skip) (electlaw_Lemmas.RV R) [([(0, [1, 1, 1, 0, 1, 0, 0, 1, 0, 0, 1, 1, 1, 1]), (1, [1]), (0, [1, 1, 1, 0, 1, 0, 0, 1, 1]), (2, [1, 1, 1, 0, 1, 0, 0]), (1, [0]), (0, [1, 1, 1, 1])], fun σ w => dL (slotOf σ 0) fun script_b_ script_l_ script_c_ => dP (slotOf σ 3) fun m0_ => dI .i64 (slotOf σ 4) fun wonAt_ => dI .i64 (slotOf σ 5) fun idle_ => dI .i64 (slotOf σ 6) fun i_ => dK (slotOf σ 8) fun a_ => dB (slotOf σ 9) fun won_ => dB (slotOf σ 10) fun campaign_ => sB5 script_b_ script_l_ script_c_ m0_ wonAt_ idle_ i_ a_ won_ campaign_ w)] 2000) [(0, [1, 1, 1, 0, 1, 0, 0, 1, 0, 0, 1, 1, 1, 0, 1, 0, 1, 1, 1, 0, 1, 1, 1, 1]), (1, [2]), (0, [1, 1, 1, 0, 1, 0, 0, 1, 0, 0, 1, 1, 1, 1]), (1, [1]), (0, [1, 1, 1, 0, 1, 0, 0, 1, 1]), (2, [1, 1, 1, 0, 1, 0, 0]), (1, [0]), (0, [1, 1, 1, 1])] [(0, .slice script_b script_l script_c), (3, .pointer m0), (4, .int .i64 wonAt), (5, .int .i64 idle), (6, .int .i64 i), (8, .pointer (some ⟨a, 0, none⟩)), (9, .bool won), (10, .bool campaign), (83, .bool t83)] w := by kernel_rfl
theorem electlaw_Lemmas.B3_sound {R : Bool → World → Prop} {N1 : Option Addr → Nat → Nat → Option Addr → Int → Int → Int → World → Prop} (hN1 : ∀ script_b script_l script_c m0 wonAt idle i w, N1 script_b script_l script_c m0 wonAt idle i w → KW Try.prog 6 203 (electlaw_Lemmas.RV R) ([(0, [1, 1, 1, 0, 1, 0, 0]), (2, [1, 1, 1, 0, 1, 0, 0]), (1, [0]), (0, [1, 1, 1, 1])].map (toItem (Try.f6.body.getD .skip))) [(0, .slice script_b script_l script_c), (3, .pointer m0), (4, .int .i64 wonAt), (5, .int .i64 idle), (6, .int .i64 i)] w) (script_b : Option Addr) (script_l script_c : Nat) (m0 : Option Addr) (wonAt idle i : Int) (a : Nat) (won campaign t83 : Bool) (w : World) (h : electlaw_Lemmas.B3 script_b script_l script_c m0 wonAt idle i a won campaign t83 w N1  R) :
    KW Try.prog 6 203 (electlaw_Lemmas.RV R) ([(0, [1, 1, 1, 0, 1, 0, 0, 1, 0, 0, 1, 1, 1, 0, 1, 0, 1, 1, 1, 0, 1, 1, 1, 1]), (1, [2]), (0, [1, 1, 1, 0, 1, 0, 0, 1, 0, 0, 1, 1, 1, 1]), (1, [1]), (0, [1, 1, 1, 0, 1, 0, 0, 1, 1]), (2, [1, 1, 1, 0, 1, 0, 0]), (1, [0]), (0, [1, 1, 1, 1])].map (toItem (Try.f6.body.getD .skip))) [(0, .slice script_b script_l script_c), (3, .pointer m0), (4, .int .i64 wonAt), (5, .int .i64 idle), (6, .int .i64 i), (8, .pointer (some ⟨a, 0, none⟩)), (9, .bool won), (10, .bool campaign), (83, .bool t83)] w := by
  exact block_spec Try.func6 Try.mixed (stops_cons (fun σ w h => by
      obtain ⟨script_b_, script_l_, script_c_, e0, h⟩ := dL_elim h
      obtain ⟨m0_, e1, h⟩ := dP_elim h
      obtain ⟨wonAt_, e2, h⟩ := dI_elim h
      obtain ⟨idle_, e3, h⟩ := dI_elim h
      obtain ⟨i_, e4, h⟩ := dI_elim h
      obtain ⟨a_, e5, h⟩ := dK_elim h
      obtain ⟨won_, e6, h⟩ := dB_elim h
      obtain ⟨campaign_, e7, h⟩ := dB_elim h
      exact (electlaw_Lemmas.B5_sound hN1 script_b_ script_l_ script_c_ m0_ wonAt_ idle_ i_ a_ won_ campaign_ w h).weaken (Sub.cons (Sub.cons (Sub.cons (Sub.cons (Sub.cons (Sub.cons (Sub.cons (Sub.cons (Sub.nil _) e7) e6) e5) e4) e3) e2) e1) e0)) stops_nil) (Eq.mp (electlaw_Lemmas.B3_eq script_b script_l script_c m0 wonAt idle i a won campaign t83 w N1  R (fun script_b_ script_l_ script_c_ m0_ wonAt_ idle_ i_ a_ won_ campaign_ w => electlaw_Lemmas.B5 script_b_ script_l_ script_c_ m0_ wonAt_ idle_ i_ a_ won_ campaign_ w N1 R)) h)
def electlaw_Lemmas.B4 (script_b : Option Addr) (script_l script_c : Nat) (m0 : Option Addr) (wonAt idle i : Int) (a : Nat) (won campaign t108 : Bool) (w : World) (N1 : Option Addr → Nat → Nat → Option Addr → Int → Int → Int → World → Prop)  (R : Bool → World → Prop) : Prop :=
  Bm t108 (
    R false w) (
    electlaw_Lemmas.B5 script_b script_l script_c m0 wonAt idle i a won campaign w N1 R)
theorem electlaw_Lemmas.B4_eq (script_b : Option Addr) (script_l script_c : Nat) (m0 : Option Addr) (wonAt idle i : Int) (a : Nat) (won campaign t108 : Bool) (w : World) (N1 : Option Addr → Nat → Nat → Option Addr → Int → Int → Int → World → Prop)  (R : Bool → World → Prop) (sB5 : Option Addr → Nat → Nat → Option Addr → Int → Int → Int → Nat → Bool → Bool → World → Prop) :
    (
  Bm t108 (
    R false w) (
    sB5 script_b script_l script_c m0 wonAt idle i a won campaign w)) = kstep Try.prog 203 Try.f6.results.toList (Try.f6.body.getD .skip) (electlaw_Lemmas.RV R) (kvc Try.prog 203 Try.f6.results.toList (Try.f6.body.getD .skip) (electlaw_Lemmas.RV R) [([(0, [1, 1, 1, 0, 1, 0, 0, 1, 0, 0, 1, 1, 1, 1]), (1, [1]), (0, [1, 1, 1, 0, 1, 0, 0, 1, 1]), (2, [1, 1, 1, 0, 1, 0, 0]), (1, [0]), (0, [1, 1, 1, 1])], fun σ w => dL (slotOf σ 0) fun script_b_ script_l_ script_c_ => dP (slotOf σ 3) fun m0_ => dI .i64 (slotOf σ 4) fun wonAt_ => dI .i64 (slotOf σ 5) fun idle_ => dI .i64 (slotOf σ 6) fun i_ => dK (slotOf σ 8) fun a_ => dB (slotOf σ 9) fun won_ => dB (slotOf σ 10) fun campaign_ => sB5 script_b_ script_l_ script_c_ m0_ wonAt_ idle_ i_ a_ won_ campaign_ w)] 2000) [(0, [1, 1, 1, 0, 1, 0, 0, 1, 0, 0, 1, 1, 1, 0, 1, 0, 1, 1, 1, 1, 1, 0, 1, 1, 0, 1, 1, 1]), (1, [2]), (0, [1, 1, 1, 0, 1, 0, 0, 1, 0, 0, 1, 1, 1, 1]), (1, [1]), (0, [1, 1, 1, 0, 1, 0, 0, 1, 1]), (2, [1, 1, 1, 0, 1, 0, 0]), (1, [0]), (0, [1, 1, 1, 1])] [(0, .slice script_b script_l script_c), (3, .pointer m0), (4, .int .i64 wonAt), (5, .int .i64 idle), (6, .int .i64 i), (8, .pointer (some ⟨a, 0, none⟩)), (9, .bool won), (10, .bool campaign), (108, .bool t108)] w := by kernel_rfl
theorem electlaw_Lemmas.B4_sound {R : Bool → World → Prop} {N1 : Option Addr → Nat → Nat → Option Addr → Int → Int → Int → World → Prop} (hN1 : ∀ script_b script_l script_c m0 wonAt idle i w, N1 script_b script_l script_c m0 wonAt idle i w → KW Try.prog 6 203 (electlaw_Lemmas.RV R) ([(0, [1, 1, 1, 0, 1, 0, 0]), (2, [1, 1, 1, 0, 1, 0, 0]), (1, [0]), (0, [1, 1, 1, 1])].map (toItem (Try.f6.body.getD .skip))) [(0, .slice script_b script_l script_c), (3, .pointer m0), (4, .int .i64 wonAt), (5, .int .i64 idle), (6, .int .i64 i)] w) (script_b : Option Addr) (script_l script_c : Nat) (m0 : Option Addr) (wonAt idle i : Int) (a : Nat) (won campaign t108 : Bool) (w : World) (h : electlaw_Lemmas.B4 script_b script_l script_c m0 wonAt idle i a won campaign t108 w N1  R) :
    KW Try.prog 6 203 (electlaw_Lemmas.RV R) ([(0, [1, 1, 1, 0, 1, 0, 0, 1, 0, 0, 1, 1, 1, 0, 1, 0, 1, 1, 1, 1, 1, 0, 1, 1, 0, 1, 1, 1]), (1, [2]), (0, [1, 1, 1, 0, 1, 0, 0, 1, 0, 0, 1, 1, 1, 1]), (1, [1]), (0, [1, 1, 1, 0, 1, 0, 0, 1, 1]), (2, [1, 1, 1, 0, 1, 0, 0]), (1, [0]), (0, [1, 1, 1, 1])].map (toItem (Try.f6.body.getD .skip))) [(0, .slice script_b script_l script_c), (3, .pointer m0), (4, .int .i64 wonAt), (5, .int .i64 idle), (6, .int .i64 i), (8, .pointer (some ⟨a, 0, none⟩)), (9, .bool won), (10, .bool campaign), (108, .bool t108)] w := by
  exact block_spec Try.func6 Try.mixed (stops_cons (fun σ w h => by
      obtain ⟨script_b_, script_l_, script_c_, e0, h⟩ := dL_elim h
      obtain ⟨m0_, e1, h⟩ := dP_elim h
      obtain ⟨wonAt_, e2, h⟩ := dI_elim h
      obtain ⟨idle_, e3, h⟩ := dI_elim h
      obtain ⟨i_, e4, h⟩ := dI_elim h
      obtain ⟨a_, e5, h⟩ := dK_elim h
      obtain ⟨won_, e6, h⟩ := dB_elim h
      obtain ⟨campaign_, e7, h⟩ := dB_elim h
      exact (electlaw_Lemmas.B5_sound hN1 script_b_ script_l_ script_c_ m0_ wonAt_ idle_ i_ a_ won_ campaign_ w h).weaken (Sub.cons (Sub.cons (Sub.cons (Sub.cons (Sub.cons (Sub.cons (Sub.cons (Sub.cons (Sub.nil _) e7) e6) e5) e4) e3) e2) e1) e0)) stops_nil) (Eq.mp (electlaw_Lemmas.B4_eq script_b script_l script_c m0 wonAt idle i a won campaign t108 w N1  R (fun script_b_ script_l_ script_c_ m0_ wonAt_ idle_ i_ a_ won_ campaign_ w => electlaw_Lemmas.B5 script_b_ script_l_ script_c_ m0_ wonAt_ idle_ i_ a_ won_ campaign_ w N1 R)) h)
def electlaw_Lemmas.B11 (script_b : Option Addr) (script_l script_c : Nat) (m0 : Option Addr) (wonAt idle i : Int) (a : Nat) (won campaign t145 : Bool) (w : World) (N1 : Option Addr → Nat → Nat → Option Addr → Int → Int → Int → World → Prop)  (R : Bool → World → Prop) : Prop :=
  Bm t145 (
    R false w) (
    electlaw_Lemmas.B5 script_b script_l script_c m0 wonAt idle i a won campaign w N1 R)
theorem electlaw_Lemmas.B11_eq (script_b : Option Addr) (script_l script_c : Nat) (m0 : Option Addr) (wonAt idle i : Int) (a : Nat) (won campaign t145 : Bool) (w : World) (N1 : Option Addr → Nat → Nat → Option Addr → Int → Int → Int → World → Prop)  (R : Bool → World → Prop) (sB5 : Option Addr → Nat → Nat → Option Addr → Int → Int → Int → Nat → Bool → Bool → World → Prop) :
    (
  Bm t145 (
    R false w) (
    sB5 script_b script_l script_c m0 wonAt idle i a won campaign w)) = kstep Try.prog 203 Try.f6.results.toList (Try.f6.body.getD .skip) (electlaw_Lemmas.RV R) (kvc Try.prog 203 Try.f6.results.toList (Try.f6.body.getD .skip) (electlaw_Lemmas.RV R) [([(0, [1, 1, 1, 0, 1, 0, 0, 1, 0, 0, 1, 1, 1, 1]), (1, [1]), (0, [1, 1, 1, 0, 1, 0, 0, 1, 1]), (2, [1, 1, 1, 0, 1, 0, 0]), (1, [0]), (0, [1, 1, 1, 1])], fun σ w => dL (slotOf σ 0) fun script_b_ script_l_ script_c_ => dP (slotOf σ 3) fun m0_ => dI .i64 (slotOf σ 4) fun wonAt_ => dI .i64 (slotOf σ 5) fun idle_ => dI .i64 (slotOf σ 6) fun i_ => dK (slotOf σ 8) fun a_ => dB (slotOf σ 9) fun won_ => dB (slotOf σ 10) fun campaign_ => sB5 script_b_ script_l_ script_c_ m0_ wonAt_ idle_ i_ a_ won_ campaign_ w)] 2000) [(0, [1, 1, 1, 0, 1, 0, 0, 1, 0, 0, 1, 1, 1, 0, 1, 0, 1, 1, 1, 1, 1, 1, 1, 0, 1, 1, 1, 1, 0, 1, 1]), (1, [2]), (0, [1, 1, 1, 0, 1, 0, 0, 1, 0, 0, 1, 1, 1, 1]), (1, [1]), (0, [1, 1, 1, 0, 1, 0, 0, 1, 1]), (2, [1, 1, 1, 0, 1, 0, 0]), (1, [0]), (0, [1, 1, 1, 1])] [(0, .slice script_b script_l script_c), (3, .pointer m0), (4, .int .i64 wonAt), (5, .int .i64 idle), (6, .int .i64 i), (8, .pointer (some ⟨a, 0, none⟩)), (9, .bool won), (10, .bool campaign), (145, .bool t145)] w := by kernel_rfl
theorem electlaw_Lemmas.B11_sound {R : Bool → World → Prop} {N1 : Option Addr → Nat → Nat → Option Addr → Int → Int → Int → World → Prop} (hN1 : ∀ script_b script_l script_c m0 wonAt idle i w, N1 script_b script_l script_c m0 wonAt idle i w → KW Try.prog 6 203 (electlaw_Lemmas.RV R) ([(0, [1, 1, 1, 0, 1, 0, 0]), (2, [1, 1, 1, 0, 1, 0, 0]), (1, [0]), (0, [1, 1, 1, 1])].map (toItem (Try.f6.body.getD .skip))) [(0, .slice script_b script_l script_c), (3, .pointer m0), (4, .int .i64 wonAt), (5, .int .i64 idle), (6, .int .i64 i)] w) (script_b : Option Addr) (script_l script_c : Nat) (m0 : Option Addr) (wonAt idle i : Int) (a : Nat) (won campaign t145 : Bool) (w : World) (h : electlaw_Lemmas.B11 script_b script_l script_c m0 wonAt idle i a won campaign t145 w N1  R) :
    KW Try.prog 6 203 (electlaw_Lemmas.RV R) ([(0, [1, 1, 1, 0, 1, 0, 0, 1, 0, 0, 1, 1, 1, 0, 1, 0, 1, 1, 1, 1, 1, 1, 1, 0, 1, 1, 1, 1, 0, 1, 1]), (1, [2]), (0, [1, 1, 1, 0, 1, 0, 0, 1, 0, 0, 1, 1, 1, 1]), (1, [1]), (0, [1, 1, 1, 0, 1, 0, 0, 1, 1]), (2, [1, 1, 1, 0, 1, 0, 0]), (1, [0]), (0, [1, 1, 1, 1])].map (toItem (Try.f6.body.getD .skip))) [(0, .slice script_b script_l script_c), (3, .pointer m0), (4, .int .i64 wonAt), (5, .int .i64 idle), (6, .int .i64 i), (8, .pointer (some ⟨a, 0, none⟩)), (9, .bool won), (10, .bool campaign), (145, .bool t145)] w := by
  exact block_spec Try.func6 Try.mixed (stops_cons (fun σ w h => by
      obtain ⟨script_b_, script_l_, script_c_, e0, h⟩ := dL_elim h
      obtain ⟨m0_, e1, h⟩ := dP_elim h
      obtain ⟨wonAt_, e2, h⟩ := dI_elim h
      obtain ⟨idle_, e3, h⟩ := dI_elim h
      obtain ⟨i_, e4, h⟩ := dI_elim h
      obtain ⟨a_, e5, h⟩ := dK_elim h
      obtain ⟨won_, e6, h⟩ := dB_elim h
      obtain ⟨campaign_, e7, h⟩ := dB_elim h
      exact (electlaw_Lemmas.B5_sound hN1 script_b_ script_l_ script_c_ m0_ wonAt_ idle_ i_ a_ won_ campaign_ w h).weaken (Sub.cons (Sub.cons (Sub.cons (Sub.cons (Sub.cons (Sub.cons (Sub.cons (Sub.cons (Sub.nil _) e7) e6) e5) e4) e3) e2) e1) e0)) stops_nil) (Eq.mp (electlaw_Lemmas.B11_eq script_b script_l script_c m0 wonAt idle i a won campaign t145 w N1  R (fun script_b_ script_l_ script_c_ m0_ wonAt_ idle_ i_ a_ won_ campaign_ w => electlaw_Lemmas.B5 script_b_ script_l_ script_c_ m0_ wonAt_ idle_ i_ a_ won_ campaign_ w N1 R)) h)
def electlaw_Lemmas.B9 (script_b : Option Addr) (script_l script_c : Nat) (m0 : Option Addr) (wonAt idle i : Int) (o a : Nat) (won campaign t127 : Bool) (w : World) (N1 : Option Addr → Nat → Nat → Option Addr → Int → Int → Int → World → Prop)  (R : Bool → World → Prop) : Prop :=
  Bm t127 (
    R false w) (
    Bm won (
      electm_Elect_Term.Call m0 w fun r130 w1 =>
      LdI .i64 ⟨a, 2, none⟩ w1 fun x132 =>
      Bm (x132 != (1 : Int)) (
        electlaw_Lemmas.B11 script_b script_l script_c m0 r130 idle i a won campaign true w1 N1 R) (
        LdI .i64 ⟨a, 0, none⟩ w1 fun x136 =>
        LdI .i64 ⟨o, 2, none⟩ w1 fun x138 =>
        Bm (x136 != x138) (
          electlaw_Lemmas.B11 script_b script_l script_c m0 r130 idle i a won campaign true w1 N1 R) (
          LdI .i64 ⟨o, 3, none⟩ w1 fun x143 =>
          electlaw_Lemmas.B11 script_b script_l script_c m0 r130 idle i a won campaign (x143 == (0 : Int)) w1 N1 R))) (
      electlaw_Lemmas.B5 script_b script_l script_c m0 wonAt idle i a won campaign w N1 R))
theorem electlaw_Lemmas.B9_eq (script_b : Option Addr) (script_l script_c : Nat) (m0 : Option Addr) (wonAt idle i : Int) (o a : Nat) (won campaign t127 : Bool) (w : World) (N1 : Option Addr → Nat → Nat → Option Addr → Int → Int → Int → World → Prop)  (R : Bool → World → Prop) (sB11 : Option Addr → Nat → Nat → Option Addr → Int → Int → Int → Nat → Bool → Bool → Bool → World → Prop) (sB5 : Option Addr → Nat → Nat → Option Addr → Int → Int → Int → Nat → Bool → Bool → World → Prop) :
    (
  Bm t127 (
    R false w) (
    Bm won (
      electm_Elect_Term.Call m0 w fun r130 w1 =>
      LdI .i64 ⟨a, 2, none⟩ w1 fun x132 =>
      Bm (x132 != (1 : Int)) (
        sB11 script_b script_l script_c m0 r130 idle i a won campaign true w1) (
        LdI .i64 ⟨a, 0, none⟩ w1 fun x136 =>
        LdI .i64 ⟨o, 2, none⟩ w1 fun x138 =>
        Bm (x136 != x138) (
          sB11 script_b script_l script_c m0 r130 idle i a won campaign true w1) (
          LdI .i64 ⟨o, 3, none⟩ w1 fun x143 =>
          sB11 script_b script_l script_c m0 r130 idle i a won campaign (x143 == (0 : Int)) w1))) (
      sB5 script_b script_l script_c m0 wonAt idle i a won campaign w))) = kstep Try.prog 203 Try.f6.results.toList (Try.f6.body.getD .skip) (electlaw_Lemmas.RV R) (kvc Try.prog 203 Try.f6.results.toList (Try.f6.body.getD .skip) (electlaw_Lemmas.RV R) [([(0, [1, 1, 1, 0, 1, 0, 0, 1, 0, 0, 1, 1, 1, 0, 1, 0, 1, 1, 1, 1, 1, 1, 1, 0, 1, 1, 1, 1, 0, 1, 1]), (1, [2]), (0, [1, 1, 1, 0, 1, 0, 0, 1, 0, 0, 1, 1, 1, 1]), (1, [1]), (0, [1, 1, 1, 0, 1, 0, 0, 1, 1]), (2, [1, 1, 1, 0, 1, 0, 0]), (1, [0]), (0, [1, 1, 1, 1])], fun σ w => dL (slotOf σ 0) fun script_b_ script_l_ script_c_ => dP (slotOf σ 3) fun m0_ => dI .i64 (slotOf σ 4) fun wonAt_ => dI .i64 (slotOf σ 5) fun idle_ => dI .i64 (slotOf σ 6) fun i_ => dK (slotOf σ 8) fun a_ => dB (slotOf σ 9) fun won_ => dB (slotOf σ 10) fun campaign_ => dB (slotOf σ 145) fun t145_ => sB11 script_b_ script_l_ script_c_ m0_ wonAt_ idle_ i_ a_ won_ campaign_ t145_ w),
    ([(0, [1, 1, 1, 0, 1, 0, 0, 1, 0, 0, 1, 1, 1, 1]), (1, [1]), (0, [1, 1, 1, 0, 1, 0, 0, 1, 1]), (2, [1, 1, 1, 0, 1, 0, 0]), (1, [0]), (0, [1, 1, 1, 1])], fun σ w => dL (slotOf σ 0) fun script_b_ script_l_ script_c_ => dP (slotOf σ 3) fun m0_ => dI .i64 (slotOf σ 4) fun wonAt_ => dI .i64 (slotOf σ 5) fun idle_ => dI .i64 (slotOf σ 6) fun i_ => dK (slotOf σ 8) fun a_ => dB (slotOf σ 9) fun won_ => dB (slotOf σ 10) fun campaign_ => sB5 script_b_ script_l_ script_c_ m0_ wonAt_ idle_ i_ a_ won_ campaign_ w)] 2000) [(0, [1, 1, 1, 0, 1, 0, 0, 1, 0, 0, 1, 1, 1, 0, 1, 0, 1, 1, 1, 1, 1, 1, 1, 0, 1, 1, 0, 1]), (0, [1, 1, 1, 0, 1, 0, 0, 1, 0, 0, 1, 1, 1, 0, 1, 0, 1, 1, 1, 1, 1, 1, 1, 0, 1, 1, 1]), (1, [2]), (0, [1, 1, 1, 0, 1, 0, 0, 1, 0, 0, 1, 1, 1, 1]), (1, [1]), (0, [1, 1, 1, 0, 1, 0, 0, 1, 1]), (2, [1, 1, 1, 0, 1, 0, 0]), (1, [0]), (0, [1, 1, 1, 1])] [(0, .slice script_b script_l script_c), (3, .pointer m0), (4, .int .i64 wonAt), (5, .int .i64 idle), (6, .int .i64 i), (7, .pointer (some ⟨o, 0, none⟩)), (8, .pointer (some ⟨a, 0, none⟩)), (9, .bool won), (10, .bool campaign), (127, .bool t127)] w := by kernel_rfl
theorem electlaw_Lemmas.B9_sound {R : Bool → World → Prop} {N1 : Option Addr → Nat → Nat → Option Addr → Int → Int → Int → World → Prop} (hN1 : ∀ script_b script_l script_c m0 wonAt idle i w, N1 script_b script_l script_c m0 wonAt idle i w → KW Try.prog 6 203 (electlaw_Lemmas.RV R) ([(0, [1, 1, 1, 0, 1, 0, 0]), (2, [1, 1, 1, 0, 1, 0, 0]), (1, [0]), (0, [1, 1, 1, 1])].map (toItem (Try.f6.body.getD .skip))) [(0, .slice script_b script_l script_c), (3, .pointer m0), (4, .int .i64 wonAt), (5, .int .i64 idle), (6, .int .i64 i)] w) (script_b : Option Addr) (script_l script_c : Nat) (m0 : Option Addr) (wonAt idle i : Int) (o a : Nat) (won campaign t127 : Bool) (w : World) (h : electlaw_Lemmas.B9 script_b script_l script_c m0 wonAt idle i o a won campaign t127 w N1  R) :
    KW Try.prog 6 203 (electlaw_Lemmas.RV R) ([(0, [1, 1, 1, 0, 1, 0, 0, 1, 0, 0, 1, 1, 1, 0, 1, 0, 1, 1, 1, 1, 1, 1, 1, 0, 1, 1, 0, 1]), (0, [1, 1, 1, 0, 1, 0, 0, 1, 0, 0, 1, 1, 1, 0, 1, 0, 1, 1, 1, 1, 1, 1, 1, 0, 1, 1, 1]), (1, [2]), (0, [1, 1, 1, 0, 1, 0, 0, 1, 0, 0, 1, 1, 1, 1]), (1, [1]), (0, [1, 1, 1, 0, 1, 0, 0, 1, 1]), (2, [1, 1, 1, 0, 1, 0, 0]), (1, [0]), (0, [1, 1, 1, 1])].map (toItem (Try.f6.body.getD .skip))) [(0, .slice script_b script_l script_c), (3, .pointer m0), (4, .int .i64 wonAt), (5, .int .i64 idle), (6, .int .i64 i), (7, .pointer (some ⟨o, 0, none⟩)), (8, .pointer (some ⟨a, 0, none⟩)), (9, .bool won), (10, .bool campaign), (127, .bool t127)] w := by
  exact block_spec Try.func6 Try.mixed (stops_cons (fun σ w h => by
      obtain ⟨script_b_, script_l_, script_c_, e0, h⟩ := dL_elim h
      obtain ⟨m0_, e1, h⟩ := dP_elim h
      obtain ⟨wonAt_, e2, h⟩ := dI_elim h
      obtain ⟨idle_, e3, h⟩ := dI_elim h
      obtain ⟨i_, e4, h⟩ := dI_elim h
      obtain ⟨a_, e5, h⟩ := dK_elim h
      obtain ⟨won_, e6, h⟩ := dB_elim h
      obtain ⟨campaign_, e7, h⟩ := dB_elim h
      obtain ⟨t145_, e8, h⟩ := dB_elim h
      exact (electlaw_Lemmas.B11_sound hN1 script_b_ script_l_ script_c_ m0_ wonAt_ idle_ i_ a_ won_ campaign_ t145_ w h).weaken (Sub.cons (Sub.cons (Sub.cons (Sub.cons (Sub.cons (Sub.cons (Sub.cons (Sub.cons (Sub.cons (Sub.nil _) e8) e7) e6) e5) e4) e3) e2) e1) e0)) (stops_cons (fun σ w h => by
      obtain ⟨script_b_, script_l_, script_c_, e0, h⟩ := dL_elim h
      obtain ⟨m0_, e1, h⟩ := dP_elim h
      obtain ⟨wonAt_, e2, h⟩ := dI_elim h
      obtain ⟨idle_, e3, h⟩ := dI_elim h
      obtain ⟨i_, e4, h⟩ := dI_elim h
      obtain ⟨a_, e5, h⟩ := dK_elim h
      obtain ⟨won_, e6, h⟩ := dB_elim h
      obtain ⟨campaign_, e7, h⟩ := dB_elim h
      exact (electlaw_Lemmas.B5_sound hN1 script_b_ script_l_ script_c_ m0_ wonAt_ idle_ i_ a_ won_ campaign_ w h).weaken (Sub.cons (Sub.cons (Sub.cons (Sub.cons (Sub.cons (Sub.cons (Sub.cons (Sub.cons (Sub.nil _) e7) e6) e5) e4) e3) e2) e1) e0)) stops_nil)) (Eq.mp (electlaw_Lemmas.B9_eq script_b script_l script_c m0 wonAt idle i o a won campaign t127 w N1  R (fun script_b_ script_l_ script_c_ m0_ wonAt_ idle_ i_ a_ won_ campaign_ t145_ w => electlaw_Lemmas.B11 script_b_ script_l_ script_c_ m0_ wonAt_ idle_ i_ a_ won_ campaign_ t145_ w N1 R) (fun script_b_ script_l_ script_c_ m0_ wonAt_ idle_ i_ a_ won_ campaign_ w => electlaw_Lemmas.B5 script_b_ script_l_ script_c_ m0_ wonAt_ idle_ i_ a_ won_ campaign_ w N1 R)) h)
def electlaw_Lemmas.B6 (script_b : Option Addr) (script_l script_c : Nat) (m0 : Option Addr) (wonAt idle i : Int) (o a : Nat) (won campaign : Bool) (w : World) (N1 : Option Addr → Nat → Nat → Option Addr → Int → Int → Int → World → Prop)  (R : Bool → World → Prop) : Prop :=
  Bm won (
    electm_Elect_Term.Call m0 w fun r124 w1 =>
    electlaw_Lemmas.B9 script_b script_l script_c m0 wonAt idle i o a won campaign (r124 == wonAt) w1 N1 R) (
    electlaw_Lemmas.B9 script_b script_l script_c m0 wonAt idle i o a won campaign false w N1 R)
theorem electlaw_Lemmas.B6_eq (script_b : Option Addr) (script_l script_c : Nat) (m0 : Option Addr) (wonAt idle i : Int) (o a : Nat) (won campaign : Bool) (w : World) (N1 : Option Addr → Nat → Nat → Option Addr → Int → Int → Int → World → Prop)  (R : Bool → World → Prop) (sB9 : Option Addr → Nat → Nat → Option Addr → Int → Int → Int → Nat → Nat → Bool → Bool → Bool → World → Prop) :
    (
  Bm won (
    electm_Elect_Term.Call m0 w fun r124 w1 =>
    sB9 script_b script_l script_c m0 wonAt idle i o a won campaign (r124 == wonAt) w1) (
    sB9 script_b script_l script_c m0 wonAt idle i o a won campaign false w)) = kstep Try.prog 203 Try.f6.results.toList (Try.f6.body.getD .skip) (electlaw_Lemmas.RV R) (kvc Try.prog 203 Try.f6.results.toList (Try.f6.body.getD .skip) (electlaw_Lemmas.RV R) [([(0, [1, 1, 1, 0, 1, 0, 0, 1, 0, 0, 1, 1, 1, 0, 1, 0, 1, 1, 1, 1, 1, 1, 1, 0, 1, 1, 0, 1]), (0, [1, 1, 1, 0, 1, 0, 0, 1, 0, 0, 1, 1, 1, 0, 1, 0, 1, 1, 1, 1, 1, 1, 1, 0, 1, 1, 1]), (1, [2]), (0, [1, 1, 1, 0, 1, 0, 0, 1, 0, 0, 1, 1, 1, 1]), (1, [1]), (0, [1, 1, 1, 0, 1, 0, 0, 1, 1]), (2, [1, 1, 1, 0, 1, 0, 0]), (1, [0]), (0, [1, 1, 1, 1])], fun σ w => dL (slotOf σ 0) fun script_b_ script_l_ script_c_ => dP (slotOf σ 3) fun m0_ => dI .i64 (slotOf σ 4) fun wonAt_ => dI .i64 (slotOf σ 5) fun idle_ => dI .i64 (slotOf σ 6) fun i_ => dK (slotOf σ 7) fun o_ => dK (slotOf σ 8) fun a_ => dB (slotOf σ 9) fun won_ => dB (slotOf σ 10) fun campaign_ => dB (slotOf σ 127) fun t127_ => sB9 script_b_ script_l_ script_c_ m0_ wonAt_ idle_ i_ o_ a_ won_ campaign_ t127_ w)] 2000) [(0, [1, 1, 1, 0, 1, 0, 0, 1, 0, 0, 1, 1, 1, 0, 1, 0, 1, 1, 1, 1, 1, 1, 1, 0, 1, 1]), (1, [2]), (0, [1, 1, 1, 0, 1, 0, 0, 1, 0, 0, 1, 1, 1, 1]), (1, [1]), (0, [1, 1, 1, 0, 1, 0, 0, 1, 1]), (2, [1, 1, 1, 0, 1, 0, 0]), (1, [0]), (0, [1, 1, 1, 1])] [(0, .slice script_b script_l script_c), (3, .pointer m0), (4, .int .i64 wonAt), (5, .int .i64 idle), (6, .int .i64 i), (7, .pointer (some ⟨o, 0, none⟩)), (8, .pointer (some ⟨a, 0, none⟩)), (9, .bool won), (10, .bool campaign)] w := by kernel_rfl
theorem electlaw_Lemmas.B6_sound {R : Bool → World → Prop} {N1 : Option Addr → Nat → Nat → Option Addr → Int → Int → Int → World → Prop} (hN1 : ∀ script_b script_l script_c m0 wonAt idle i w, N1 script_b script_l script_c m0 wonAt idle i w → KW Try.prog 6 203 (electlaw_Lemmas.RV R) ([(0, [1, 1, 1, 0, 1, 0, 0]), (2, [1, 1, 1, 0, 1, 0, 0]), (1, [0]), (0, [1, 1, 1, 1])].map (toItem (Try.f6.body.getD .skip))) [(0, .slice script_b script_l script_c), (3, .pointer m0), (4, .int .i64 wonAt), (5, .int .i64 idle), (6, .int .i64 i)] w) (script_b : Option Addr) (script_l script_c : Nat) (m0 : Option Addr) (wonAt idle i : Int) (o a : Nat) (won campaign : Bool) (w : World) (h : electlaw_Lemmas.B6 script_b script_l script_c m0 wonAt idle i o a won campaign w N1  R) :
    KW Try.prog 6 203 (electlaw_Lemmas.RV R) ([(0, [1, 1, 1, 0, 1, 0, 0, 1, 0, 0, 1, 1, 1, 0, 1, 0, 1, 1, 1, 1, 1, 1, 1, 0, 1, 1]), (1, [2]), (0, [1, 1, 1, 0, 1, 0, 0, 1, 0, 0, 1, 1, 1, 1]), (1, [1]), (0, [1, 1, 1, 0, 1, 0, 0, 1, 1]), (2, [1, 1, 1, 0, 1, 0, 0]), (1, [0]), (0, [1, 1, 1, 1])].map (toItem (Try.f6.body.getD .skip))) [(0, .slice script_b script_l script_c), (3, .pointer m0), (4, .int .i64 wonAt), (5, .int .i64 idle), (6, .int .i64 i), (7, .pointer (some ⟨o, 0, none⟩)), (8, .pointer (some ⟨a, 0, none⟩)), (9, .bool won), (10, .bool campaign)] w := by
  exact block_spec Try.func6 Try.mixed (stops_cons (fun σ w h => by
      obtain ⟨script_b_, script_l_, script_c_, e0, h⟩ := dL_elim h
      obtain ⟨m0_, e1, h⟩ := dP_elim h
      obtain ⟨wonAt_, e2, h⟩ := dI_elim h
      obtain ⟨idle_, e3, h⟩ := dI_elim h
      obtain ⟨i_, e4, h⟩ := dI_elim h
      obtain ⟨o_, e5, h⟩ := dK_elim h
      obtain ⟨a_, e6, h⟩ := dK_elim h
      obtain ⟨won_, e7, h⟩ := dB_elim h
      obtain ⟨campaign_, e8, h⟩ := dB_elim h
      obtain ⟨t127_, e9, h⟩ := dB_elim h
      exact (electlaw_Lemmas.B9_sound hN1 script_b_ script_l_ script_c_ m0_ wonAt_ idle_ i_ o_ a_ won_ campaign_ t127_ w h).weaken (Sub.cons (Sub.cons (Sub.cons (Sub.cons (Sub.cons (Sub.cons (Sub.cons (Sub.cons (Sub.cons (Sub.cons (Sub.nil _) e9) e8) e7) e6) e5) e4) e3) e2) e1) e0)) stops_nil) (Eq.mp (electlaw_Lemmas.B6_eq script_b script_l script_c m0 wonAt idle i o a won campaign w N1  R (fun script_b_ script_l_ script_c_ m0_ wonAt_ idle_ i_ o_ a_ won_ campaign_ t127_ w => electlaw_Lemmas.B9 script_b_ script_l_ script_c_ m0_ wonAt_ idle_ i_ o_ a_ won_ campaign_ t127_ w N1 R)) h)
def electlaw_Lemmas.B7 (script_b : Option Addr) (script_l script_c : Nat) (m0 : Option Addr) (wonAt idle i : Int) (a : Nat) (won campaign t168 : Bool) (w : World) (N1 : Option Addr → Nat → Nat → Option Addr → Int → Int → Int → World → Prop)  (R : Bool → World → Prop) : Prop :=
  Bm t168 (
    R false w) (
    electlaw_Lemmas.B5 script_b script_l script_c m0 wonAt idle i a won campaign w N1 R)
theorem electlaw_Lemmas.B7_eq (script_b : Option Addr) (script_l script_c : Nat) (m0 : Option Addr) (wonAt idle i : Int) (a : Nat) (won campaign t168 : Bool) (w : World) (N1 : Option Addr → Nat → Nat → Option Addr → Int → Int → Int → World → Prop)  (R : Bool → World → Prop) (sB5 : Option Addr → Nat → Nat → Option Addr → Int → Int → Int → Nat → Bool → Bool → World → Prop) :
    (
  Bm t168 (
    R false w) (
    sB5 script_b script_l script_c m0 wonAt idle i a won campaign w)) = kstep Try.prog 203 Try.f6.results.toList (Try.f6.body.getD .skip) (electlaw_Lemmas.RV R) (kvc Try.prog 203 Try.f6.results.toList (Try.f6.body.getD .skip) (electlaw_Lemmas.RV R) [([(0, [1, 1, 1, 0, 1, 0, 0, 1, 0, 0, 1, 1, 1, 1]), (1, [1]), (0, [1, 1, 1, 0, 1, 0, 0, 1, 1]), (2, [1, 1, 1, 0, 1, 0, 0]), (1, [0]), (0, [1, 1, 1, 1])], fun σ w => dL (slotOf σ 0) fun script_b_ script_l_ script_c_ => dP (slotOf σ 3) fun m0_ => dI .i64 (slotOf σ 4) fun wonAt_ => dI .i64 (slotOf σ 5) fun idle_ => dI .i64 (slotOf σ 6) fun i_ => dK (slotOf σ 8) fun a_ => dB (slotOf σ 9) fun won_ => dB (slotOf σ 10) fun campaign_ => sB5 script_b_ script_l_ script_c_ m0_ wonAt_ idle_ i_ a_ won_ campaign_ w)] 2000) [(0, [1, 1, 1, 0, 1, 0, 0, 1, 0, 0, 1, 1, 1, 0, 1, 0, 1, 1, 1, 1, 1, 1, 1, 1, 1, 0, 1, 1, 0, 1, 1, 1, 1]), (1, [2]), (0, [1, 1, 1, 0, 1, 0, 0, 1, 0, 0, 1, 1, 1, 1]), (1, [1]), (0, [1, 1, 1, 0, 1, 0, 0, 1, 1]), (2, [1, 1, 1, 0, 1, 0, 0]), (1, [0]), (0, [1, 1, 1, 1])] [(0, .slice script_b script_l script_c), (3, .pointer m0), (4, .int .i64 wonAt), (5, .int .i64 idle), (6, .int .i64 i), (8, .pointer (some ⟨a, 0, none⟩)), (9, .bool won), (10, .bool campaign), (168, .bool t168)] w := by kernel_rfl
theorem electlaw_Lemmas.B7_sound {R : Bool → World → Prop} {N1 : Option Addr → Nat → Nat → Option Addr → Int → Int → Int → World → Prop} (hN1 : ∀ script_b script_l script_c m0 wonAt idle i w, N1 script_b script_l script_c m0 wonAt idle i w → KW Try.prog 6 203 (electlaw_Lemmas.RV R) ([(0, [1, 1, 1, 0, 1, 0, 0]), (2, [1, 1, 1, 0, 1, 0, 0]), (1, [0]), (0, [1, 1, 1, 1])].map (toItem (Try.f6.body.getD .skip))) [(0, .slice script_b script_l script_c), (3, .pointer m0), (4, .int .i64 wonAt), (5, .int .i64 idle), (6, .int .i64 i)] w) (script_b : Option Addr) (script_l script_c : Nat) (m0 : Option Addr) (wonAt idle i : Int) (a : Nat) (won campaign t168 : Bool) (w : World) (h : electlaw_Lemmas.B7 script_b script_l script_c m0 wonAt idle i a won campaign t168 w N1  R) :
    KW Try.prog 6 203 (electlaw_Lemmas.RV R) ([(0, [1, 1, 1, 0, 1, 0, 0, 1, 0, 0, 1, 1, 1, 0, 1, 0, 1, 1, 1, 1, 1, 1, 1, 1, 1, 0, 1, 1, 0, 1, 1, 1, 1]), (1, [2]), (0, [1, 1, 1, 0, 1, 0, 0, 1, 0, 0, 1, 1, 1, 1]), (1, [1]), (0, [1, 1, 1, 0, 1, 0, 0, 1, 1]), (2, [1, 1, 1, 0, 1, 0, 0]), (1, [0]), (0, [1, 1, 1, 1])].map (toItem (Try.f6.body.getD .skip))) [(0, .slice script_b script_l script_c), (3, .pointer m0), (4, .int .i64 wonAt), (5, .int .i64 idle), (6, .int .i64 i), (8, .pointer (some ⟨a, 0, none⟩)), (9, .bool won), (10, .bool campaign), (168, .bool t168)] w := by
  exact block_spec Try.func6 Try.mixed (stops_cons (fun σ w h => by
      obtain ⟨script_b_, script_l_, script_c_, e0, h⟩ := dL_elim h
      obtain ⟨m0_, e1, h⟩ := dP_elim h
      obtain ⟨wonAt_, e2, h⟩ := dI_elim h
      obtain ⟨idle_, e3, h⟩ := dI_elim h
      obtain ⟨i_, e4, h⟩ := dI_elim h
      obtain ⟨a_, e5, h⟩ := dK_elim h
      obtain ⟨won_, e6, h⟩ := dB_elim h
      obtain ⟨campaign_, e7, h⟩ := dB_elim h
      exact (electlaw_Lemmas.B5_sound hN1 script_b_ script_l_ script_c_ m0_ wonAt_ idle_ i_ a_ won_ campaign_ w h).weaken (Sub.cons (Sub.cons (Sub.cons (Sub.cons (Sub.cons (Sub.cons (Sub.cons (Sub.cons (Sub.nil _) e7) e6) e5) e4) e3) e2) e1) e0)) stops_nil) (Eq.mp (electlaw_Lemmas.B7_eq script_b script_l script_c m0 wonAt idle i a won campaign t168 w N1  R (fun script_b_ script_l_ script_c_ m0_ wonAt_ idle_ i_ a_ won_ campaign_ w => electlaw_Lemmas.B5 script_b_ script_l_ script_c_ m0_ wonAt_ idle_ i_ a_ won_ campaign_ w N1 R)) h)
def electlaw_Lemmas.B1 (script_b : Option Addr) (script_l script_c : Nat) (m0 : Option Addr) (wonAt idle i : Int) (t28 : Bool) (w : World) (N1 : Option Addr → Nat → Nat → Option Addr → Int → Int → Int → World → Prop)  (R : Bool → World → Prop) : Prop :=
  Bm t28 (
    Pn script_b fun a =>
    (0 ≤ i ∧ i < ((script_l : Nat) : Int)) ∧
    LdI .i64 (Addr.add a (i.toNat * 6)) w fun x34_0 =>
    LdI .i64 ((Addr.add a (i.toNat * 6)).add 1) w fun x34_1 =>
    LdI .i64 ((Addr.add a (i.toNat * 6)).add 2) w fun x34_2 =>
    LdI .i64 ((Addr.add a (i.toNat * 6)).add 3) w fun x34_3 =>
    LdS ((Addr.add a (i.toNat * 6)).add 4) w fun x34_4 =>
    LdS ((Addr.add a (i.toNat * 6)).add 5) w fun x34_5 =>
    New (.cells #[.int .i64 (0 : Int), .int .i64 (0 : Int), .int .i64 (0 : Int), .int .i64 (0 : Int), .string (ByteArray.mk #[]), .string (ByteArray.mk #[])] 30) w fun o_ w1 =>
    Sts [.int .i64 x34_0, .int .i64 x34_1, .int .i64 x34_2, .int .i64 x34_3, .string x34_4, .string x34_5] ⟨o_, 0, none⟩ 0 w1 fun w2 =>
    electlaw_FaceOf.Call m0 w2 fun r36_0 r36_1 r36_2 w3 =>
    New (.cells #[.int .i64 (0 : Int), .int .i64 (0 : Int), .int .i64 (0 : Int)] 32) w3 fun a_ w4 =>
    Sts [.int .i64 r36_0, .int .i64 r36_1, .int .i64 r36_2] ⟨a_, 0, none⟩ 0 w4 fun w5 =>
    LdI .i64 ⟨o_, 0, none⟩ w5 fun x38 =>
    Bm (x38 == (1 : Int)) (
      electm_Elect_Tick.Call m0 w5 fun r42 w6 =>
      Bm (r42 == (1 : Int)) (
        electlaw_Lemmas.B2 script_b script_l script_c m0 wonAt (IntKind.i64.wrap (idle + (1 : Int))) i a_ false (r42 == (1 : Int)) true w6 N1 R) (
        LdI .i64 ⟨a_, 2, none⟩ w6 fun x49 =>
        electlaw_Lemmas.B2 script_b script_l script_c m0 wonAt (IntKind.i64.wrap (idle + (1 : Int))) i a_ false (r42 == (1 : Int)) (x49 == (2 : Int)) w6 N1 R)) (
      Bm (x38 == (2 : Int)) (
        LdI .i64 ⟨o_, 1, none⟩ w5 fun x67 =>
        electm_Elect_See.Call m0 x67 w5 fun r68 w7 =>
        electm_Elect_Term.Call m0 w7 fun r70 w8 =>
        LdI .i64 ⟨a_, 0, none⟩ w8 fun x74 =>
        Bm (!(r68 == (r70 != x74))) (
          R false w8) (
          Bm r68 (
            LdI .i64 ⟨o_, 1, none⟩ w8 fun x81 =>
            electlaw_Lemmas.B3 script_b script_l script_c m0 wonAt idle i a_ false false (r70 != x81) w8 N1 R) (
            electlaw_Lemmas.B3 script_b script_l script_c m0 wonAt idle i a_ false false false w8 N1 R))) (
        Bm (x38 == (3 : Int)) (
          LdI .i64 ⟨o_, 1, none⟩ w5 fun x88 =>
          LdI .i64 ⟨o_, 2, none⟩ w5 fun x90 =>
          LdI .i64 ⟨o_, 3, none⟩ w5 fun x92 =>
          electm_Elect_AskedVote.Call m0 x88 x90 (x92 != (0 : Int)) w5 fun r94 w9 =>
          Bm r94 (
            LdI .i64 ⟨o_, 1, none⟩ w9 fun x98 =>
            LdI .i64 ⟨o_, 2, none⟩ w9 fun x100 =>
            electlaw_Meant.Call m0 x98 x100 w9 fun r101 w10 =>
            Bm (!r101) (
              electlaw_Lemmas.B4 script_b script_l script_c m0 wonAt (0 : Int) i a_ false false true w10 N1 R) (
              LdI .i64 ⟨o_, 3, none⟩ w10 fun x106 =>
              electlaw_Lemmas.B4 script_b script_l script_c m0 wonAt (0 : Int) i a_ false false (x106 == (0 : Int)) w10 N1 R)) (
            electlaw_Lemmas.B5 script_b script_l script_c m0 wonAt idle i a_ false false w9 N1 R)) (
          Bm (x38 == (4 : Int)) (
            LdI .i64 ⟨o_, 1, none⟩ w5 fun x113 =>
            LdI .i64 ⟨o_, 2, none⟩ w5 fun x115 =>
            LdI .i64 ⟨o_, 3, none⟩ w5 fun x117 =>
            electm_Elect_GotVote.Call m0 x113 x115 (x117 != (0 : Int)) w5 fun r119 w11 =>
            Bm r119 (
              electlaw_Lemmas.B6 script_b script_l script_c m0 wonAt (0 : Int) i o_ a_ r119 false w11 N1 R) (
              electlaw_Lemmas.B6 script_b script_l script_c m0 wonAt idle i o_ a_ r119 false w11 N1 R)) (
            Bm (x38 == (5 : Int)) (
              LdI .i64 ⟨o_, 1, none⟩ w5 fun x150 =>
              LdI .i64 ⟨o_, 2, none⟩ w5 fun x152 =>
              electm_Elect_Heard.Call m0 x150 x152 w5 fun r153 w12 =>
              Bm r153 (
                electm_Elect_Leader.Call m0 w12 fun r156 w13 =>
                electm_Elect_Term.Call m0 w13 fun r158 w14 =>
                LdI .i64 ⟨o_, 1, none⟩ w14 fun x161 =>
                Bm (r156 != x161) (
                  electlaw_Lemmas.B7 script_b script_l script_c m0 wonAt (0 : Int) i a_ false false true w14 N1 R) (
                  LdI .i64 ⟨o_, 2, none⟩ w14 fun x166 =>
                  electlaw_Lemmas.B7 script_b script_l script_c m0 wonAt (0 : Int) i a_ false false (r158 != x166) w14 N1 R)) (
                electlaw_Lemmas.B5 script_b script_l script_c m0 wonAt idle i a_ false false w12 N1 R)) (
              Bm (x38 == (6 : Int)) (
                LdI .i64 ⟨o_, 1, none⟩ w5 fun x173 =>
                LdI .i64 ⟨o_, 2, none⟩ w5 fun x175 =>
                electm_Elect_Restore.Call m0 x173 x175 w5 fun r176 w15 =>
                Bm (r176 == (0 : Int)) (
                  electlaw_FaceOf.Call m0 w15 fun r179_0 r179_1 r179_2 w16 =>
                  Sts [.int .i64 r179_0, .int .i64 r179_1, .int .i64 r179_2] ⟨a_, 0, none⟩ 0 w16 fun w17 =>
                  electlaw_Lemmas.B5 script_b script_l script_c m0 (-1 : Int) (0 : Int) i a_ false false w17 N1 R) (
                  electlaw_Lemmas.B5 script_b script_l script_c m0 wonAt idle i a_ false false w15 N1 R)) (
                Bm (x38 == (7 : Int)) (
                  LdI .i64 ⟨o_, 1, none⟩ w5 fun x183 =>
                  electm_New.Call x183 w5 fun r184 w18 =>
                  electlaw_FaceOf.Call r184 w18 fun r186_0 r186_1 r186_2 w19 =>
                  Sts [.int .i64 r186_0, .int .i64 r186_1, .int .i64 r186_2] ⟨a_, 0, none⟩ 0 w19 fun w20 =>
                  electlaw_Lemmas.B5 script_b script_l script_c r184 (-1 : Int) (0 : Int) i a_ false false w20 N1 R) (
                  electlaw_Lemmas.B5 script_b script_l script_c m0 wonAt idle i a_ false false w5 N1 R)))))))) (
    R true w)
theorem electlaw_Lemmas.B1_eq (script_b : Option Addr) (script_l script_c : Nat) (m0 : Option Addr) (wonAt idle i : Int) (t28 : Bool) (w : World) (N1 : Option Addr → Nat → Nat → Option Addr → Int → Int → Int → World → Prop)  (R : Bool → World → Prop) (sB2 : Option Addr → Nat → Nat → Option Addr → Int → Int → Int → Nat → Bool → Bool → Bool → World → Prop) (sB3 : Option Addr → Nat → Nat → Option Addr → Int → Int → Int → Nat → Bool → Bool → Bool → World → Prop) (sB4 : Option Addr → Nat → Nat → Option Addr → Int → Int → Int → Nat → Bool → Bool → Bool → World → Prop) (sB5 : Option Addr → Nat → Nat → Option Addr → Int → Int → Int → Nat → Bool → Bool → World → Prop) (sB6 : Option Addr → Nat → Nat → Option Addr → Int → Int → Int → Nat → Nat → Bool → Bool → World → Prop) (sB7 : Option Addr → Nat → Nat → Option Addr → Int → Int → Int → Nat → Bool → Bool → Bool → World → Prop) :
    (
  Bm t28 (
    Pn script_b fun a =>
    (0 ≤ i ∧ i < ((script_l : Nat) : Int)) ∧
    LdI .i64 (Addr.add a (i.toNat * 6)) w fun x34_0 =>
    LdI .i64 ((Addr.add a (i.toNat * 6)).add 1) w fun x34_1 =>
    LdI .i64 ((Addr.add a (i.toNat * 6)).add 2) w fun x34_2 =>
    LdI .i64 ((Addr.add a (i.toNat * 6)).add 3) w fun x34_3 =>
    LdS ((Addr.add a (i.toNat * 6)).add 4) w fun x34_4 =>
    LdS ((Addr.add a (i.toNat * 6)).add 5) w fun x34_5 =>
    New (.cells #[.int .i64 (0 : Int), .int .i64 (0 : Int), .int .i64 (0 : Int), .int .i64 (0 : Int), .string (ByteArray.mk #[]), .string (ByteArray.mk #[])] 30) w fun o_ w1 =>
    Sts [.int .i64 x34_0, .int .i64 x34_1, .int .i64 x34_2, .int .i64 x34_3, .string x34_4, .string x34_5] ⟨o_, 0, none⟩ 0 w1 fun w2 =>
    electlaw_FaceOf.Call m0 w2 fun r36_0 r36_1 r36_2 w3 =>
    New (.cells #[.int .i64 (0 : Int), .int .i64 (0 : Int), .int .i64 (0 : Int)] 32) w3 fun a_ w4 =>
    Sts [.int .i64 r36_0, .int .i64 r36_1, .int .i64 r36_2] ⟨a_, 0, none⟩ 0 w4 fun w5 =>
    LdI .i64 ⟨o_, 0, none⟩ w5 fun x38 =>
    Bm (x38 == (1 : Int)) (
      electm_Elect_Tick.Call m0 w5 fun r42 w6 =>
      Bm (r42 == (1 : Int)) (
        sB2 script_b script_l script_c m0 wonAt (IntKind.i64.wrap (idle + (1 : Int))) i a_ false (r42 == (1 : Int)) true w6) (
        LdI .i64 ⟨a_, 2, none⟩ w6 fun x49 =>
        sB2 script_b script_l script_c m0 wonAt (IntKind.i64.wrap (idle + (1 : Int))) i a_ false (r42 == (1 : Int)) (x49 == (2 : Int)) w6)) (
      Bm (x38 == (2 : Int)) (
        LdI .i64 ⟨o_, 1, none⟩ w5 fun x67 =>
        electm_Elect_See.Call m0 x67 w5 fun r68 w7 =>
        electm_Elect_Term.Call m0 w7 fun r70 w8 =>
        LdI .i64 ⟨a_, 0, none⟩ w8 fun x74 =>
        Bm (!(r68 == (r70 != x74))) (
          R false w8) (
          Bm r68 (
            LdI .i64 ⟨o_, 1, none⟩ w8 fun x81 =>
            sB3 script_b script_l script_c m0 wonAt idle i a_ false false (r70 != x81) w8) (
            sB3 script_b script_l script_c m0 wonAt idle i a_ false false false w8))) (
        Bm (x38 == (3 : Int)) (
          LdI .i64 ⟨o_, 1, none⟩ w5 fun x88 =>
          LdI .i64 ⟨o_, 2, none⟩ w5 fun x90 =>
          LdI .i64 ⟨o_, 3, none⟩ w5 fun x92 =>
          electm_Elect_AskedVote.Call m0 x88 x90 (x92 != (0 : Int)) w5 fun r94 w9 =>
          Bm r94 (
            LdI .i64 ⟨o_, 1, none⟩ w9 fun x98 =>
            LdI .i64 ⟨o_, 2, none⟩ w9 fun x100 =>
            electlaw_Meant.Call m0 x98 x100 w9 fun r101 w10 =>
            Bm (!r101) (
              sB4 script_b script_l script_c m0 wonAt (0 : Int) i a_ false false true w10) (
              LdI .i64 ⟨o_, 3, none⟩ w10 fun x106 =>
              sB4 script_b script_l script_c m0 wonAt (0 : Int) i a_ false false (x106 == (0 : Int)) w10)) (
            sB5 script_b script_l script_c m0 wonAt idle i a_ false false w9)) (
          Bm (x38 == (4 : Int)) (
            LdI .i64 ⟨o_, 1, none⟩ w5 fun x113 =>
            LdI .i64 ⟨o_, 2, none⟩ w5 fun x115 =>
            LdI .i64 ⟨o_, 3, none⟩ w5 fun x117 =>
            electm_Elect_GotVote.Call m0 x113 x115 (x117 != (0 : Int)) w5 fun r119 w11 =>
            Bm r119 (
              sB6 script_b script_l script_c m0 wonAt (0 : Int) i o_ a_ r119 false w11) (
              sB6 script_b script_l script_c m0 wonAt idle i o_ a_ r119 false w11)) (
            Bm (x38 == (5 : Int)) (
              LdI .i64 ⟨o_, 1, none⟩ w5 fun x150 =>
              LdI .i64 ⟨o_, 2, none⟩ w5 fun x152 =>
              electm_Elect_Heard.Call m0 x150 x152 w5 fun r153 w12 =>
              Bm r153 (
                electm_Elect_Leader.Call m0 w12 fun r156 w13 =>
                electm_Elect_Term.Call m0 w13 fun r158 w14 =>
                LdI .i64 ⟨o_, 1, none⟩ w14 fun x161 =>
                Bm (r156 != x161) (
                  sB7 script_b script_l script_c m0 wonAt (0 : Int) i a_ false false true w14) (
                  LdI .i64 ⟨o_, 2, none⟩ w14 fun x166 =>
                  sB7 script_b script_l script_c m0 wonAt (0 : Int) i a_ false false (r158 != x166) w14)) (
                sB5 script_b script_l script_c m0 wonAt idle i a_ false false w12)) (
              Bm (x38 == (6 : Int)) (
                LdI .i64 ⟨o_, 1, none⟩ w5 fun x173 =>
                LdI .i64 ⟨o_, 2, none⟩ w5 fun x175 =>
                electm_Elect_Restore.Call m0 x173 x175 w5 fun r176 w15 =>
                Bm (r176 == (0 : Int)) (
                  electlaw_FaceOf.Call m0 w15 fun r179_0 r179_1 r179_2 w16 =>
                  Sts [.int .i64 r179_0, .int .i64 r179_1, .int .i64 r179_2] ⟨a_, 0, none⟩ 0 w16 fun w17 =>
                  sB5 script_b script_l script_c m0 (-1 : Int) (0 : Int) i a_ false false w17) (
                  sB5 script_b script_l script_c m0 wonAt idle i a_ false false w15)) (
                Bm (x38 == (7 : Int)) (
                  LdI .i64 ⟨o_, 1, none⟩ w5 fun x183 =>
                  electm_New.Call x183 w5 fun r184 w18 =>
                  electlaw_FaceOf.Call r184 w18 fun r186_0 r186_1 r186_2 w19 =>
                  Sts [.int .i64 r186_0, .int .i64 r186_1, .int .i64 r186_2] ⟨a_, 0, none⟩ 0 w19 fun w20 =>
                  sB5 script_b script_l script_c r184 (-1 : Int) (0 : Int) i a_ false false w20) (
                  sB5 script_b script_l script_c m0 wonAt idle i a_ false false w5)))))))) (
    R true w)) = kstep Try.prog 203 Try.f6.results.toList (Try.f6.body.getD .skip) (electlaw_Lemmas.RV R) (kvc Try.prog 203 Try.f6.results.toList (Try.f6.body.getD .skip) (electlaw_Lemmas.RV R) [([(0, [1, 1, 1, 0, 1, 0, 0, 1, 0, 0, 1, 1, 1, 0, 1, 0, 1, 0, 1, 1, 0, 1]), (0, [1, 1, 1, 0, 1, 0, 0, 1, 0, 0, 1, 1, 1, 0, 1, 0, 1, 0, 1, 1, 1]), (1, [2]), (0, [1, 1, 1, 0, 1, 0, 0, 1, 0, 0, 1, 1, 1, 1]), (1, [1]), (0, [1, 1, 1, 0, 1, 0, 0, 1, 1]), (2, [1, 1, 1, 0, 1, 0, 0]), (1, [0]), (0, [1, 1, 1, 1])], fun σ w => dL (slotOf σ 0) fun script_b_ script_l_ script_c_ => dP (slotOf σ 3) fun m0_ => dI .i64 (slotOf σ 4) fun wonAt_ => dI .i64 (slotOf σ 5) fun idle_ => dI .i64 (slotOf σ 6) fun i_ => dK (slotOf σ 8) fun a_ => dB (slotOf σ 9) fun won_ => dB (slotOf σ 10) fun campaign_ => dB (slotOf σ 51) fun t51_ => sB2 script_b_ script_l_ script_c_ m0_ wonAt_ idle_ i_ a_ won_ campaign_ t51_ w),
    ([(0, [1, 1, 1, 0, 1, 0, 0, 1, 0, 0, 1, 1, 1, 0, 1, 0, 1, 1, 1, 0, 1, 1, 1, 1]), (1, [2]), (0, [1, 1, 1, 0, 1, 0, 0, 1, 0, 0, 1, 1, 1, 1]), (1, [1]), (0, [1, 1, 1, 0, 1, 0, 0, 1, 1]), (2, [1, 1, 1, 0, 1, 0, 0]), (1, [0]), (0, [1, 1, 1, 1])], fun σ w => dL (slotOf σ 0) fun script_b_ script_l_ script_c_ => dP (slotOf σ 3) fun m0_ => dI .i64 (slotOf σ 4) fun wonAt_ => dI .i64 (slotOf σ 5) fun idle_ => dI .i64 (slotOf σ 6) fun i_ => dK (slotOf σ 8) fun a_ => dB (slotOf σ 9) fun won_ => dB (slotOf σ 10) fun campaign_ => dB (slotOf σ 83) fun t83_ => sB3 script_b_ script_l_ script_c_ m0_ wonAt_ idle_ i_ a_ won_ campaign_ t83_ w),
    ([(0, [1, 1, 1, 0, 1, 0, 0, 1, 0, 0, 1, 1, 1, 0, 1, 0, 1, 1, 1, 1, 1, 0, 1, 1, 0, 1, 1, 1]), (1, [2]), (0, [1, 1, 1, 0, 1, 0, 0, 1, 0, 0, 1, 1, 1, 1]), (1, [1]), (0, [1, 1, 1, 0, 1, 0, 0, 1, 1]), (2, [1, 1, 1, 0, 1, 0, 0]), (1, [0]), (0, [1, 1, 1, 1])], fun σ w => dL (slotOf σ 0) fun script_b_ script_l_ script_c_ => dP (slotOf σ 3) fun m0_ => dI .i64 (slotOf σ 4) fun wonAt_ => dI .i64 (slotOf σ 5) fun idle_ => dI .i64 (slotOf σ 6) fun i_ => dK (slotOf σ 8) fun a_ => dB (slotOf σ 9) fun won_ => dB (slotOf σ 10) fun campaign_ => dB (slotOf σ 108) fun t108_ => sB4 script_b_ script_l_ script_c_ m0_ wonAt_ idle_ i_ a_ won_ campaign_ t108_ w),
    ([(0, [1, 1, 1, 0, 1, 0, 0, 1, 0, 0, 1, 1, 1, 1]), (1, [1]), (0, [1, 1, 1, 0, 1, 0, 0, 1, 1]), (2, [1, 1, 1, 0, 1, 0, 0]), (1, [0]), (0, [1, 1, 1, 1])], fun σ w => dL (slotOf σ 0) fun script_b_ script_l_ script_c_ => dP (slotOf σ 3) fun m0_ => dI .i64 (slotOf σ 4) fun wonAt_ => dI .i64 (slotOf σ 5) fun idle_ => dI .i64 (slotOf σ 6) fun i_ => dK (slotOf σ 8) fun a_ => dB (slotOf σ 9) fun won_ => dB (slotOf σ 10) fun campaign_ => sB5 script_b_ script_l_ script_c_ m0_ wonAt_ idle_ i_ a_ won_ campaign_ w),
    ([(0, [1, 1, 1, 0, 1, 0, 0, 1, 0, 0, 1, 1, 1, 0, 1, 0, 1, 1, 1, 1, 1, 1, 1, 0, 1, 1]), (1, [2]), (0, [1, 1, 1, 0, 1, 0, 0, 1, 0, 0, 1, 1, 1, 1]), (1, [1]), (0, [1, 1, 1, 0, 1, 0, 0, 1, 1]), (2, [1, 1, 1, 0, 1, 0, 0]), (1, [0]), (0, [1, 1, 1, 1])], fun σ w => dL (slotOf σ 0) fun script_b_ script_l_ script_c_ => dP (slotOf σ 3) fun m0_ => dI .i64 (slotOf σ 4) fun wonAt_ => dI .i64 (slotOf σ 5) fun idle_ => dI .i64 (slotOf σ 6) fun i_ => dK (slotOf σ 7) fun o_ => dK (slotOf σ 8) fun a_ => dB (slotOf σ 9) fun won_ => dB (slotOf σ 10) fun campaign_ => sB6 script_b_ script_l_ script_c_ m0_ wonAt_ idle_ i_ o_ a_ won_ campaign_ w),
    ([(0, [1, 1, 1, 0, 1, 0, 0, 1, 0, 0, 1, 1, 1, 0, 1, 0, 1, 1, 1, 1, 1, 1, 1, 1, 1, 0, 1, 1, 0, 1, 1, 1, 1]), (1, [2]), (0, [1, 1, 1, 0, 1, 0, 0, 1, 0, 0, 1, 1, 1, 1]), (1, [1]), (0, [1, 1, 1, 0, 1, 0, 0, 1, 1]), (2, [1, 1, 1, 0, 1, 0, 0]), (1, [0]), (0, [1, 1, 1, 1])], fun σ w => dL (slotOf σ 0) fun script_b_ script_l_ script_c_ => dP (slotOf σ 3) fun m0_ => dI .i64 (slotOf σ 4) fun wonAt_ => dI .i64 (slotOf σ 5) fun idle_ => dI .i64 (slotOf σ 6) fun i_ => dK (slotOf σ 8) fun a_ => dB (slotOf σ 9) fun won_ => dB (slotOf σ 10) fun campaign_ => dB (slotOf σ 168) fun t168_ => sB7 script_b_ script_l_ script_c_ m0_ wonAt_ idle_ i_ a_ won_ campaign_ t168_ w)] 2000) [(0, [1, 1, 1, 0, 1, 0, 0, 0, 1]), (0, [1, 1, 1, 0, 1, 0, 0, 1]), (2, [1, 1, 1, 0, 1, 0, 0]), (1, [0]), (0, [1, 1, 1, 1])] [(0, .slice script_b script_l script_c), (3, .pointer m0), (4, .int .i64 wonAt), (5, .int .i64 idle), (6, .int .i64 i), (28, .bool t28)] w := by kernel_rfl
theorem electlaw_Lemmas.B1_sound {R : Bool → World → Prop} {N1 : Option Addr → Nat → Nat → Option Addr → Int → Int → Int → World → Prop} (hN1 : ∀ script_b script_l script_c m0 wonAt idle i w, N1 script_b script_l script_c m0 wonAt idle i w → KW Try.prog 6 203 (electlaw_Lemmas.RV R) ([(0, [1, 1, 1, 0, 1, 0, 0]), (2, [1, 1, 1, 0, 1, 0, 0]), (1, [0]), (0, [1, 1, 1, 1])].map (toItem (Try.f6.body.getD .skip))) [(0, .slice script_b script_l script_c), (3, .pointer m0), (4, .int .i64 wonAt), (5, .int .i64 idle), (6, .int .i64 i)] w) (script_b : Option Addr) (script_l script_c : Nat) (m0 : Option Addr) (wonAt idle i : Int) (t28 : Bool) (w : World) (h : electlaw_Lemmas.B1 script_b script_l script_c m0 wonAt idle i t28 w N1  R) :
    KW Try.prog 6 203 (electlaw_Lemmas.RV R) ([(0, [1, 1, 1, 0, 1, 0, 0, 0, 1]), (0, [1, 1, 1, 0, 1, 0, 0, 1]), (2, [1, 1, 1, 0, 1, 0, 0]), (1, [0]), (0, [1, 1, 1, 1])].map (toItem (Try.f6.body.getD .skip))) [(0, .slice script_b script_l script_c), (3, .pointer m0), (4, .int .i64 wonAt), (5, .int .i64 idle), (6, .int .i64 i), (28, .bool t28)] w := by
  exact block_spec Try.func6 Try.mixed (stops_cons (fun σ w h => by
      obtain ⟨script_b_, script_l_, script_c_, e0, h⟩ := dL_elim h
      obtain ⟨m0_, e1, h⟩ := dP_elim h
      obtain ⟨wonAt_, e2, h⟩ := dI_elim h
      obtain ⟨idle_, e3, h⟩ := dI_elim h
      obtain ⟨i_, e4, h⟩ := dI_elim h
      obtain ⟨a_, e5, h⟩ := dK_elim h
      obtain ⟨won_, e6, h⟩ := dB_elim h
      obtain ⟨campaign_, e7, h⟩ := dB_elim h
      obtain ⟨t51_, e8, h⟩ := dB_elim h
      exact (electlaw_Lemmas.B2_sound hN1 script_b_ script_l_ script_c_ m0_ wonAt_ idle_ i_ a_ won_ campaign_ t51_ w h).weaken (Sub.cons (Sub.cons (Sub.cons (Sub.cons (Sub.cons (Sub.cons (Sub.cons (Sub.cons (Sub.cons (Sub.nil _) e8) e7) e6) e5) e4) e3) e2) e1) e0)) (stops_cons (fun σ w h => by
      obtain ⟨script_b_, script_l_, script_c_, e0, h⟩ := dL_elim h
      obtain ⟨m0_, e1, h⟩ := dP_elim h
      obtain ⟨wonAt_, e2, h⟩ := dI_elim h
      obtain ⟨idle_, e3, h⟩ := dI_elim h
      obtain ⟨i_, e4, h⟩ := dI_elim h
      obtain ⟨a_, e5, h⟩ := dK_elim h
      obtain ⟨won_, e6, h⟩ := dB_elim h
      obtain ⟨campaign_, e7, h⟩ := dB_elim h
      obtain ⟨t83_, e8, h⟩ := dB_elim h
      exact (electlaw_Lemmas.B3_sound hN1 script_b_ script_l_ script_c_ m0_ wonAt_ idle_ i_ a_ won_ campaign_ t83_ w h).weaken (Sub.cons (Sub.cons (Sub.cons (Sub.cons (Sub.cons (Sub.cons (Sub.cons (Sub.cons (Sub.cons (Sub.nil _) e8) e7) e6) e5) e4) e3) e2) e1) e0)) (stops_cons (fun σ w h => by
      obtain ⟨script_b_, script_l_, script_c_, e0, h⟩ := dL_elim h
      obtain ⟨m0_, e1, h⟩ := dP_elim h
      obtain ⟨wonAt_, e2, h⟩ := dI_elim h
      obtain ⟨idle_, e3, h⟩ := dI_elim h
      obtain ⟨i_, e4, h⟩ := dI_elim h
      obtain ⟨a_, e5, h⟩ := dK_elim h
      obtain ⟨won_, e6, h⟩ := dB_elim h
      obtain ⟨campaign_, e7, h⟩ := dB_elim h
      obtain ⟨t108_, e8, h⟩ := dB_elim h
      exact (electlaw_Lemmas.B4_sound hN1 script_b_ script_l_ script_c_ m0_ wonAt_ idle_ i_ a_ won_ campaign_ t108_ w h).weaken (Sub.cons (Sub.cons (Sub.cons (Sub.cons (Sub.cons (Sub.cons (Sub.cons (Sub.cons (Sub.cons (Sub.nil _) e8) e7) e6) e5) e4) e3) e2) e1) e0)) (stops_cons (fun σ w h => by
      obtain ⟨script_b_, script_l_, script_c_, e0, h⟩ := dL_elim h
      obtain ⟨m0_, e1, h⟩ := dP_elim h
      obtain ⟨wonAt_, e2, h⟩ := dI_elim h
      obtain ⟨idle_, e3, h⟩ := dI_elim h
      obtain ⟨i_, e4, h⟩ := dI_elim h
      obtain ⟨a_, e5, h⟩ := dK_elim h
      obtain ⟨won_, e6, h⟩ := dB_elim h
      obtain ⟨campaign_, e7, h⟩ := dB_elim h
      exact (electlaw_Lemmas.B5_sound hN1 script_b_ script_l_ script_c_ m0_ wonAt_ idle_ i_ a_ won_ campaign_ w h).weaken (Sub.cons (Sub.cons (Sub.cons (Sub.cons (Sub.cons (Sub.cons (Sub.cons (Sub.cons (Sub.nil _) e7) e6) e5) e4) e3) e2) e1) e0)) (stops_cons (fun σ w h => by
      obtain ⟨script_b_, script_l_, script_c_, e0, h⟩ := dL_elim h
      obtain ⟨m0_, e1, h⟩ := dP_elim h
      obtain ⟨wonAt_, e2, h⟩ := dI_elim h
      obtain ⟨idle_, e3, h⟩ := dI_elim h
      obtain ⟨i_, e4, h⟩ := dI_elim h
      obtain ⟨o_, e5, h⟩ := dK_elim h
      obtain ⟨a_, e6, h⟩ := dK_elim h
      obtain ⟨won_, e7, h⟩ := dB_elim h
      obtain ⟨campaign_, e8, h⟩ := dB_elim h
      exact (electlaw_Lemmas.B6_sound hN1 script_b_ script_l_ script_c_ m0_ wonAt_ idle_ i_ o_ a_ won_ campaign_ w h).weaken (Sub.cons (Sub.cons (Sub.cons (Sub.cons (Sub.cons (Sub.cons (Sub.cons (Sub.cons (Sub.cons (Sub.nil _) e8) e7) e6) e5) e4) e3) e2) e1) e0)) (stops_cons (fun σ w h => by
      obtain ⟨script_b_, script_l_, script_c_, e0, h⟩ := dL_elim h
      obtain ⟨m0_, e1, h⟩ := dP_elim h
      obtain ⟨wonAt_, e2, h⟩ := dI_elim h
      obtain ⟨idle_, e3, h⟩ := dI_elim h
      obtain ⟨i_, e4, h⟩ := dI_elim h
      obtain ⟨a_, e5, h⟩ := dK_elim h
      obtain ⟨won_, e6, h⟩ := dB_elim h
      obtain ⟨campaign_, e7, h⟩ := dB_elim h
      obtain ⟨t168_, e8, h⟩ := dB_elim h
      exact (electlaw_Lemmas.B7_sound hN1 script_b_ script_l_ script_c_ m0_ wonAt_ idle_ i_ a_ won_ campaign_ t168_ w h).weaken (Sub.cons (Sub.cons (Sub.cons (Sub.cons (Sub.cons (Sub.cons (Sub.cons (Sub.cons (Sub.cons (Sub.nil _) e8) e7) e6) e5) e4) e3) e2) e1) e0)) stops_nil)))))) (Eq.mp (electlaw_Lemmas.B1_eq script_b script_l script_c m0 wonAt idle i t28 w N1  R (fun script_b_ script_l_ script_c_ m0_ wonAt_ idle_ i_ a_ won_ campaign_ t51_ w => electlaw_Lemmas.B2 script_b_ script_l_ script_c_ m0_ wonAt_ idle_ i_ a_ won_ campaign_ t51_ w N1 R) (fun script_b_ script_l_ script_c_ m0_ wonAt_ idle_ i_ a_ won_ campaign_ t83_ w => electlaw_Lemmas.B3 script_b_ script_l_ script_c_ m0_ wonAt_ idle_ i_ a_ won_ campaign_ t83_ w N1 R) (fun script_b_ script_l_ script_c_ m0_ wonAt_ idle_ i_ a_ won_ campaign_ t108_ w => electlaw_Lemmas.B4 script_b_ script_l_ script_c_ m0_ wonAt_ idle_ i_ a_ won_ campaign_ t108_ w N1 R) (fun script_b_ script_l_ script_c_ m0_ wonAt_ idle_ i_ a_ won_ campaign_ w => electlaw_Lemmas.B5 script_b_ script_l_ script_c_ m0_ wonAt_ idle_ i_ a_ won_ campaign_ w N1 R) (fun script_b_ script_l_ script_c_ m0_ wonAt_ idle_ i_ o_ a_ won_ campaign_ w => electlaw_Lemmas.B6 script_b_ script_l_ script_c_ m0_ wonAt_ idle_ i_ o_ a_ won_ campaign_ w N1 R) (fun script_b_ script_l_ script_c_ m0_ wonAt_ idle_ i_ a_ won_ campaign_ t168_ w => electlaw_Lemmas.B7 script_b_ script_l_ script_c_ m0_ wonAt_ idle_ i_ a_ won_ campaign_ t168_ w N1 R)) h)
def electlaw_Lemmas.L1b (script_b : Option Addr) (script_l script_c : Nat) (m0 : Option Addr) (wonAt idle i : Int) (w : World)  (N1 : Option Addr → Nat → Nat → Option Addr → Int → Int → Int → World → Prop) (R : Bool → World → Prop) : Prop :=
  Bm (decide (i < ((script_l : Nat) : Int))) (
    electlaw_Lemmas.B1 script_b script_l script_c m0 wonAt idle i (decide (i < (4398046511104 : Int))) w N1 R) (
    electlaw_Lemmas.B1 script_b script_l script_c m0 wonAt idle i false w N1 R)
theorem electlaw_Lemmas.L1b_eq (script_b : Option Addr) (script_l script_c : Nat) (m0 : Option Addr) (wonAt idle i : Int) (w : World)  (N1 : Option Addr → Nat → Nat → Option Addr → Int → Int → Int → World → Prop) (R : Bool → World → Prop) (sB1 : Option Addr → Nat → Nat → Option Addr → Int → Int → Int → Bool → World → Prop) :
    (
  Bm (decide (i < ((script_l : Nat) : Int))) (
    sB1 script_b script_l script_c m0 wonAt idle i (decide (i < (4398046511104 : Int))) w) (
    sB1 script_b script_l script_c m0 wonAt idle i false w)) = kstep Try.prog 203 Try.f6.results.toList (Try.f6.body.getD .skip) (electlaw_Lemmas.RV R) (kvc Try.prog 203 Try.f6.results.toList (Try.f6.body.getD .skip) (electlaw_Lemmas.RV R) [([(0, [1, 1, 1, 0, 1, 0, 0, 0, 1]), (0, [1, 1, 1, 0, 1, 0, 0, 1]), (2, [1, 1, 1, 0, 1, 0, 0]), (1, [0]), (0, [1, 1, 1, 1])], fun σ w => dL (slotOf σ 0) fun script_b_ script_l_ script_c_ => dP (slotOf σ 3) fun m0_ => dI .i64 (slotOf σ 4) fun wonAt_ => dI .i64 (slotOf σ 5) fun idle_ => dI .i64 (slotOf σ 6) fun i_ => dB (slotOf σ 28) fun t28_ => sB1 script_b_ script_l_ script_c_ m0_ wonAt_ idle_ i_ t28_ w)] 2000) [(0, [1, 1, 1, 0, 1, 0, 0]), (2, [1, 1, 1, 0, 1, 0, 0]), (1, [0]), (0, [1, 1, 1, 1])] [(0, .slice script_b script_l script_c), (3, .pointer m0), (4, .int .i64 wonAt), (5, .int .i64 idle), (6, .int .i64 i)] w := by kernel_rfl
theorem electlaw_Lemmas.L1b_sound {R : Bool → World → Prop} {N1 : Option Addr → Nat → Nat → Option Addr → Int → Int → Int → World → Prop} (hN1 : ∀ script_b script_l script_c m0 wonAt idle i w, N1 script_b script_l script_c m0 wonAt idle i w → KW Try.prog 6 203 (electlaw_Lemmas.RV R) ([(0, [1, 1, 1, 0, 1, 0, 0]), (2, [1, 1, 1, 0, 1, 0, 0]), (1, [0]), (0, [1, 1, 1, 1])].map (toItem (Try.f6.body.getD .skip))) [(0, .slice script_b script_l script_c), (3, .pointer m0), (4, .int .i64 wonAt), (5, .int .i64 idle), (6, .int .i64 i)] w) (script_b : Option Addr) (script_l script_c : Nat) (m0 : Option Addr) (wonAt idle i : Int) (w : World) (h : electlaw_Lemmas.L1b script_b script_l script_c m0 wonAt idle i w  N1 R) :
    KW Try.prog 6 203 (electlaw_Lemmas.RV R) ([(0, [1, 1, 1, 0, 1, 0, 0]), (2, [1, 1, 1, 0, 1, 0, 0]), (1, [0]), (0, [1, 1, 1, 1])].map (toItem (Try.f6.body.getD .skip))) [(0, .slice script_b script_l script_c), (3, .pointer m0), (4, .int .i64 wonAt), (5, .int .i64 idle), (6, .int .i64 i)] w := by
  exact block_spec Try.func6 Try.mixed (stops_cons (fun σ w h => by
      obtain ⟨script_b_, script_l_, script_c_, e0, h⟩ := dL_elim h
      obtain ⟨m0_, e1, h⟩ := dP_elim h
      obtain ⟨wonAt_, e2, h⟩ := dI_elim h
      obtain ⟨idle_, e3, h⟩ := dI_elim h
      obtain ⟨i_, e4, h⟩ := dI_elim h
      obtain ⟨t28_, e5, h⟩ := dB_elim h
      exact (electlaw_Lemmas.B1_sound hN1 script_b_ script_l_ script_c_ m0_ wonAt_ idle_ i_ t28_ w h).weaken (Sub.cons (Sub.cons (Sub.cons (Sub.cons (Sub.cons (Sub.cons (Sub.nil _) e5) e4) e3) e2) e1) e0)) stops_nil) (Eq.mp (electlaw_Lemmas.L1b_eq script_b script_l script_c m0 wonAt idle i w  N1 R (fun script_b_ script_l_ script_c_ m0_ wonAt_ idle_ i_ t28_ w => electlaw_Lemmas.B1 script_b_ script_l_ script_c_ m0_ wonAt_ idle_ i_ t28_ w N1 R)) h)
def electlaw_Lemmas.L1 (script_b : Option Addr) (script_l script_c : Nat) (m0 : Option Addr) (wonAt idle i : Int) (w : World)  (R : Bool → World → Prop) : Prop :=
  ∃ (I : Nat → Option Addr → Nat → Nat → Option Addr → Int → Int → Int → World → Prop) (m : Nat), I m script_b script_l script_c m0 wonAt idle i w ∧ ∀ m script_b script_l script_c m0 wonAt idle i w, I m script_b script_l script_c m0 wonAt idle i w → electlaw_Lemmas.L1b script_b script_l script_c m0 wonAt idle i w  (fun script_b' script_l' script_c' m0' wonAt' idle' i' w' => ∃ m', m' < m ∧ I m' script_b' script_l' script_c' m0' wonAt' idle' i' w') R
theorem electlaw_Lemmas.L1_sound {R : Bool → World → Prop}  (script_b : Option Addr) (script_l script_c : Nat) (m0 : Option Addr) (wonAt idle i : Int) (w : World) (h : electlaw_Lemmas.L1 script_b script_l script_c m0 wonAt idle i w  R) :
    KW Try.prog 6 203 (electlaw_Lemmas.RV R) ([(0, [1, 1, 1, 0, 1, 0, 0]), (2, [1, 1, 1, 0, 1, 0, 0]), (1, [0]), (0, [1, 1, 1, 1])].map (toItem (Try.f6.body.getD .skip))) [(0, .slice script_b script_l script_c), (3, .pointer m0), (4, .int .i64 wonAt), (5, .int .i64 idle), (6, .int .i64 i)] w := by
  obtain ⟨I, m, h0, hr⟩ := h
  refine KW.loop (fun m σ w => ∃ (script_b : Option Addr) (script_l script_c : Nat) (m0 : Option Addr) (wonAt idle i : Int), σ = [(0, .slice script_b script_l script_c), (3, .pointer m0), (4, .int .i64 wonAt), (5, .int .i64 idle), (6, .int .i64 i)] ∧ I m script_b script_l script_c m0 wonAt idle i w) ?_ m _ w ⟨script_b, script_l, script_c, m0, wonAt, idle, i, rfl, h0⟩
  rintro m ih σ w ⟨script_b, script_l, script_c, m0, wonAt, idle, i, rfl, hI⟩
  exact electlaw_Lemmas.L1b_sound  (N1 := fun script_b' script_l' script_c' m0' wonAt' idle' i' w' => ∃ m', m' < m ∧ I m' script_b' script_l' script_c' m0' wonAt' idle' i' w') (fun script_b' script_l' script_c' m0' wonAt' idle' i' w' hx => by obtain ⟨m', hlt, hI'⟩ := hx; exact ih m' hlt _ w' ⟨script_b', script_l', script_c', m0', wonAt', idle', i', rfl, hI'⟩) script_b script_l script_c m0 wonAt idle i w (hr m script_b script_l script_c m0 wonAt idle i w hI)
def electlaw_Lemmas.B0 (script_b : Option Addr) (script_l script_c : Nat) (w : World)   (R : Bool → World → Prop) : Prop :=
  electm_New.Call (0 : Int) w fun r20 w1 =>
  electlaw_Lemmas.L1 script_b script_l script_c r20 (-1 : Int) (0 : Int) (0 : Int) w1  R
theorem electlaw_Lemmas.B0_eq (script_b : Option Addr) (script_l script_c : Nat) (w : World)   (R : Bool → World → Prop) (sL1 : Option Addr → Nat → Nat → Option Addr → Int → Int → Int → World → Prop) :
    (
  electm_New.Call (0 : Int) w fun r20 w1 =>
  sL1 script_b script_l script_c r20 (-1 : Int) (0 : Int) (0 : Int) w1) = kstep Try.prog 203 Try.f6.results.toList (Try.f6.body.getD .skip) (electlaw_Lemmas.RV R) (kvc Try.prog 203 Try.f6.results.toList (Try.f6.body.getD .skip) (electlaw_Lemmas.RV R) [([(0, [1, 1, 1, 0, 1, 0, 0]), (2, [1, 1, 1, 0, 1, 0, 0]), (1, [0]), (0, [1, 1, 1, 1])], fun σ w => dL (slotOf σ 0) fun script_b_ script_l_ script_c_ => dP (slotOf σ 3) fun m0_ => dI .i64 (slotOf σ 4) fun wonAt_ => dI .i64 (slotOf σ 5) fun idle_ => dI .i64 (slotOf σ 6) fun i_ => sL1 script_b_ script_l_ script_c_ m0_ wonAt_ idle_ i_ w)] 2000) [(0, [])] [(0, .slice script_b script_l script_c)] w := by kernel_rfl
theorem electlaw_Lemmas.B0_sound {R : Bool → World → Prop}  (script_b : Option Addr) (script_l script_c : Nat) (w : World) (h : electlaw_Lemmas.B0 script_b script_l script_c w   R) :
    KW Try.prog 6 203 (electlaw_Lemmas.RV R) ([(0, [])].map (toItem (Try.f6.body.getD .skip))) [(0, .slice script_b script_l script_c)] w := by
  exact block_spec Try.func6 Try.mixed (stops_cons (fun σ w h => by
      obtain ⟨script_b_, script_l_, script_c_, e0, h⟩ := dL_elim h
      obtain ⟨m0_, e1, h⟩ := dP_elim h
      obtain ⟨wonAt_, e2, h⟩ := dI_elim h
      obtain ⟨idle_, e3, h⟩ := dI_elim h
      obtain ⟨i_, e4, h⟩ := dI_elim h
      exact (electlaw_Lemmas.L1_sound  script_b_ script_l_ script_c_ m0_ wonAt_ idle_ i_ w h).weaken (Sub.cons (Sub.cons (Sub.cons (Sub.cons (Sub.cons (Sub.nil _) e4) e3) e2) e1) e0)) stops_nil) (Eq.mp (electlaw_Lemmas.B0_eq script_b script_l script_c w   R (fun script_b_ script_l_ script_c_ m0_ wonAt_ idle_ i_ w => electlaw_Lemmas.L1 script_b_ script_l_ script_c_ m0_ wonAt_ idle_ i_ w  R)) h)
theorem electlaw_Lemmas.sound (script_b : Option Addr) (script_l script_c : Nat) (w : World) (R : Bool → World → Prop) (h : electlaw_Lemmas.B0 script_b script_l script_c w R) : electlaw_Lemmas.Call script_b script_l script_c w R := by
  have hc := calls_of_block (args := #[.slice script_b script_l script_c]) Try.func6 (body := (Try.f6.body.getD .skip)) (by kernel_rfl) (by kernel_rfl) (args_slot _) (electlaw_Lemmas.B0_sound script_b script_l script_c w h)
  exact hc.mono fun e w' he => by
    obtain ⟨v, rfl, hv⟩ := he
    exact electlaw_Lemmas.RV_elim hv
end Go.Proofs.Qxb6500428a
