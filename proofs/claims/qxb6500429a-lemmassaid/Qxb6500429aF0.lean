import Derived.Test.Qxb6500429aSig
set_option maxRecDepth 100000
set_option linter.unusedVariables false
open Go.Vc
namespace Go.Proofs.Qxb6500429a
def kvlaw_Refines.B0 (script_b : Option Addr) (script_l script_c : Nat) (w : World)   (R : Bool → World → Prop) : Prop :=
  kvlaw_RefinesUpTo.Call script_b script_l script_c w fun r4 w1 =>
  R (r4 == (-1 : Int)) w1
theorem kvlaw_Refines.B0_eq (script_b : Option Addr) (script_l script_c : Nat) (w : World)   (R : Bool → World → Prop)  :
    (
  kvlaw_RefinesUpTo.Call script_b script_l script_c w fun r4 w1 =>
  R (r4 == (-1 : Int)) w1) = kstep Try.prog 6 Try.f3.results.toList (Try.f3.body.getD .skip) (kvlaw_Refines.RV R) (kvc Try.prog 6 Try.f3.results.toList (Try.f3.body.getD .skip) (kvlaw_Refines.RV R) [] 2000) [(0, [])] [(0, .slice script_b script_l script_c)] w := by kernel_rfl
theorem kvlaw_Refines.B0_sound {R : Bool → World → Prop}  (script_b : Option Addr) (script_l script_c : Nat) (w : World) (h : kvlaw_Refines.B0 script_b script_l script_c w   R) :
    KW Try.prog 3 6 (kvlaw_Refines.RV R) ([(0, [])].map (toItem (Try.f3.body.getD .skip))) [(0, .slice script_b script_l script_c)] w := by
  exact block_spec Try.func3 Try.mixed stops_nil (Eq.mp (kvlaw_Refines.B0_eq script_b script_l script_c w   R ) h)
theorem kvlaw_Refines.sound (script_b : Option Addr) (script_l script_c : Nat) (w : World) (R : Bool → World → Prop) (h : kvlaw_Refines.B0 script_b script_l script_c w R) : kvlaw_Refines.Call script_b script_l script_c w R := by
  have hc := calls_of_block (args := #[.slice script_b script_l script_c]) Try.func3 (body := (Try.f3.body.getD .skip)) (by kernel_rfl) (by kernel_rfl) (args_slot _) (kvlaw_Refines.B0_sound script_b script_l script_c w h)
  exact hc.mono fun e w' he => by
    obtain ⟨v, rfl, hv⟩ := he
    exact kvlaw_Refines.RV_elim hv
def kvlaw_RefinesSteady.B0 (script_b : Option Addr) (script_l script_c : Nat) (w : World)   (R : Bool → World → Prop) : Prop :=
  kvlaw_Refines.Call script_b script_l script_c w fun r4 w1 =>
  R r4 w1
theorem kvlaw_RefinesSteady.B0_eq (script_b : Option Addr) (script_l script_c : Nat) (w : World)   (R : Bool → World → Prop)  :
    (
  kvlaw_Refines.Call script_b script_l script_c w fun r4 w1 =>
  R r4 w1) = kstep Try.prog 5 Try.f4.results.toList (Try.f4.body.getD .skip) (kvlaw_RefinesSteady.RV R) (kvc Try.prog 5 Try.f4.results.toList (Try.f4.body.getD .skip) (kvlaw_RefinesSteady.RV R) [] 2000) [(0, [])] [(0, .slice script_b script_l script_c)] w := by kernel_rfl
theorem kvlaw_RefinesSteady.B0_sound {R : Bool → World → Prop}  (script_b : Option Addr) (script_l script_c : Nat) (w : World) (h : kvlaw_RefinesSteady.B0 script_b script_l script_c w   R) :
    KW Try.prog 4 5 (kvlaw_RefinesSteady.RV R) ([(0, [])].map (toItem (Try.f4.body.getD .skip))) [(0, .slice script_b script_l script_c)] w := by
  exact block_spec Try.func4 Try.mixed stops_nil (Eq.mp (kvlaw_RefinesSteady.B0_eq script_b script_l script_c w   R ) h)
theorem kvlaw_RefinesSteady.sound (script_b : Option Addr) (script_l script_c : Nat) (w : World) (R : Bool → World → Prop) (h : kvlaw_RefinesSteady.B0 script_b script_l script_c w R) : kvlaw_RefinesSteady.Call script_b script_l script_c w R := by
  have hc := calls_of_block (args := #[.slice script_b script_l script_c]) Try.func4 (body := (Try.f4.body.getD .skip)) (by kernel_rfl) (by kernel_rfl) (args_slot _) (kvlaw_RefinesSteady.B0_sound script_b script_l script_c w h)
  exact hc.mono fun e w' he => by
    obtain ⟨v, rfl, hv⟩ := he
    exact kvlaw_RefinesSteady.RV_elim hv
def kvlaw_RefinesQuiet.B0 (script_b : Option Addr) (script_l script_c : Nat) (w : World)   (R : Bool → World → Prop) : Prop :=
  kvlaw_walk.Call script_b script_l script_c true false w fun r7_0 r7_1 w1 =>
  R (r7_0 == (-1 : Int)) w1
theorem kvlaw_RefinesQuiet.B0_eq (script_b : Option Addr) (script_l script_c : Nat) (w : World)   (R : Bool → World → Prop)  :
    (
  kvlaw_walk.Call script_b script_l script_c true false w fun r7_0 r7_1 w1 =>
  R (r7_0 == (-1 : Int)) w1) = kstep Try.prog 12 Try.f5.results.toList (Try.f5.body.getD .skip) (kvlaw_RefinesQuiet.RV R) (kvc Try.prog 12 Try.f5.results.toList (Try.f5.body.getD .skip) (kvlaw_RefinesQuiet.RV R) [] 2000) [(0, [])] [(0, .slice script_b script_l script_c)] w := by kernel_rfl
theorem kvlaw_RefinesQuiet.B0_sound {R : Bool → World → Prop}  (script_b : Option Addr) (script_l script_c : Nat) (w : World) (h : kvlaw_RefinesQuiet.B0 script_b script_l script_c w   R) :
    KW Try.prog 5 12 (kvlaw_RefinesQuiet.RV R) ([(0, [])].map (toItem (Try.f5.body.getD .skip))) [(0, .slice script_b script_l script_c)] w := by
  exact block_spec Try.func5 Try.mixed stops_nil (Eq.mp (kvlaw_RefinesQuiet.B0_eq script_b script_l script_c w   R ) h)
theorem kvlaw_RefinesQuiet.sound (script_b : Option Addr) (script_l script_c : Nat) (w : World) (R : Bool → World → Prop) (h : kvlaw_RefinesQuiet.B0 script_b script_l script_c w R) : kvlaw_RefinesQuiet.Call script_b script_l script_c w R := by
  have hc := calls_of_block (args := #[.slice script_b script_l script_c]) Try.func5 (body := (Try.f5.body.getD .skip)) (by kernel_rfl) (by kernel_rfl) (args_slot _) (kvlaw_RefinesQuiet.B0_sound script_b script_l script_c w h)
  exact hc.mono fun e w' he => by
    obtain ⟨v, rfl, hv⟩ := he
    exact kvlaw_RefinesQuiet.RV_elim hv
def kvlaw_Lemmas.B0 (script_b : Option Addr) (script_l script_c : Nat) (w : World)   (R : Bool → World → Prop) : Prop :=
  kvlaw_walk.Call script_b script_l script_c false true w fun r7_0 r7_1 w1 =>
  R (r7_0 == (-1 : Int)) w1
theorem kvlaw_Lemmas.B0_eq (script_b : Option Addr) (script_l script_c : Nat) (w : World)   (R : Bool → World → Prop)  :
    (
  kvlaw_walk.Call script_b script_l script_c false true w fun r7_0 r7_1 w1 =>
  R (r7_0 == (-1 : Int)) w1) = kstep Try.prog 12 Try.f6.results.toList (Try.f6.body.getD .skip) (kvlaw_Lemmas.RV R) (kvc Try.prog 12 Try.f6.results.toList (Try.f6.body.getD .skip) (kvlaw_Lemmas.RV R) [] 2000) [(0, [])] [(0, .slice script_b script_l script_c)] w := by kernel_rfl
theorem kvlaw_Lemmas.B0_sound {R : Bool → World → Prop}  (script_b : Option Addr) (script_l script_c : Nat) (w : World) (h : kvlaw_Lemmas.B0 script_b script_l script_c w   R) :
    KW Try.prog 6 12 (kvlaw_Lemmas.RV R) ([(0, [])].map (toItem (Try.f6.body.getD .skip))) [(0, .slice script_b script_l script_c)] w := by
  exact block_spec Try.func6 Try.mixed stops_nil (Eq.mp (kvlaw_Lemmas.B0_eq script_b script_l script_c w   R ) h)
theorem kvlaw_Lemmas.sound (script_b : Option Addr) (script_l script_c : Nat) (w : World) (R : Bool → World → Prop) (h : kvlaw_Lemmas.B0 script_b script_l script_c w R) : kvlaw_Lemmas.Call script_b script_l script_c w R := by
  have hc := calls_of_block (args := #[.slice script_b script_l script_c]) Try.func6 (body := (Try.f6.body.getD .skip)) (by kernel_rfl) (by kernel_rfl) (args_slot _) (kvlaw_Lemmas.B0_sound script_b script_l script_c w h)
  exact hc.mono fun e w' he => by
    obtain ⟨v, rfl, hv⟩ := he
    exact kvlaw_Lemmas.RV_elim hv
def kvlaw_RefinesUpTo.B0 (script_b : Option Addr) (script_l script_c : Nat) (w : World)   (R : Int → World → Prop) : Prop :=
  kvlaw_walk.Call script_b script_l script_c false false w fun r7_0 r7_1 w1 =>
  R r7_0 w1
theorem kvlaw_RefinesUpTo.B0_eq (script_b : Option Addr) (script_l script_c : Nat) (w : World)   (R : Int → World → Prop)  :
    (
  kvlaw_walk.Call script_b script_l script_c false false w fun r7_0 r7_1 w1 =>
  R r7_0 w1) = kstep Try.prog 11 Try.f7.results.toList (Try.f7.body.getD .skip) (kvlaw_RefinesUpTo.RV R) (kvc Try.prog 11 Try.f7.results.toList (Try.f7.body.getD .skip) (kvlaw_RefinesUpTo.RV R) [] 2000) [(0, [])] [(0, .slice script_b script_l script_c)] w := by kernel_rfl
theorem kvlaw_RefinesUpTo.B0_sound {R : Int → World → Prop}  (script_b : Option Addr) (script_l script_c : Nat) (w : World) (h : kvlaw_RefinesUpTo.B0 script_b script_l script_c w   R) :
    KW Try.prog 7 11 (kvlaw_RefinesUpTo.RV R) ([(0, [])].map (toItem (Try.f7.body.getD .skip))) [(0, .slice script_b script_l script_c)] w := by
  exact block_spec Try.func7 Try.mixed stops_nil (Eq.mp (kvlaw_RefinesUpTo.B0_eq script_b script_l script_c w   R ) h)
theorem kvlaw_RefinesUpTo.sound (script_b : Option Addr) (script_l script_c : Nat) (w : World) (R : Int → World → Prop) (h : kvlaw_RefinesUpTo.B0 script_b script_l script_c w R) : kvlaw_RefinesUpTo.Call script_b script_l script_c w R := by
  have hc := calls_of_block (args := #[.slice script_b script_l script_c]) Try.func7 (body := (Try.f7.body.getD .skip)) (by kernel_rfl) (by kernel_rfl) (args_slot _) (kvlaw_RefinesUpTo.B0_sound script_b script_l script_c w h)
  exact hc.mono fun e w' he => by
    obtain ⟨v, rfl, hv⟩ := he
    exact kvlaw_RefinesUpTo.RV_elim hv
def kvlaw_walk.B6 (script_b : Option Addr) (script_l script_c : Nat) (quiet lemmas : Bool) (x m0 : Option Addr) (i : Int) (w : World) (N1 : Option Addr → Nat → Nat → Bool → Bool → Option Addr → Option Addr → Int → World → Prop)  (R : Int → Int → World → Prop) : Prop :=
  N1 script_b script_l script_c quiet lemmas x m0 (IntKind.i64.wrap (i + (1 : Int))) w
theorem kvlaw_walk.B6_eq (script_b : Option Addr) (script_l script_c : Nat) (quiet lemmas : Bool) (x m0 : Option Addr) (i : Int) (w : World) (N1 : Option Addr → Nat → Nat → Bool → Bool → Option Addr → Option Addr → Int → World → Prop)  (R : Int → Int → World → Prop)  :
    (
  N1 script_b script_l script_c quiet lemmas x m0 (IntKind.i64.wrap (i + (1 : Int))) w) = kstep Try.prog 98 Try.f8.results.toList (Try.f8.body.getD .skip) (kvlaw_walk.RV R) (kvc Try.prog 98 Try.f8.results.toList (Try.f8.body.getD .skip) (kvlaw_walk.RV R) [([(0, [1, 1, 1, 1, 0, 1, 0, 0]), (2, [1, 1, 1, 1, 0, 1, 0, 0]), (1, [0]), (0, [1, 1, 1, 1, 1])], fun σ w => dL (slotOf σ 0) fun script_b_ script_l_ script_c_ => dB (slotOf σ 1) fun quiet_ => dB (slotOf σ 2) fun lemmas_ => dP (slotOf σ 8) fun x_ => dP (slotOf σ 9) fun m0_ => dI .i64 (slotOf σ 11) fun i_ => N1 script_b_ script_l_ script_c_ quiet_ lemmas_ x_ m0_ i_ w)] 2000) [(0, [1, 1, 1, 1, 0, 1, 0, 0, 1, 1]), (2, [1, 1, 1, 1, 0, 1, 0, 0]), (1, [0]), (0, [1, 1, 1, 1, 1])] [(0, .slice script_b script_l script_c), (1, .bool quiet), (2, .bool lemmas), (8, .pointer x), (9, .pointer m0), (11, .int .i64 i)] w := by kernel_rfl
theorem kvlaw_walk.B6_sound {R : Int → Int → World → Prop} {N1 : Option Addr → Nat → Nat → Bool → Bool → Option Addr → Option Addr → Int → World → Prop} (hN1 : ∀ script_b script_l script_c quiet lemmas x m0 i w, N1 script_b script_l script_c quiet lemmas x m0 i w → KW Try.prog 8 98 (kvlaw_walk.RV R) ([(0, [1, 1, 1, 1, 0, 1, 0, 0]), (2, [1, 1, 1, 1, 0, 1, 0, 0]), (1, [0]), (0, [1, 1, 1, 1, 1])].map (toItem (Try.f8.body.getD .skip))) [(0, .slice script_b script_l script_c), (1, .bool quiet), (2, .bool lemmas), (8, .pointer x), (9, .pointer m0), (11, .int .i64 i)] w) (script_b : Option Addr) (script_l script_c : Nat) (quiet lemmas : Bool) (x m0 : Option Addr) (i : Int) (w : World) (h : kvlaw_walk.B6 script_b script_l script_c quiet lemmas x m0 i w N1  R) :
    KW Try.prog 8 98 (kvlaw_walk.RV R) ([(0, [1, 1, 1, 1, 0, 1, 0, 0, 1, 1]), (2, [1, 1, 1, 1, 0, 1, 0, 0]), (1, [0]), (0, [1, 1, 1, 1, 1])].map (toItem (Try.f8.body.getD .skip))) [(0, .slice script_b script_l script_c), (1, .bool quiet), (2, .bool lemmas), (8, .pointer x), (9, .pointer m0), (11, .int .i64 i)] w := by
  exact block_spec Try.func8 Try.mixed (stops_cons (fun σ w h => by
      obtain ⟨script_b_, script_l_, script_c_, e0, h⟩ := dL_elim h
      obtain ⟨quiet_, e1, h⟩ := dB_elim h
      obtain ⟨lemmas_, e2, h⟩ := dB_elim h
      obtain ⟨x_, e3, h⟩ := dP_elim h
      obtain ⟨m0_, e4, h⟩ := dP_elim h
      obtain ⟨i_, e5, h⟩ := dI_elim h
      exact (hN1 script_b_ script_l_ script_c_ quiet_ lemmas_ x_ m0_ i_ w h).weaken (Sub.cons (Sub.cons (Sub.cons (Sub.cons (Sub.cons (Sub.cons (Sub.nil _) e5) e4) e3) e2) e1) e0)) stops_nil) (Eq.mp (kvlaw_walk.B6_eq script_b script_l script_c quiet lemmas x m0 i w N1  R ) h)
def kvlaw_walk.B5 (script_b : Option Addr) (script_l script_c : Nat) (quiet lemmas : Bool) (x m0 : Option Addr) (i : Int) (o : Nat) (was : ByteArray) (nums : Nat) (w : World) (N1 : Option Addr → Nat → Nat → Bool → Bool → Option Addr → Option Addr → Int → World → Prop)  (R : Int → Int → World → Prop) : Prop :=
  Bm lemmas (
    LdI .i64 ⟨o, 0, none⟩ w fun x85_0 =>
    LdI .i64 ⟨o, 1, none⟩ w fun x85_1 =>
    LdI .i64 ⟨o, 2, none⟩ w fun x85_2 =>
    LdI .i64 ⟨o, 3, none⟩ w fun x85_3 =>
    LdS ⟨o, 4, none⟩ w fun x85_4 =>
    LdS ⟨o, 5, none⟩ w fun x85_5 =>
    LdI .i64 ⟨nums, 0, none⟩ w fun x87_0 =>
    LdI .i64 ⟨nums, 1, none⟩ w fun x87_1 =>
    LdI .i64 ⟨nums, 2, none⟩ w fun x87_2 =>
    kvlaw_Lemma.Call x x85_0 x85_1 x85_2 x85_3 x85_4 x85_5 was x87_0 x87_1 x87_2 w fun r88 w1 =>
    Bm (!r88) (
      R i i w1) (
      kvlaw_walk.B6 script_b script_l script_c quiet lemmas x m0 i w1 N1 R)) (
    kvlaw_walk.B6 script_b script_l script_c quiet lemmas x m0 i w N1 R)
theorem kvlaw_walk.B5_eq (script_b : Option Addr) (script_l script_c : Nat) (quiet lemmas : Bool) (x m0 : Option Addr) (i : Int) (o : Nat) (was : ByteArray) (nums : Nat) (w : World) (N1 : Option Addr → Nat → Nat → Bool → Bool → Option Addr → Option Addr → Int → World → Prop)  (R : Int → Int → World → Prop) (sB6 : Option Addr → Nat → Nat → Bool → Bool → Option Addr → Option Addr → Int → World → Prop) :
    (
  Bm lemmas (
    LdI .i64 ⟨o, 0, none⟩ w fun x85_0 =>
    LdI .i64 ⟨o, 1, none⟩ w fun x85_1 =>
    LdI .i64 ⟨o, 2, none⟩ w fun x85_2 =>
    LdI .i64 ⟨o, 3, none⟩ w fun x85_3 =>
    LdS ⟨o, 4, none⟩ w fun x85_4 =>
    LdS ⟨o, 5, none⟩ w fun x85_5 =>
    LdI .i64 ⟨nums, 0, none⟩ w fun x87_0 =>
    LdI .i64 ⟨nums, 1, none⟩ w fun x87_1 =>
    LdI .i64 ⟨nums, 2, none⟩ w fun x87_2 =>
    kvlaw_Lemma.Call x x85_0 x85_1 x85_2 x85_3 x85_4 x85_5 was x87_0 x87_1 x87_2 w fun r88 w1 =>
    Bm (!r88) (
      R i i w1) (
      sB6 script_b script_l script_c quiet lemmas x m0 i w1)) (
    sB6 script_b script_l script_c quiet lemmas x m0 i w)) = kstep Try.prog 98 Try.f8.results.toList (Try.f8.body.getD .skip) (kvlaw_walk.RV R) (kvc Try.prog 98 Try.f8.results.toList (Try.f8.body.getD .skip) (kvlaw_walk.RV R) [([(0, [1, 1, 1, 1, 0, 1, 0, 0, 1, 1]), (2, [1, 1, 1, 1, 0, 1, 0, 0]), (1, [0]), (0, [1, 1, 1, 1, 1])], fun σ w => dL (slotOf σ 0) fun script_b_ script_l_ script_c_ => dB (slotOf σ 1) fun quiet_ => dB (slotOf σ 2) fun lemmas_ => dP (slotOf σ 8) fun x_ => dP (slotOf σ 9) fun m0_ => dI .i64 (slotOf σ 11) fun i_ => sB6 script_b_ script_l_ script_c_ quiet_ lemmas_ x_ m0_ i_ w)] 2000) [(0, [1, 1, 1, 1, 0, 1, 0, 0, 1, 0, 0, 1, 1, 1, 1, 1, 1, 1, 1]), (1, [1]), (0, [1, 1, 1, 1, 0, 1, 0, 0, 1, 1]), (2, [1, 1, 1, 1, 0, 1, 0, 0]), (1, [0]), (0, [1, 1, 1, 1, 1])] [(0, .slice script_b script_l script_c), (1, .bool quiet), (2, .bool lemmas), (8, .pointer x), (9, .pointer m0), (11, .int .i64 i), (12, .pointer (some ⟨o, 0, none⟩)), (13, .string was), (14, .pointer (some ⟨nums, 0, none⟩))] w := by kernel_rfl
theorem kvlaw_walk.B5_sound {R : Int → Int → World → Prop} {N1 : Option Addr → Nat → Nat → Bool → Bool → Option Addr → Option Addr → Int → World → Prop} (hN1 : ∀ script_b script_l script_c quiet lemmas x m0 i w, N1 script_b script_l script_c quiet lemmas x m0 i w → KW Try.prog 8 98 (kvlaw_walk.RV R) ([(0, [1, 1, 1, 1, 0, 1, 0, 0]), (2, [1, 1, 1, 1, 0, 1, 0, 0]), (1, [0]), (0, [1, 1, 1, 1, 1])].map (toItem (Try.f8.body.getD .skip))) [(0, .slice script_b script_l script_c), (1, .bool quiet), (2, .bool lemmas), (8, .pointer x), (9, .pointer m0), (11, .int .i64 i)] w) (script_b : Option Addr) (script_l script_c : Nat) (quiet lemmas : Bool) (x m0 : Option Addr) (i : Int) (o : Nat) (was : ByteArray) (nums : Nat) (w : World) (h : kvlaw_walk.B5 script_b script_l script_c quiet lemmas x m0 i o was nums w N1  R) :
    KW Try.prog 8 98 (kvlaw_walk.RV R) ([(0, [1, 1, 1, 1, 0, 1, 0, 0, 1, 0, 0, 1, 1, 1, 1, 1, 1, 1, 1]), (1, [1]), (0, [1, 1, 1, 1, 0, 1, 0, 0, 1, 1]), (2, [1, 1, 1, 1, 0, 1, 0, 0]), (1, [0]), (0, [1, 1, 1, 1, 1])].map (toItem (Try.f8.body.getD .skip))) [(0, .slice script_b script_l script_c), (1, .bool quiet), (2, .bool lemmas), (8, .pointer x), (9, .pointer m0), (11, .int .i64 i), (12, .pointer (some ⟨o, 0, none⟩)), (13, .string was), (14, .pointer (some ⟨nums, 0, none⟩))] w := by
  exact block_spec Try.func8 Try.mixed (stops_cons (fun σ w h => by
      obtain ⟨script_b_, script_l_, script_c_, e0, h⟩ := dL_elim h
      obtain ⟨quiet_, e1, h⟩ := dB_elim h
      obtain ⟨lemmas_, e2, h⟩ := dB_elim h
      obtain ⟨x_, e3, h⟩ := dP_elim h
      obtain ⟨m0_, e4, h⟩ := dP_elim h
      obtain ⟨i_, e5, h⟩ := dI_elim h
      exact (kvlaw_walk.B6_sound hN1 script_b_ script_l_ script_c_ quiet_ lemmas_ x_ m0_ i_ w h).weaken (Sub.cons (Sub.cons (Sub.cons (Sub.cons (Sub.cons (Sub.cons (Sub.nil _) e5) e4) e3) e2) e1) e0)) stops_nil) (Eq.mp (kvlaw_walk.B5_eq script_b script_l script_c quiet lemmas x m0 i o was nums w N1  R (fun script_b_ script_l_ script_c_ quiet_ lemmas_ x_ m0_ i_ w => kvlaw_walk.B6 script_b_ script_l_ script_c_ quiet_ lemmas_ x_ m0_ i_ w N1 R)) h)
def kvlaw_walk.B4 (script_b : Option Addr) (script_l script_c : Nat) (quiet lemmas : Bool) (x m0 : Option Addr) (i : Int) (o : Nat) (was : ByteArray) (nums : Nat) (same : Bool) (w : World) (N1 : Option Addr → Nat → Nat → Bool → Bool → Option Addr → Option Addr → Int → World → Prop)  (R : Int → Int → World → Prop) : Prop :=
  Bm (!same) (
    R i i w) (
    Bm (!quiet) (
      LdS ⟨o, 4, none⟩ w fun x77 =>
      kvlaw_Alike.Call x m0 x77 w fun r78 w1 =>
      Bm (!r78) (
        R i i w1) (
        kvlaw_walk.B5 script_b script_l script_c quiet lemmas x m0 i o was nums w1 N1 R)) (
      kvlaw_walk.B5 script_b script_l script_c quiet lemmas x m0 i o was nums w N1 R))
theorem kvlaw_walk.B4_eq (script_b : Option Addr) (script_l script_c : Nat) (quiet lemmas : Bool) (x m0 : Option Addr) (i : Int) (o : Nat) (was : ByteArray) (nums : Nat) (same : Bool) (w : World) (N1 : Option Addr → Nat → Nat → Bool → Bool → Option Addr → Option Addr → Int → World → Prop)  (R : Int → Int → World → Prop) (sB5 : Option Addr → Nat → Nat → Bool → Bool → Option Addr → Option Addr → Int → Nat → ByteArray → Nat → World → Prop) :
    (
  Bm (!same) (
    R i i w) (
    Bm (!quiet) (
      LdS ⟨o, 4, none⟩ w fun x77 =>
      kvlaw_Alike.Call x m0 x77 w fun r78 w1 =>
      Bm (!r78) (
        R i i w1) (
        sB5 script_b script_l script_c quiet lemmas x m0 i o was nums w1)) (
      sB5 script_b script_l script_c quiet lemmas x m0 i o was nums w))) = kstep Try.prog 98 Try.f8.results.toList (Try.f8.body.getD .skip) (kvlaw_walk.RV R) (kvc Try.prog 98 Try.f8.results.toList (Try.f8.body.getD .skip) (kvlaw_walk.RV R) [([(0, [1, 1, 1, 1, 0, 1, 0, 0, 1, 0, 0, 1, 1, 1, 1, 1, 1, 1, 1]), (1, [1]), (0, [1, 1, 1, 1, 0, 1, 0, 0, 1, 1]), (2, [1, 1, 1, 1, 0, 1, 0, 0]), (1, [0]), (0, [1, 1, 1, 1, 1])], fun σ w => dL (slotOf σ 0) fun script_b_ script_l_ script_c_ => dB (slotOf σ 1) fun quiet_ => dB (slotOf σ 2) fun lemmas_ => dP (slotOf σ 8) fun x_ => dP (slotOf σ 9) fun m0_ => dI .i64 (slotOf σ 11) fun i_ => dK (slotOf σ 12) fun o_ => dS (slotOf σ 13) fun was_ => dK (slotOf σ 14) fun nums_ => sB5 script_b_ script_l_ script_c_ quiet_ lemmas_ x_ m0_ i_ o_ was_ nums_ w)] 2000) [(0, [1, 1, 1, 1, 0, 1, 0, 0, 1, 0, 0, 1, 1, 1, 1, 1, 1]), (1, [1]), (0, [1, 1, 1, 1, 0, 1, 0, 0, 1, 1]), (2, [1, 1, 1, 1, 0, 1, 0, 0]), (1, [0]), (0, [1, 1, 1, 1, 1])] [(0, .slice script_b script_l script_c), (1, .bool quiet), (2, .bool lemmas), (8, .pointer x), (9, .pointer m0), (11, .int .i64 i), (12, .pointer (some ⟨o, 0, none⟩)), (13, .string was), (14, .pointer (some ⟨nums, 0, none⟩)), (15, .bool same)] w := by kernel_rfl
theorem kvlaw_walk.B4_sound {R : Int → Int → World → Prop} {N1 : Option Addr → Nat → Nat → Bool → Bool → Option Addr → Option Addr → Int → World → Prop} (hN1 : ∀ script_b script_l script_c quiet lemmas x m0 i w, N1 script_b script_l script_c quiet lemmas x m0 i w → KW Try.prog 8 98 (kvlaw_walk.RV R) ([(0, [1, 1, 1, 1, 0, 1, 0, 0]), (2, [1, 1, 1, 1, 0, 1, 0, 0]), (1, [0]), (0, [1, 1, 1, 1, 1])].map (toItem (Try.f8.body.getD .skip))) [(0, .slice script_b script_l script_c), (1, .bool quiet), (2, .bool lemmas), (8, .pointer x), (9, .pointer m0), (11, .int .i64 i)] w) (script_b : Option Addr) (script_l script_c : Nat) (quiet lemmas : Bool) (x m0 : Option Addr) (i : Int) (o : Nat) (was : ByteArray) (nums : Nat) (same : Bool) (w : World) (h : kvlaw_walk.B4 script_b script_l script_c quiet lemmas x m0 i o was nums same w N1  R) :
    KW Try.prog 8 98 (kvlaw_walk.RV R) ([(0, [1, 1, 1, 1, 0, 1, 0, 0, 1, 0, 0, 1, 1, 1, 1, 1, 1]), (1, [1]), (0, [1, 1, 1, 1, 0, 1, 0, 0, 1, 1]), (2, [1, 1, 1, 1, 0, 1, 0, 0]), (1, [0]), (0, [1, 1, 1, 1, 1])].map (toItem (Try.f8.body.getD .skip))) [(0, .slice script_b script_l script_c), (1, .bool quiet), (2, .bool lemmas), (8, .pointer x), (9, .pointer m0), (11, .int .i64 i), (12, .pointer (some ⟨o, 0, none⟩)), (13, .string was), (14, .pointer (some ⟨nums, 0, none⟩)), (15, .bool same)] w := by
  exact block_spec Try.func8 Try.mixed (stops_cons (fun σ w h => by
      obtain ⟨script_b_, script_l_, script_c_, e0, h⟩ := dL_elim h
      obtain ⟨quiet_, e1, h⟩ := dB_elim h
      obtain ⟨lemmas_, e2, h⟩ := dB_elim h
      obtain ⟨x_, e3, h⟩ := dP_elim h
      obtain ⟨m0_, e4, h⟩ := dP_elim h
      obtain ⟨i_, e5, h⟩ := dI_elim h
      obtain ⟨o_, e6, h⟩ := dK_elim h
      obtain ⟨was_, e7, h⟩ := dS_elim h
      obtain ⟨nums_, e8, h⟩ := dK_elim h
      exact (kvlaw_walk.B5_sound hN1 script_b_ script_l_ script_c_ quiet_ lemmas_ x_ m0_ i_ o_ was_ nums_ w h).weaken (Sub.cons (Sub.cons (Sub.cons (Sub.cons (Sub.cons (Sub.cons (Sub.cons (Sub.cons (Sub.cons (Sub.nil _) e8) e7) e6) e5) e4) e3) e2) e1) e0)) stops_nil) (Eq.mp (kvlaw_walk.B4_eq script_b script_l script_c quiet lemmas x m0 i o was nums same w N1  R (fun script_b_ script_l_ script_c_ quiet_ lemmas_ x_ m0_ i_ o_ was_ nums_ w => kvlaw_walk.B5 script_b_ script_l_ script_c_ quiet_ lemmas_ x_ m0_ i_ o_ was_ nums_ w N1 R)) h)
def kvlaw_walk.B3 (script_b : Option Addr) (script_l script_c : Nat) (quiet lemmas : Bool) (x m0 : Option Addr) (i : Int) (o : Nat) (was : ByteArray) (nums : Nat) (w : World) (N1 : Option Addr → Nat → Nat → Bool → Bool → Option Addr → Option Addr → Int → World → Prop)  (R : Int → Int → World → Prop) : Prop :=
  LdI .i64 ⟨o, 0, none⟩ w fun x47 =>
  Bm (x47 == (4 : Int)) (
    kv_KV_Snapshot.Call x w fun r50 w1 =>
    kvm_KV_Snapshot.Call m0 w1 fun r52 w2 =>
    Bm (!(r50.toList == r52.toList)) (
      R i i w2) (
      kv_New.Call  w2 fun r58 w3 =>
      kvm_New.Call  w3 fun r59 w4 =>
      kvlaw_SameRestore.Call r58 r59 r50 w4 fun r63 w5 =>
      kvlaw_walk.B4 script_b script_l script_c quiet lemmas r58 r59 i o was nums r63 w5 N1 R)) (
    LdI .i64 ⟨o, 0, none⟩ w fun x66_0 =>
    LdI .i64 ⟨o, 1, none⟩ w fun x66_1 =>
    LdI .i64 ⟨o, 2, none⟩ w fun x66_2 =>
    LdI .i64 ⟨o, 3, none⟩ w fun x66_3 =>
    LdS ⟨o, 4, none⟩ w fun x66_4 =>
    LdS ⟨o, 5, none⟩ w fun x66_5 =>
    kvlaw_Play.Call x m0 x66_0 x66_1 x66_2 x66_3 x66_4 x66_5 w fun r67 w6 =>
    kvlaw_walk.B4 script_b script_l script_c quiet lemmas x m0 i o was nums r67 w6 N1 R)
theorem kvlaw_walk.B3_eq (script_b : Option Addr) (script_l script_c : Nat) (quiet lemmas : Bool) (x m0 : Option Addr) (i : Int) (o : Nat) (was : ByteArray) (nums : Nat) (w : World) (N1 : Option Addr → Nat → Nat → Bool → Bool → Option Addr → Option Addr → Int → World → Prop)  (R : Int → Int → World → Prop) (sB4 : Option Addr → Nat → Nat → Bool → Bool → Option Addr → Option Addr → Int → Nat → ByteArray → Nat → Bool → World → Prop) :
    (
  LdI .i64 ⟨o, 0, none⟩ w fun x47 =>
  Bm (x47 == (4 : Int)) (
    kv_KV_Snapshot.Call x w fun r50 w1 =>
    kvm_KV_Snapshot.Call m0 w1 fun r52 w2 =>
    Bm (!(r50.toList == r52.toList)) (
      R i i w2) (
      kv_New.Call  w2 fun r58 w3 =>
      kvm_New.Call  w3 fun r59 w4 =>
      kvlaw_SameRestore.Call r58 r59 r50 w4 fun r63 w5 =>
      sB4 script_b script_l script_c quiet lemmas r58 r59 i o was nums r63 w5)) (
    LdI .i64 ⟨o, 0, none⟩ w fun x66_0 =>
    LdI .i64 ⟨o, 1, none⟩ w fun x66_1 =>
    LdI .i64 ⟨o, 2, none⟩ w fun x66_2 =>
    LdI .i64 ⟨o, 3, none⟩ w fun x66_3 =>
    LdS ⟨o, 4, none⟩ w fun x66_4 =>
    LdS ⟨o, 5, none⟩ w fun x66_5 =>
    kvlaw_Play.Call x m0 x66_0 x66_1 x66_2 x66_3 x66_4 x66_5 w fun r67 w6 =>
    sB4 script_b script_l script_c quiet lemmas x m0 i o was nums r67 w6)) = kstep Try.prog 98 Try.f8.results.toList (Try.f8.body.getD .skip) (kvlaw_walk.RV R) (kvc Try.prog 98 Try.f8.results.toList (Try.f8.body.getD .skip) (kvlaw_walk.RV R) [([(0, [1, 1, 1, 1, 0, 1, 0, 0, 1, 0, 0, 1, 1, 1, 1, 1, 1]), (1, [1]), (0, [1, 1, 1, 1, 0, 1, 0, 0, 1, 1]), (2, [1, 1, 1, 1, 0, 1, 0, 0]), (1, [0]), (0, [1, 1, 1, 1, 1])], fun σ w => dL (slotOf σ 0) fun script_b_ script_l_ script_c_ => dB (slotOf σ 1) fun quiet_ => dB (slotOf σ 2) fun lemmas_ => dP (slotOf σ 8) fun x_ => dP (slotOf σ 9) fun m0_ => dI .i64 (slotOf σ 11) fun i_ => dK (slotOf σ 12) fun o_ => dS (slotOf σ 13) fun was_ => dK (slotOf σ 14) fun nums_ => dB (slotOf σ 15) fun same_ => sB4 script_b_ script_l_ script_c_ quiet_ lemmas_ x_ m0_ i_ o_ was_ nums_ same_ w)] 2000) [(0, [1, 1, 1, 1, 0, 1, 0, 0, 1, 0, 0, 1, 1, 1, 1]), (1, [1]), (0, [1, 1, 1, 1, 0, 1, 0, 0, 1, 1]), (2, [1, 1, 1, 1, 0, 1, 0, 0]), (1, [0]), (0, [1, 1, 1, 1, 1])] [(0, .slice script_b script_l script_c), (1, .bool quiet), (2, .bool lemmas), (8, .pointer x), (9, .pointer m0), (11, .int .i64 i), (12, .pointer (some ⟨o, 0, none⟩)), (13, .string was), (14, .pointer (some ⟨nums, 0, none⟩))] w := by kernel_rfl
theorem kvlaw_walk.B3_sound {R : Int → Int → World → Prop} {N1 : Option Addr → Nat → Nat → Bool → Bool → Option Addr → Option Addr → Int → World → Prop} (hN1 : ∀ script_b script_l script_c quiet lemmas x m0 i w, N1 script_b script_l script_c quiet lemmas x m0 i w → KW Try.prog 8 98 (kvlaw_walk.RV R) ([(0, [1, 1, 1, 1, 0, 1, 0, 0]), (2, [1, 1, 1, 1, 0, 1, 0, 0]), (1, [0]), (0, [1, 1, 1, 1, 1])].map (toItem (Try.f8.body.getD .skip))) [(0, .slice script_b script_l script_c), (1, .bool quiet), (2, .bool lemmas), (8, .pointer x), (9, .pointer m0), (11, .int .i64 i)] w) (script_b : Option Addr) (script_l script_c : Nat) (quiet lemmas : Bool) (x m0 : Option Addr) (i : Int) (o : Nat) (was : ByteArray) (nums : Nat) (w : World) (h : kvlaw_walk.B3 script_b script_l script_c quiet lemmas x m0 i o was nums w N1  R) :
    KW Try.prog 8 98 (kvlaw_walk.RV R) ([(0, [1, 1, 1, 1, 0, 1, 0, 0, 1, 0, 0, 1, 1, 1, 1]), (1, [1]), (0, [1, 1, 1, 1, 0, 1, 0, 0, 1, 1]), (2, [1, 1, 1, 1, 0, 1, 0, 0]), (1, [0]), (0, [1, 1, 1, 1, 1])].map (toItem (Try.f8.body.getD .skip))) [(0, .slice script_b script_l script_c), (1, .bool quiet), (2, .bool lemmas), (8, .pointer x), (9, .pointer m0), (11, .int .i64 i), (12, .pointer (some ⟨o, 0, none⟩)), (13, .string was), (14, .pointer (some ⟨nums, 0, none⟩))] w := by
  exact block_spec Try.func8 Try.mixed (stops_cons (fun σ w h => by
      obtain ⟨script_b_, script_l_, script_c_, e0, h⟩ := dL_elim h
      obtain ⟨quiet_, e1, h⟩ := dB_elim h
      obtain ⟨lemmas_, e2, h⟩ := dB_elim h
      obtain ⟨x_, e3, h⟩ := dP_elim h
      obtain ⟨m0_, e4, h⟩ := dP_elim h
      obtain ⟨i_, e5, h⟩ := dI_elim h
      obtain ⟨o_, e6, h⟩ := dK_elim h
      obtain ⟨was_, e7, h⟩ := dS_elim h
      obtain ⟨nums_, e8, h⟩ := dK_elim h
      obtain ⟨same_, e9, h⟩ := dB_elim h
      exact (kvlaw_walk.B4_sound hN1 script_b_ script_l_ script_c_ quiet_ lemmas_ x_ m0_ i_ o_ was_ nums_ same_ w h).weaken (Sub.cons (Sub.cons (Sub.cons (Sub.cons (Sub.cons (Sub.cons (Sub.cons (Sub.cons (Sub.cons (Sub.cons (Sub.nil _) e9) e8) e7) e6) e5) e4) e3) e2) e1) e0)) stops_nil) (Eq.mp (kvlaw_walk.B3_eq script_b script_l script_c quiet lemmas x m0 i o was nums w N1  R (fun script_b_ script_l_ script_c_ quiet_ lemmas_ x_ m0_ i_ o_ was_ nums_ same_ w => kvlaw_walk.B4 script_b_ script_l_ script_c_ quiet_ lemmas_ x_ m0_ i_ o_ was_ nums_ same_ w N1 R)) h)
def kvlaw_walk.B2 (script_b : Option Addr) (script_l script_c : Nat) (quiet lemmas : Bool) (x m0 : Option Addr) (i : Int) (t34 : Bool) (w : World) (N1 : Option Addr → Nat → Nat → Bool → Bool → Option Addr → Option Addr → Int → World → Prop)  (R : Int → Int → World → Prop) : Prop :=
  Bm t34 (
    Pn script_b fun a =>
    (0 ≤ i ∧ i < ((script_l : Nat) : Int)) ∧
    LdI .i64 (Addr.add a (i.toNat * 6)) w fun x40_0 =>
    LdI .i64 ((Addr.add a (i.toNat * 6)).add 1) w fun x40_1 =>
    LdI .i64 ((Addr.add a (i.toNat * 6)).add 2) w fun x40_2 =>
    LdI .i64 ((Addr.add a (i.toNat * 6)).add 3) w fun x40_3 =>
    LdS ((Addr.add a (i.toNat * 6)).add 4) w fun x40_4 =>
    LdS ((Addr.add a (i.toNat * 6)).add 5) w fun x40_5 =>
    New (.cells #[.int .i64 (0 : Int), .int .i64 (0 : Int), .int .i64 (0 : Int), .int .i64 (0 : Int), .string (ByteArray.mk #[]), .string (ByteArray.mk #[])] 33) w fun o_ w1 =>
    Sts [.int .i64 x40_0, .int .i64 x40_1, .int .i64 x40_2, .int .i64 x40_3, .string x40_4, .string x40_5] ⟨o_, 0, none⟩ 0 w1 fun w2 =>
    New (.cells #[.int .i64 (0 : Int), .int .i64 (0 : Int), .int .i64 (0 : Int)] 34) w2 fun nums_ w3 =>
    Bm lemmas (
      kv_KV_Snapshot.Call x w3 fun r43 w4 =>
      kvlaw_Nums.Call x w4 fun r45_0 r45_1 r45_2 w5 =>
      Sts [.int .i64 r45_0, .int .i64 r45_1, .int .i64 r45_2] ⟨nums_, 0, none⟩ 0 w5 fun w6 =>
      kvlaw_walk.B3 script_b script_l script_c quiet lemmas x m0 i o_ r43 nums_ w6 N1 R) (
      kvlaw_walk.B3 script_b script_l script_c quiet lemmas x m0 i o_ (ByteArray.mk #[]) nums_ w3 N1 R)) (
    Bm (decide (((script_l : Nat) : Int) < (4398046511104 : Int))) (
      R (-1 : Int) ((script_l : Nat) : Int) w) (
      R (-1 : Int) (4398046511104 : Int) w))
theorem kvlaw_walk.B2_eq (script_b : Option Addr) (script_l script_c : Nat) (quiet lemmas : Bool) (x m0 : Option Addr) (i : Int) (t34 : Bool) (w : World) (N1 : Option Addr → Nat → Nat → Bool → Bool → Option Addr → Option Addr → Int → World → Prop)  (R : Int → Int → World → Prop) (sB3 : Option Addr → Nat → Nat → Bool → Bool → Option Addr → Option Addr → Int → Nat → ByteArray → Nat → World → Prop) :
    (
  Bm t34 (
    Pn script_b fun a =>
    (0 ≤ i ∧ i < ((script_l : Nat) : Int)) ∧
    LdI .i64 (Addr.add a (i.toNat * 6)) w fun x40_0 =>
    LdI .i64 ((Addr.add a (i.toNat * 6)).add 1) w fun x40_1 =>
    LdI .i64 ((Addr.add a (i.toNat * 6)).add 2) w fun x40_2 =>
    LdI .i64 ((Addr.add a (i.toNat * 6)).add 3) w fun x40_3 =>
    LdS ((Addr.add a (i.toNat * 6)).add 4) w fun x40_4 =>
    LdS ((Addr.add a (i.toNat * 6)).add 5) w fun x40_5 =>
    New (.cells #[.int .i64 (0 : Int), .int .i64 (0 : Int), .int .i64 (0 : Int), .int .i64 (0 : Int), .string (ByteArray.mk #[]), .string (ByteArray.mk #[])] 33) w fun o_ w1 =>
    Sts [.int .i64 x40_0, .int .i64 x40_1, .int .i64 x40_2, .int .i64 x40_3, .string x40_4, .string x40_5] ⟨o_, 0, none⟩ 0 w1 fun w2 =>
    New (.cells #[.int .i64 (0 : Int), .int .i64 (0 : Int), .int .i64 (0 : Int)] 34) w2 fun nums_ w3 =>
    Bm lemmas (
      kv_KV_Snapshot.Call x w3 fun r43 w4 =>
      kvlaw_Nums.Call x w4 fun r45_0 r45_1 r45_2 w5 =>
      Sts [.int .i64 r45_0, .int .i64 r45_1, .int .i64 r45_2] ⟨nums_, 0, none⟩ 0 w5 fun w6 =>
      sB3 script_b script_l script_c quiet lemmas x m0 i o_ r43 nums_ w6) (
      sB3 script_b script_l script_c quiet lemmas x m0 i o_ (ByteArray.mk #[]) nums_ w3)) (
    Bm (decide (((script_l : Nat) : Int) < (4398046511104 : Int))) (
      R (-1 : Int) ((script_l : Nat) : Int) w) (
      R (-1 : Int) (4398046511104 : Int) w))) = kstep Try.prog 98 Try.f8.results.toList (Try.f8.body.getD .skip) (kvlaw_walk.RV R) (kvc Try.prog 98 Try.f8.results.toList (Try.f8.body.getD .skip) (kvlaw_walk.RV R) [([(0, [1, 1, 1, 1, 0, 1, 0, 0, 1, 0, 0, 1, 1, 1, 1]), (1, [1]), (0, [1, 1, 1, 1, 0, 1, 0, 0, 1, 1]), (2, [1, 1, 1, 1, 0, 1, 0, 0]), (1, [0]), (0, [1, 1, 1, 1, 1])], fun σ w => dL (slotOf σ 0) fun script_b_ script_l_ script_c_ => dB (slotOf σ 1) fun quiet_ => dB (slotOf σ 2) fun lemmas_ => dP (slotOf σ 8) fun x_ => dP (slotOf σ 9) fun m0_ => dI .i64 (slotOf σ 11) fun i_ => dK (slotOf σ 12) fun o_ => dS (slotOf σ 13) fun was_ => dK (slotOf σ 14) fun nums_ => sB3 script_b_ script_l_ script_c_ quiet_ lemmas_ x_ m0_ i_ o_ was_ nums_ w)] 2000) [(0, [1, 1, 1, 1, 0, 1, 0, 0, 0, 1]), (0, [1, 1, 1, 1, 0, 1, 0, 0, 1]), (2, [1, 1, 1, 1, 0, 1, 0, 0]), (1, [0]), (0, [1, 1, 1, 1, 1])] [(0, .slice script_b script_l script_c), (1, .bool quiet), (2, .bool lemmas), (8, .pointer x), (9, .pointer m0), (11, .int .i64 i), (34, .bool t34)] w := by kernel_rfl
theorem kvlaw_walk.B2_sound {R : Int → Int → World → Prop} {N1 : Option Addr → Nat → Nat → Bool → Bool → Option Addr → Option Addr → Int → World → Prop} (hN1 : ∀ script_b script_l script_c quiet lemmas x m0 i w, N1 script_b script_l script_c quiet lemmas x m0 i w → KW Try.prog 8 98 (kvlaw_walk.RV R) ([(0, [1, 1, 1, 1, 0, 1, 0, 0]), (2, [1, 1, 1, 1, 0, 1, 0, 0]), (1, [0]), (0, [1, 1, 1, 1, 1])].map (toItem (Try.f8.body.getD .skip))) [(0, .slice script_b script_l script_c), (1, .bool quiet), (2, .bool lemmas), (8, .pointer x), (9, .pointer m0), (11, .int .i64 i)] w) (script_b : Option Addr) (script_l script_c : Nat) (quiet lemmas : Bool) (x m0 : Option Addr) (i : Int) (t34 : Bool) (w : World) (h : kvlaw_walk.B2 script_b script_l script_c quiet lemmas x m0 i t34 w N1  R) :
    KW Try.prog 8 98 (kvlaw_walk.RV R) ([(0, [1, 1, 1, 1, 0, 1, 0, 0, 0, 1]), (0, [1, 1, 1, 1, 0, 1, 0, 0, 1]), (2, [1, 1, 1, 1, 0, 1, 0, 0]), (1, [0]), (0, [1, 1, 1, 1, 1])].map (toItem (Try.f8.body.getD .skip))) [(0, .slice script_b script_l script_c), (1, .bool quiet), (2, .bool lemmas), (8, .pointer x), (9, .pointer m0), (11, .int .i64 i), (34, .bool t34)] w := by
  exact block_spec Try.func8 Try.mixed (stops_cons (fun σ w h => by
      obtain ⟨script_b_, script_l_, script_c_, e0, h⟩ := dL_elim h
      obtain ⟨quiet_, e1, h⟩ := dB_elim h
      obtain ⟨lemmas_, e2, h⟩ := dB_elim h
      obtain ⟨x_, e3, h⟩ := dP_elim h
      obtain ⟨m0_, e4, h⟩ := dP_elim h
      obtain ⟨i_, e5, h⟩ := dI_elim h
      obtain ⟨o_, e6, h⟩ := dK_elim h
      obtain ⟨was_, e7, h⟩ := dS_elim h
      obtain ⟨nums_, e8, h⟩ := dK_elim h
      exact (kvlaw_walk.B3_sound hN1 script_b_ script_l_ script_c_ quiet_ lemmas_ x_ m0_ i_ o_ was_ nums_ w h).weaken (Sub.cons (Sub.cons (Sub.cons (Sub.cons (Sub.cons (Sub.cons (Sub.cons (Sub.cons (Sub.cons (Sub.nil _) e8) e7) e6) e5) e4) e3) e2) e1) e0)) stops_nil) (Eq.mp (kvlaw_walk.B2_eq script_b script_l script_c quiet lemmas x m0 i t34 w N1  R (fun script_b_ script_l_ script_c_ quiet_ lemmas_ x_ m0_ i_ o_ was_ nums_ w => kvlaw_walk.B3 script_b_ script_l_ script_c_ quiet_ lemmas_ x_ m0_ i_ o_ was_ nums_ w N1 R)) h)
def kvlaw_walk.L1b (script_b : Option Addr) (script_l script_c : Nat) (quiet lemmas : Bool) (x m0 : Option Addr) (i : Int) (w : World)  (N1 : Option Addr → Nat → Nat → Bool → Bool → Option Addr → Option Addr → Int → World → Prop) (R : Int → Int → World → Prop) : Prop :=
  Bm (decide (i < ((script_l : Nat) : Int))) (
    kvlaw_walk.B2 script_b script_l script_c quiet lemmas x m0 i (decide (i < (4398046511104 : Int))) w N1 R) (
    kvlaw_walk.B2 script_b script_l script_c quiet lemmas x m0 i false w N1 R)
theorem kvlaw_walk.L1b_eq (script_b : Option Addr) (script_l script_c : Nat) (quiet lemmas : Bool) (x m0 : Option Addr) (i : Int) (w : World)  (N1 : Option Addr → Nat → Nat → Bool → Bool → Option Addr → Option Addr → Int → World → Prop) (R : Int → Int → World → Prop) (sB2 : Option Addr → Nat → Nat → Bool → Bool → Option Addr → Option Addr → Int → Bool → World → Prop) :
    (
  Bm (decide (i < ((script_l : Nat) : Int))) (
    sB2 script_b script_l script_c quiet lemmas x m0 i (decide (i < (4398046511104 : Int))) w) (
    sB2 script_b script_l script_c quiet lemmas x m0 i false w)) = kstep Try.prog 98 Try.f8.results.toList (Try.f8.body.getD .skip) (kvlaw_walk.RV R) (kvc Try.prog 98 Try.f8.results.toList (Try.f8.body.getD .skip) (kvlaw_walk.RV R) [([(0, [1, 1, 1, 1, 0, 1, 0, 0, 0, 1]), (0, [1, 1, 1, 1, 0, 1, 0, 0, 1]), (2, [1, 1, 1, 1, 0, 1, 0, 0]), (1, [0]), (0, [1, 1, 1, 1, 1])], fun σ w => dL (slotOf σ 0) fun script_b_ script_l_ script_c_ => dB (slotOf σ 1) fun quiet_ => dB (slotOf σ 2) fun lemmas_ => dP (slotOf σ 8) fun x_ => dP (slotOf σ 9) fun m0_ => dI .i64 (slotOf σ 11) fun i_ => dB (slotOf σ 34) fun t34_ => sB2 script_b_ script_l_ script_c_ quiet_ lemmas_ x_ m0_ i_ t34_ w)] 2000) [(0, [1, 1, 1, 1, 0, 1, 0, 0]), (2, [1, 1, 1, 1, 0, 1, 0, 0]), (1, [0]), (0, [1, 1, 1, 1, 1])] [(0, .slice script_b script_l script_c), (1, .bool quiet), (2, .bool lemmas), (8, .pointer x), (9, .pointer m0), (11, .int .i64 i)] w := by kernel_rfl
theorem kvlaw_walk.L1b_sound {R : Int → Int → World → Prop} {N1 : Option Addr → Nat → Nat → Bool → Bool → Option Addr → Option Addr → Int → World → Prop} (hN1 : ∀ script_b script_l script_c quiet lemmas x m0 i w, N1 script_b script_l script_c quiet lemmas x m0 i w → KW Try.prog 8 98 (kvlaw_walk.RV R) ([(0, [1, 1, 1, 1, 0, 1, 0, 0]), (2, [1, 1, 1, 1, 0, 1, 0, 0]), (1, [0]), (0, [1, 1, 1, 1, 1])].map (toItem (Try.f8.body.getD .skip))) [(0, .slice script_b script_l script_c), (1, .bool quiet), (2, .bool lemmas), (8, .pointer x), (9, .pointer m0), (11, .int .i64 i)] w) (script_b : Option Addr) (script_l script_c : Nat) (quiet lemmas : Bool) (x m0 : Option Addr) (i : Int) (w : World) (h : kvlaw_walk.L1b script_b script_l script_c quiet lemmas x m0 i w  N1 R) :
    KW Try.prog 8 98 (kvlaw_walk.RV R) ([(0, [1, 1, 1, 1, 0, 1, 0, 0]), (2, [1, 1, 1, 1, 0, 1, 0, 0]), (1, [0]), (0, [1, 1, 1, 1, 1])].map (toItem (Try.f8.body.getD .skip))) [(0, .slice script_b script_l script_c), (1, .bool quiet), (2, .bool lemmas), (8, .pointer x), (9, .pointer m0), (11, .int .i64 i)] w := by
  exact block_spec Try.func8 Try.mixed (stops_cons (fun σ w h => by
      obtain ⟨script_b_, script_l_, script_c_, e0, h⟩ := dL_elim h
      obtain ⟨quiet_, e1, h⟩ := dB_elim h
      obtain ⟨lemmas_, e2, h⟩ := dB_elim h
      obtain ⟨x_, e3, h⟩ := dP_elim h
      obtain ⟨m0_, e4, h⟩ := dP_elim h
      obtain ⟨i_, e5, h⟩ := dI_elim h
      obtain ⟨t34_, e6, h⟩ := dB_elim h
      exact (kvlaw_walk.B2_sound hN1 script_b_ script_l_ script_c_ quiet_ lemmas_ x_ m0_ i_ t34_ w h).weaken (Sub.cons (Sub.cons (Sub.cons (Sub.cons (Sub.cons (Sub.cons (Sub.cons (Sub.nil _) e6) e5) e4) e3) e2) e1) e0)) stops_nil) (Eq.mp (kvlaw_walk.L1b_eq script_b script_l script_c quiet lemmas x m0 i w  N1 R (fun script_b_ script_l_ script_c_ quiet_ lemmas_ x_ m0_ i_ t34_ w => kvlaw_walk.B2 script_b_ script_l_ script_c_ quiet_ lemmas_ x_ m0_ i_ t34_ w N1 R)) h)
def kvlaw_walk.L1 (script_b : Option Addr) (script_l script_c : Nat) (quiet lemmas : Bool) (x m0 : Option Addr) (i : Int) (w : World)  (R : Int → Int → World → Prop) : Prop :=
  ∃ (I : Nat → Option Addr → Nat → Nat → Bool → Bool → Option Addr → Option Addr → Int → World → Prop) (m : Nat), I m script_b script_l script_c quiet lemmas x m0 i w ∧ ∀ m script_b script_l script_c quiet lemmas x m0 i w, I m script_b script_l script_c quiet lemmas x m0 i w → kvlaw_walk.L1b script_b script_l script_c quiet lemmas x m0 i w  (fun script_b' script_l' script_c' quiet' lemmas' x' m0' i' w' => ∃ m', m' < m ∧ I m' script_b' script_l' script_c' quiet' lemmas' x' m0' i' w') R
theorem kvlaw_walk.L1_sound {R : Int → Int → World → Prop}  (script_b : Option Addr) (script_l script_c : Nat) (quiet lemmas : Bool) (x m0 : Option Addr) (i : Int) (w : World) (h : kvlaw_walk.L1 script_b script_l script_c quiet lemmas x m0 i w  R) :
    KW Try.prog 8 98 (kvlaw_walk.RV R) ([(0, [1, 1, 1, 1, 0, 1, 0, 0]), (2, [1, 1, 1, 1, 0, 1, 0, 0]), (1, [0]), (0, [1, 1, 1, 1, 1])].map (toItem (Try.f8.body.getD .skip))) [(0, .slice script_b script_l script_c), (1, .bool quiet), (2, .bool lemmas), (8, .pointer x), (9, .pointer m0), (11, .int .i64 i)] w := by
  obtain ⟨I, m, hBase, hr⟩ := h
  refine KW.loop (fun m σ w => ∃ (script_b : Option Addr) (script_l script_c : Nat) (quiet lemmas : Bool) (x m0 : Option Addr) (i : Int), σ = [(0, .slice script_b script_l script_c), (1, .bool quiet), (2, .bool lemmas), (8, .pointer x), (9, .pointer m0), (11, .int .i64 i)] ∧ I m script_b script_l script_c quiet lemmas x m0 i w) ?_ m _ w ⟨script_b, script_l, script_c, quiet, lemmas, x, m0, i, rfl, hBase⟩
  rintro m ih σ w ⟨script_b, script_l, script_c, quiet, lemmas, x, m0, i, rfl, hI⟩
  exact kvlaw_walk.L1b_sound  (N1 := fun script_b' script_l' script_c' quiet' lemmas' x' m0' i' w' => ∃ m', m' < m ∧ I m' script_b' script_l' script_c' quiet' lemmas' x' m0' i' w') (fun script_b' script_l' script_c' quiet' lemmas' x' m0' i' w' hx => by obtain ⟨m', hlt, hI'⟩ := hx; exact ih m' hlt _ w' ⟨script_b', script_l', script_c', quiet', lemmas', x', m0', i', rfl, hI'⟩) script_b script_l script_c quiet lemmas x m0 i w (hr m script_b script_l script_c quiet lemmas x m0 i w hI)
def kvlaw_walk.B1 (script_b : Option Addr) (script_l script_c : Nat) (quiet lemmas : Bool) (x m0 : Option Addr) (w : World)   (R : Int → Int → World → Prop) : Prop :=
  kvlaw_walk.L1 script_b script_l script_c quiet lemmas x m0 (0 : Int) w  R
theorem kvlaw_walk.B1_eq (script_b : Option Addr) (script_l script_c : Nat) (quiet lemmas : Bool) (x m0 : Option Addr) (w : World)   (R : Int → Int → World → Prop) (sL1 : Option Addr → Nat → Nat → Bool → Bool → Option Addr → Option Addr → Int → World → Prop) :
    (
  sL1 script_b script_l script_c quiet lemmas x m0 (0 : Int) w) = kstep Try.prog 98 Try.f8.results.toList (Try.f8.body.getD .skip) (kvlaw_walk.RV R) (kvc Try.prog 98 Try.f8.results.toList (Try.f8.body.getD .skip) (kvlaw_walk.RV R) [([(0, [1, 1, 1, 1, 0, 1, 0, 0]), (2, [1, 1, 1, 1, 0, 1, 0, 0]), (1, [0]), (0, [1, 1, 1, 1, 1])], fun σ w => dL (slotOf σ 0) fun script_b_ script_l_ script_c_ => dB (slotOf σ 1) fun quiet_ => dB (slotOf σ 2) fun lemmas_ => dP (slotOf σ 8) fun x_ => dP (slotOf σ 9) fun m0_ => dI .i64 (slotOf σ 11) fun i_ => sL1 script_b_ script_l_ script_c_ quiet_ lemmas_ x_ m0_ i_ w)] 2000) [(0, [1, 1, 1, 1])] [(0, .slice script_b script_l script_c), (1, .bool quiet), (2, .bool lemmas), (8, .pointer x), (9, .pointer m0)] w := by kernel_rfl
theorem kvlaw_walk.B1_sound {R : Int → Int → World → Prop}  (script_b : Option Addr) (script_l script_c : Nat) (quiet lemmas : Bool) (x m0 : Option Addr) (w : World) (h : kvlaw_walk.B1 script_b script_l script_c quiet lemmas x m0 w   R) :
    KW Try.prog 8 98 (kvlaw_walk.RV R) ([(0, [1, 1, 1, 1])].map (toItem (Try.f8.body.getD .skip))) [(0, .slice script_b script_l script_c), (1, .bool quiet), (2, .bool lemmas), (8, .pointer x), (9, .pointer m0)] w := by
  exact block_spec Try.func8 Try.mixed (stops_cons (fun σ w h => by
      obtain ⟨script_b_, script_l_, script_c_, e0, h⟩ := dL_elim h
      obtain ⟨quiet_, e1, h⟩ := dB_elim h
      obtain ⟨lemmas_, e2, h⟩ := dB_elim h
      obtain ⟨x_, e3, h⟩ := dP_elim h
      obtain ⟨m0_, e4, h⟩ := dP_elim h
      obtain ⟨i_, e5, h⟩ := dI_elim h
      exact (kvlaw_walk.L1_sound  script_b_ script_l_ script_c_ quiet_ lemmas_ x_ m0_ i_ w h).weaken (Sub.cons (Sub.cons (Sub.cons (Sub.cons (Sub.cons (Sub.cons (Sub.nil _) e5) e4) e3) e2) e1) e0)) stops_nil) (Eq.mp (kvlaw_walk.B1_eq script_b script_l script_c quiet lemmas x m0 w   R (fun script_b_ script_l_ script_c_ quiet_ lemmas_ x_ m0_ i_ w => kvlaw_walk.L1 script_b_ script_l_ script_c_ quiet_ lemmas_ x_ m0_ i_ w  R)) h)
def kvlaw_walk.B0 (script_b : Option Addr) (script_l script_c : Nat) (quiet lemmas : Bool) (w : World)   (R : Int → Int → World → Prop) : Prop :=
  kv_New.Call  w fun r18 w1 =>
  kvm_New.Call  w1 fun r19 w2 =>
  Bm (!quiet) (
    kvlaw_Alike.Call r18 r19 (ByteArray.mk #[]) w2 fun r24 w3 =>
    Bm (!r24) (
      R (0 : Int) (0 : Int) w3) (
      kvlaw_walk.B1 script_b script_l script_c quiet lemmas r18 r19 w3  R)) (
    kvlaw_walk.B1 script_b script_l script_c quiet lemmas r18 r19 w2  R)
theorem kvlaw_walk.B0_eq (script_b : Option Addr) (script_l script_c : Nat) (quiet lemmas : Bool) (w : World)   (R : Int → Int → World → Prop) (sB1 : Option Addr → Nat → Nat → Bool → Bool → Option Addr → Option Addr → World → Prop) :
    (
  kv_New.Call  w fun r18 w1 =>
  kvm_New.Call  w1 fun r19 w2 =>
  Bm (!quiet) (
    kvlaw_Alike.Call r18 r19 (ByteArray.mk #[]) w2 fun r24 w3 =>
    Bm (!r24) (
      R (0 : Int) (0 : Int) w3) (
      sB1 script_b script_l script_c quiet lemmas r18 r19 w3)) (
    sB1 script_b script_l script_c quiet lemmas r18 r19 w2)) = kstep Try.prog 98 Try.f8.results.toList (Try.f8.body.getD .skip) (kvlaw_walk.RV R) (kvc Try.prog 98 Try.f8.results.toList (Try.f8.body.getD .skip) (kvlaw_walk.RV R) [([(0, [1, 1, 1, 1])], fun σ w => dL (slotOf σ 0) fun script_b_ script_l_ script_c_ => dB (slotOf σ 1) fun quiet_ => dB (slotOf σ 2) fun lemmas_ => dP (slotOf σ 8) fun x_ => dP (slotOf σ 9) fun m0_ => sB1 script_b_ script_l_ script_c_ quiet_ lemmas_ x_ m0_ w)] 2000) [(0, [])] [(0, .slice script_b script_l script_c), (1, .bool quiet), (2, .bool lemmas)] w := by kernel_rfl
theorem kvlaw_walk.B0_sound {R : Int → Int → World → Prop}  (script_b : Option Addr) (script_l script_c : Nat) (quiet lemmas : Bool) (w : World) (h : kvlaw_walk.B0 script_b script_l script_c quiet lemmas w   R) :
    KW Try.prog 8 98 (kvlaw_walk.RV R) ([(0, [])].map (toItem (Try.f8.body.getD .skip))) [(0, .slice script_b script_l script_c), (1, .bool quiet), (2, .bool lemmas)] w := by
  exact block_spec Try.func8 Try.mixed (stops_cons (fun σ w h => by
      obtain ⟨script_b_, script_l_, script_c_, e0, h⟩ := dL_elim h
      obtain ⟨quiet_, e1, h⟩ := dB_elim h
      obtain ⟨lemmas_, e2, h⟩ := dB_elim h
      obtain ⟨x_, e3, h⟩ := dP_elim h
      obtain ⟨m0_, e4, h⟩ := dP_elim h
      exact (kvlaw_walk.B1_sound  script_b_ script_l_ script_c_ quiet_ lemmas_ x_ m0_ w h).weaken (Sub.cons (Sub.cons (Sub.cons (Sub.cons (Sub.cons (Sub.nil _) e4) e3) e2) e1) e0)) stops_nil) (Eq.mp (kvlaw_walk.B0_eq script_b script_l script_c quiet lemmas w   R (fun script_b_ script_l_ script_c_ quiet_ lemmas_ x_ m0_ w => kvlaw_walk.B1 script_b_ script_l_ script_c_ quiet_ lemmas_ x_ m0_ w  R)) h)
theorem kvlaw_walk.sound (script_b : Option Addr) (script_l script_c : Nat) (quiet lemmas : Bool) (w : World) (R : Int → Int → World → Prop) (h : kvlaw_walk.B0 script_b script_l script_c quiet lemmas w R) : kvlaw_walk.Call script_b script_l script_c quiet lemmas w R := by
  have hc := calls_of_block (args := #[.slice script_b script_l script_c, .bool quiet, .bool lemmas]) Try.func8 (body := (Try.f8.body.getD .skip)) (by kernel_rfl) (by kernel_rfl) (args_slot _) (kvlaw_walk.B0_sound script_b script_l script_c quiet lemmas w h)
  exact hc.mono fun e w' he => by
    obtain ⟨v, rfl, hv⟩ := he
    exact kvlaw_walk.RV_elim hv
def kv_New.B0  (w : World)   (R : Option Addr → World → Prop) : Prop :=
  New (.cells #[.int .i64 (0 : Int), .int .i64 (0 : Int), .int .u8 (0 : Int), .int .u8 (0 : Int), .int .i64 (0 : Int), .int .u8 (0 : Int), .int .u8 (0 : Int), .int .u8 (0 : Int), .int .i64 (0 : Int), .int .i64 (0 : Int), .int .u8 (0 : Int), .int .u8 (0 : Int), .int .i64 (0 : Int), .int .u8 (0 : Int), .int .u8 (0 : Int), .int .u8 (0 : Int), .int .i64 (0 : Int), .int .i64 (0 : Int), .int .u8 (0 : Int), .int .u8 (0 : Int), .int .i64 (0 : Int), .int .u8 (0 : Int), .int .u8 (0 : Int), .int .u8 (0 : Int), .int .i64 (0 : Int), .int .i64 (0 : Int), .int .u8 (0 : Int), .int .u8 (0 : Int), .int .i64 (0 : Int), .int .u8 (0 : Int), .int .u8 (0 : Int), .int .u8 (0 : Int), .int .i64 (0 : Int), .int .i64 (0 : Int), .int .u8 (0 : Int), .int .u8 (0 : Int), .int .i64 (0 : Int), .int .u8 (0 : Int), .int .u8 (0 : Int), .int .u8 (0 : Int), .int .i64 (0 : Int), .int .i64 (0 : Int), .int .u8 (0 : Int), .int .u8 (0 : Int), .int .i64 (0 : Int), .int .u8 (0 : Int), .int .u8 (0 : Int), .int .u8 (0 : Int), .int .i64 (0 : Int), .int .i64 (0 : Int), .int .u8 (0 : Int), .int .u8 (0 : Int), .int .i64 (0 : Int), .int .u8 (0 : Int), .int .u8 (0 : Int), .int .u8 (0 : Int), .int .i64 (0 : Int), .int .i64 (0 : Int), .int .u8 (0 : Int), .int .u8 (0 : Int), .int .i64 (0 : Int), .int .u8 (0 : Int), .int .u8 (0 : Int), .int .u8 (0 : Int), .int .i64 (0 : Int), .int .i64 (0 : Int), .int .i64 (0 : Int), .int .i64 (0 : Int), .int .i64 (0 : Int), .int .u8 (0 : Int), .int .u8 (0 : Int), .int .u8 (0 : Int), .int .i64 (0 : Int), .int .i64 (0 : Int), .int .i64 (0 : Int), .int .u8 (0 : Int), .int .u8 (0 : Int), .int .u8 (0 : Int), .int .i64 (0 : Int), .int .i64 (0 : Int), .int .i64 (0 : Int), .int .u8 (0 : Int), .int .u8 (0 : Int), .int .u8 (0 : Int)] 51) w fun b2 w1 =>
  R (some ⟨b2, 0, none⟩) w1
theorem kv_New.B0_eq  (w : World)   (R : Option Addr → World → Prop)  :
    (
  New (.cells #[.int .i64 (0 : Int), .int .i64 (0 : Int), .int .u8 (0 : Int), .int .u8 (0 : Int), .int .i64 (0 : Int), .int .u8 (0 : Int), .int .u8 (0 : Int), .int .u8 (0 : Int), .int .i64 (0 : Int), .int .i64 (0 : Int), .int .u8 (0 : Int), .int .u8 (0 : Int), .int .i64 (0 : Int), .int .u8 (0 : Int), .int .u8 (0 : Int), .int .u8 (0 : Int), .int .i64 (0 : Int), .int .i64 (0 : Int), .int .u8 (0 : Int), .int .u8 (0 : Int), .int .i64 (0 : Int), .int .u8 (0 : Int), .int .u8 (0 : Int), .int .u8 (0 : Int), .int .i64 (0 : Int), .int .i64 (0 : Int), .int .u8 (0 : Int), .int .u8 (0 : Int), .int .i64 (0 : Int), .int .u8 (0 : Int), .int .u8 (0 : Int), .int .u8 (0 : Int), .int .i64 (0 : Int), .int .i64 (0 : Int), .int .u8 (0 : Int), .int .u8 (0 : Int), .int .i64 (0 : Int), .int .u8 (0 : Int), .int .u8 (0 : Int), .int .u8 (0 : Int), .int .i64 (0 : Int), .int .i64 (0 : Int), .int .u8 (0 : Int), .int .u8 (0 : Int), .int .i64 (0 : Int), .int .u8 (0 : Int), .int .u8 (0 : Int), .int .u8 (0 : Int), .int .i64 (0 : Int), .int .i64 (0 : Int), .int .u8 (0 : Int), .int .u8 (0 : Int), .int .i64 (0 : Int), .int .u8 (0 : Int), .int .u8 (0 : Int), .int .u8 (0 : Int), .int .i64 (0 : Int), .int .i64 (0 : Int), .int .u8 (0 : Int), .int .u8 (0 : Int), .int .i64 (0 : Int), .int .u8 (0 : Int), .int .u8 (0 : Int), .int .u8 (0 : Int), .int .i64 (0 : Int), .int .i64 (0 : Int), .int .i64 (0 : Int), .int .i64 (0 : Int), .int .i64 (0 : Int), .int .u8 (0 : Int), .int .u8 (0 : Int), .int .u8 (0 : Int), .int .i64 (0 : Int), .int .i64 (0 : Int), .int .i64 (0 : Int), .int .u8 (0 : Int), .int .u8 (0 : Int), .int .u8 (0 : Int), .int .i64 (0 : Int), .int .i64 (0 : Int), .int .i64 (0 : Int), .int .u8 (0 : Int), .int .u8 (0 : Int), .int .u8 (0 : Int)] 51) w fun b2 w1 =>
  R (some ⟨b2, 0, none⟩) w1) = kstep Try.prog 3 Try.f9.results.toList (Try.f9.body.getD .skip) (kv_New.RV R) (kvc Try.prog 3 Try.f9.results.toList (Try.f9.body.getD .skip) (kv_New.RV R) [] 2000) [(0, [])] [] w := by kernel_rfl
theorem kv_New.B0_sound {R : Option Addr → World → Prop}   (w : World) (h : kv_New.B0  w   R) :
    KW Try.prog 9 3 (kv_New.RV R) ([(0, [])].map (toItem (Try.f9.body.getD .skip))) [] w := by
  exact block_spec Try.func9 Try.mixed stops_nil (Eq.mp (kv_New.B0_eq  w   R ) h)
theorem kv_New.sound  (w : World) (R : Option Addr → World → Prop) (h : kv_New.B0  w R) : kv_New.Call  w R := by
  have hc := calls_of_block (args := #[]) Try.func9 (body := (Try.f9.body.getD .skip)) (by kernel_rfl) (by kernel_rfl) (args_slot _) (kv_New.B0_sound  w h)
  exact hc.mono fun e w' he => by
    obtain ⟨v, rfl, hv⟩ := he
    exact kv_New.RV_elim hv
def kvm_New.B0  (w : World)   (R : Option Addr → World → Prop) : Prop :=
  New (.cells #[.int .i64 (0 : Int), .string (ByteArray.mk #[]), .string (ByteArray.mk #[]), .string (ByteArray.mk #[]), .string (ByteArray.mk #[]), .string (ByteArray.mk #[]), .string (ByteArray.mk #[]), .string (ByteArray.mk #[]), .string (ByteArray.mk #[]), .int .i64 (0 : Int), .int .i64 (0 : Int), .int .i64 (0 : Int), .int .i64 (0 : Int), .string (ByteArray.mk #[]), .int .i64 (0 : Int), .string (ByteArray.mk #[]), .int .i64 (0 : Int), .string (ByteArray.mk #[])] 57) w fun b2 w1 =>
  R (some ⟨b2, 0, none⟩) w1
theorem kvm_New.B0_eq  (w : World)   (R : Option Addr → World → Prop)  :
    (
  New (.cells #[.int .i64 (0 : Int), .string (ByteArray.mk #[]), .string (ByteArray.mk #[]), .string (ByteArray.mk #[]), .string (ByteArray.mk #[]), .string (ByteArray.mk #[]), .string (ByteArray.mk #[]), .string (ByteArray.mk #[]), .string (ByteArray.mk #[]), .int .i64 (0 : Int), .int .i64 (0 : Int), .int .i64 (0 : Int), .int .i64 (0 : Int), .string (ByteArray.mk #[]), .int .i64 (0 : Int), .string (ByteArray.mk #[]), .int .i64 (0 : Int), .string (ByteArray.mk #[])] 57) w fun b2 w1 =>
  R (some ⟨b2, 0, none⟩) w1) = kstep Try.prog 3 Try.f10.results.toList (Try.f10.body.getD .skip) (kvm_New.RV R) (kvc Try.prog 3 Try.f10.results.toList (Try.f10.body.getD .skip) (kvm_New.RV R) [] 2000) [(0, [])] [] w := by kernel_rfl
theorem kvm_New.B0_sound {R : Option Addr → World → Prop}   (w : World) (h : kvm_New.B0  w   R) :
    KW Try.prog 10 3 (kvm_New.RV R) ([(0, [])].map (toItem (Try.f10.body.getD .skip))) [] w := by
  exact block_spec Try.func10 Try.mixed stops_nil (Eq.mp (kvm_New.B0_eq  w   R ) h)
theorem kvm_New.sound  (w : World) (R : Option Addr → World → Prop) (h : kvm_New.B0  w R) : kvm_New.Call  w R := by
  have hc := calls_of_block (args := #[]) Try.func10 (body := (Try.f10.body.getD .skip)) (by kernel_rfl) (by kernel_rfl) (args_slot _) (kvm_New.B0_sound  w h)
  exact hc.mono fun e w' he => by
    obtain ⟨v, rfl, hv⟩ := he
    exact kvm_New.RV_elim hv
def kvlaw_Alike.L2b (x m0 : Option Addr) (c : Int) (w : World)  (N2 : Option Addr → Option Addr → Int → World → Prop) (R : Bool → World → Prop) : Prop :=
  Bm (decide (c ≤ (3 : Int))) (
    kvlaw_SameSess.Call x m0 c w fun r40 w1 =>
    Bm (!r40) (
      R false w1) (
      N2 x m0 (IntKind.i64.wrap (c + (1 : Int))) w1)) (
    R true w)
theorem kvlaw_Alike.L2b_eq (x m0 : Option Addr) (c : Int) (w : World)  (N2 : Option Addr → Option Addr → Int → World → Prop) (R : Bool → World → Prop)  :
    (
  Bm (decide (c ≤ (3 : Int))) (
    kvlaw_SameSess.Call x m0 c w fun r40 w1 =>
    Bm (!r40) (
      R false w1) (
      N2 x m0 (IntKind.i64.wrap (c + (1 : Int))) w1)) (
    R true w)) = kstep Try.prog 43 Try.f11.results.toList (Try.f11.body.getD .skip) (kvlaw_Alike.RV R) (kvc Try.prog 43 Try.f11.results.toList (Try.f11.body.getD .skip) (kvlaw_Alike.RV R) [([(0, [1, 1, 1, 1, 1, 1, 0, 1, 0, 0]), (2, [1, 1, 1, 1, 1, 1, 0, 1, 0, 0]), (1, [2]), (0, [1, 1, 1, 1, 1, 1, 1])], fun σ w => dP (slotOf σ 0) fun x_ => dP (slotOf σ 1) fun m0_ => dI .i64 (slotOf σ 10) fun c_ => N2 x_ m0_ c_ w)] 2000) [(0, [1, 1, 1, 1, 1, 1, 0, 1, 0, 0]), (2, [1, 1, 1, 1, 1, 1, 0, 1, 0, 0]), (1, [2]), (0, [1, 1, 1, 1, 1, 1, 1])] [(0, .pointer x), (1, .pointer m0), (10, .int .i64 c)] w := by kernel_rfl
theorem kvlaw_Alike.L2b_sound {R : Bool → World → Prop} {N2 : Option Addr → Option Addr → Int → World → Prop} (hN2 : ∀ x m0 c w, N2 x m0 c w → KW Try.prog 11 43 (kvlaw_Alike.RV R) ([(0, [1, 1, 1, 1, 1, 1, 0, 1, 0, 0]), (2, [1, 1, 1, 1, 1, 1, 0, 1, 0, 0]), (1, [2]), (0, [1, 1, 1, 1, 1, 1, 1])].map (toItem (Try.f11.body.getD .skip))) [(0, .pointer x), (1, .pointer m0), (10, .int .i64 c)] w) (x m0 : Option Addr) (c : Int) (w : World) (h : kvlaw_Alike.L2b x m0 c w  N2 R) :
    KW Try.prog 11 43 (kvlaw_Alike.RV R) ([(0, [1, 1, 1, 1, 1, 1, 0, 1, 0, 0]), (2, [1, 1, 1, 1, 1, 1, 0, 1, 0, 0]), (1, [2]), (0, [1, 1, 1, 1, 1, 1, 1])].map (toItem (Try.f11.body.getD .skip))) [(0, .pointer x), (1, .pointer m0), (10, .int .i64 c)] w := by
  exact block_spec Try.func11 Try.mixed (stops_cons (fun σ w h => by
      obtain ⟨x_, e0, h⟩ := dP_elim h
      obtain ⟨m0_, e1, h⟩ := dP_elim h
      obtain ⟨c_, e2, h⟩ := dI_elim h
      exact (hN2 x_ m0_ c_ w h).weaken (Sub.cons (Sub.cons (Sub.cons (Sub.nil _) e2) e1) e0)) stops_nil) (Eq.mp (kvlaw_Alike.L2b_eq x m0 c w  N2 R ) h)
def kvlaw_Alike.L2 (x m0 : Option Addr) (c : Int) (w : World)  (R : Bool → World → Prop) : Prop :=
  ∃ (I : Nat → Option Addr → Option Addr → Int → World → Prop) (m : Nat), I m x m0 c w ∧ ∀ m x m0 c w, I m x m0 c w → kvlaw_Alike.L2b x m0 c w  (fun x' m0' c' w' => ∃ m', m' < m ∧ I m' x' m0' c' w') R
theorem kvlaw_Alike.L2_sound {R : Bool → World → Prop}  (x m0 : Option Addr) (c : Int) (w : World) (h : kvlaw_Alike.L2 x m0 c w  R) :
    KW Try.prog 11 43 (kvlaw_Alike.RV R) ([(0, [1, 1, 1, 1, 1, 1, 0, 1, 0, 0]), (2, [1, 1, 1, 1, 1, 1, 0, 1, 0, 0]), (1, [2]), (0, [1, 1, 1, 1, 1, 1, 1])].map (toItem (Try.f11.body.getD .skip))) [(0, .pointer x), (1, .pointer m0), (10, .int .i64 c)] w := by
  obtain ⟨I, m, hBase, hr⟩ := h
  refine KW.loop (fun m σ w => ∃ (x m0 : Option Addr) (c : Int), σ = [(0, .pointer x), (1, .pointer m0), (10, .int .i64 c)] ∧ I m x m0 c w) ?_ m _ w ⟨x, m0, c, rfl, hBase⟩
  rintro m ih σ w ⟨x, m0, c, rfl, hI⟩
  exact kvlaw_Alike.L2b_sound  (N2 := fun x' m0' c' w' => ∃ m', m' < m ∧ I m' x' m0' c' w') (fun x' m0' c' w' hx => by obtain ⟨m', hlt, hI'⟩ := hx; exact ih m' hlt _ w' ⟨x', m0', c', rfl, hI'⟩) x m0 c w (hr m x m0 c w hI)
def kvlaw_Alike.L1b (x m0 : Option Addr) (s : ByteArray) (k : Int) (w : World)  (N1 : Option Addr → Option Addr → ByteArray → Int → World → Prop) (R : Bool → World → Prop) : Prop :=
  Bm (decide (k ≤ (23 : Int))) (
    kvlaw_Play.Call x m0 k (0 : Int) (0 : Int) (0 : Int) (ByteArray.mk #[]) (ByteArray.mk #[]) w fun r19 w1 =>
    Bm (!r19) (
      R false w1) (
      N1 x m0 s (IntKind.i64.wrap (k + (1 : Int))) w1)) (
    kvlaw_AlikeKeys.Call x m0 w fun r24 w2 =>
    Bm (!r24) (
      R false w2) (
      kvlaw_SameVal.Call x m0 s w2 fun r30 w3 =>
      Bm (!r30) (
        R false w3) (
        kvlaw_Alike.L2 x m0 (-1 : Int) w3  R)))
theorem kvlaw_Alike.L1b_eq (x m0 : Option Addr) (s : ByteArray) (k : Int) (w : World)  (N1 : Option Addr → Option Addr → ByteArray → Int → World → Prop) (R : Bool → World → Prop) (sL2 : Option Addr → Option Addr → Int → World → Prop) :
    (
  Bm (decide (k ≤ (23 : Int))) (
    kvlaw_Play.Call x m0 k (0 : Int) (0 : Int) (0 : Int) (ByteArray.mk #[]) (ByteArray.mk #[]) w fun r19 w1 =>
    Bm (!r19) (
      R false w1) (
      N1 x m0 s (IntKind.i64.wrap (k + (1 : Int))) w1)) (
    kvlaw_AlikeKeys.Call x m0 w fun r24 w2 =>
    Bm (!r24) (
      R false w2) (
      kvlaw_SameVal.Call x m0 s w2 fun r30 w3 =>
      Bm (!r30) (
        R false w3) (
        sL2 x m0 (-1 : Int) w3)))) = kstep Try.prog 43 Try.f11.results.toList (Try.f11.body.getD .skip) (kvlaw_Alike.RV R) (kvc Try.prog 43 Try.f11.results.toList (Try.f11.body.getD .skip) (kvlaw_Alike.RV R) [([(0, [1, 0, 1, 0, 0]), (2, [1, 0, 1, 0, 0]), (1, [0]), (0, [1, 1])], fun σ w => dP (slotOf σ 0) fun x_ => dP (slotOf σ 1) fun m0_ => dS (slotOf σ 2) fun s_ => dI .i64 (slotOf σ 7) fun k_ => N1 x_ m0_ s_ k_ w),
    ([(0, [1, 1, 1, 1, 1, 1, 0, 1, 0, 0]), (2, [1, 1, 1, 1, 1, 1, 0, 1, 0, 0]), (1, [2]), (0, [1, 1, 1, 1, 1, 1, 1])], fun σ w => dP (slotOf σ 0) fun x_ => dP (slotOf σ 1) fun m0_ => dI .i64 (slotOf σ 10) fun c_ => sL2 x_ m0_ c_ w)] 2000) [(0, [1, 0, 1, 0, 0]), (2, [1, 0, 1, 0, 0]), (1, [0]), (0, [1, 1])] [(0, .pointer x), (1, .pointer m0), (2, .string s), (7, .int .i64 k)] w := by kernel_rfl
theorem kvlaw_Alike.L1b_sound {R : Bool → World → Prop} {N1 : Option Addr → Option Addr → ByteArray → Int → World → Prop} (hN1 : ∀ x m0 s k w, N1 x m0 s k w → KW Try.prog 11 43 (kvlaw_Alike.RV R) ([(0, [1, 0, 1, 0, 0]), (2, [1, 0, 1, 0, 0]), (1, [0]), (0, [1, 1])].map (toItem (Try.f11.body.getD .skip))) [(0, .pointer x), (1, .pointer m0), (2, .string s), (7, .int .i64 k)] w) (x m0 : Option Addr) (s : ByteArray) (k : Int) (w : World) (h : kvlaw_Alike.L1b x m0 s k w  N1 R) :
    KW Try.prog 11 43 (kvlaw_Alike.RV R) ([(0, [1, 0, 1, 0, 0]), (2, [1, 0, 1, 0, 0]), (1, [0]), (0, [1, 1])].map (toItem (Try.f11.body.getD .skip))) [(0, .pointer x), (1, .pointer m0), (2, .string s), (7, .int .i64 k)] w := by
  exact block_spec Try.func11 Try.mixed (stops_cons (fun σ w h => by
      obtain ⟨x_, e0, h⟩ := dP_elim h
      obtain ⟨m0_, e1, h⟩ := dP_elim h
      obtain ⟨s_, e2, h⟩ := dS_elim h
      obtain ⟨k_, e3, h⟩ := dI_elim h
      exact (hN1 x_ m0_ s_ k_ w h).weaken (Sub.cons (Sub.cons (Sub.cons (Sub.cons (Sub.nil _) e3) e2) e1) e0)) (stops_cons (fun σ w h => by
      obtain ⟨x_, e0, h⟩ := dP_elim h
      obtain ⟨m0_, e1, h⟩ := dP_elim h
      obtain ⟨c_, e2, h⟩ := dI_elim h
      exact (kvlaw_Alike.L2_sound  x_ m0_ c_ w h).weaken (Sub.cons (Sub.cons (Sub.cons (Sub.nil _) e2) e1) e0)) stops_nil)) (Eq.mp (kvlaw_Alike.L1b_eq x m0 s k w  N1 R (fun x_ m0_ c_ w => kvlaw_Alike.L2 x_ m0_ c_ w  R)) h)
def kvlaw_Alike.L1 (x m0 : Option Addr) (s : ByteArray) (k : Int) (w : World)  (R : Bool → World → Prop) : Prop :=
  ∃ (I : Nat → Option Addr → Option Addr → ByteArray → Int → World → Prop) (m : Nat), I m x m0 s k w ∧ ∀ m x m0 s k w, I m x m0 s k w → kvlaw_Alike.L1b x m0 s k w  (fun x' m0' s' k' w' => ∃ m', m' < m ∧ I m' x' m0' s' k' w') R
theorem kvlaw_Alike.L1_sound {R : Bool → World → Prop}  (x m0 : Option Addr) (s : ByteArray) (k : Int) (w : World) (h : kvlaw_Alike.L1 x m0 s k w  R) :
    KW Try.prog 11 43 (kvlaw_Alike.RV R) ([(0, [1, 0, 1, 0, 0]), (2, [1, 0, 1, 0, 0]), (1, [0]), (0, [1, 1])].map (toItem (Try.f11.body.getD .skip))) [(0, .pointer x), (1, .pointer m0), (2, .string s), (7, .int .i64 k)] w := by
  obtain ⟨I, m, hBase, hr⟩ := h
  refine KW.loop (fun m σ w => ∃ (x m0 : Option Addr) (s : ByteArray) (k : Int), σ = [(0, .pointer x), (1, .pointer m0), (2, .string s), (7, .int .i64 k)] ∧ I m x m0 s k w) ?_ m _ w ⟨x, m0, s, k, rfl, hBase⟩
  rintro m ih σ w ⟨x, m0, s, k, rfl, hI⟩
  exact kvlaw_Alike.L1b_sound  (N1 := fun x' m0' s' k' w' => ∃ m', m' < m ∧ I m' x' m0' s' k' w') (fun x' m0' s' k' w' hx => by obtain ⟨m', hlt, hI'⟩ := hx; exact ih m' hlt _ w' ⟨x', m0', s', k', rfl, hI'⟩) x m0 s k w (hr m x m0 s k w hI)
def kvlaw_Alike.B0 (x m0 : Option Addr) (s : ByteArray) (w : World)   (R : Bool → World → Prop) : Prop :=
  kvlaw_Alike.L1 x m0 s (21 : Int) w  R
theorem kvlaw_Alike.B0_eq (x m0 : Option Addr) (s : ByteArray) (w : World)   (R : Bool → World → Prop) (sL1 : Option Addr → Option Addr → ByteArray → Int → World → Prop) :
    (
  sL1 x m0 s (21 : Int) w) = kstep Try.prog 43 Try.f11.results.toList (Try.f11.body.getD .skip) (kvlaw_Alike.RV R) (kvc Try.prog 43 Try.f11.results.toList (Try.f11.body.getD .skip) (kvlaw_Alike.RV R) [([(0, [1, 0, 1, 0, 0]), (2, [1, 0, 1, 0, 0]), (1, [0]), (0, [1, 1])], fun σ w => dP (slotOf σ 0) fun x_ => dP (slotOf σ 1) fun m0_ => dS (slotOf σ 2) fun s_ => dI .i64 (slotOf σ 7) fun k_ => sL1 x_ m0_ s_ k_ w)] 2000) [(0, [])] [(0, .pointer x), (1, .pointer m0), (2, .string s)] w := by kernel_rfl
theorem kvlaw_Alike.B0_sound {R : Bool → World → Prop}  (x m0 : Option Addr) (s : ByteArray) (w : World) (h : kvlaw_Alike.B0 x m0 s w   R) :
    KW Try.prog 11 43 (kvlaw_Alike.RV R) ([(0, [])].map (toItem (Try.f11.body.getD .skip))) [(0, .pointer x), (1, .pointer m0), (2, .string s)] w := by
  exact block_spec Try.func11 Try.mixed (stops_cons (fun σ w h => by
      obtain ⟨x_, e0, h⟩ := dP_elim h
      obtain ⟨m0_, e1, h⟩ := dP_elim h
      obtain ⟨s_, e2, h⟩ := dS_elim h
      obtain ⟨k_, e3, h⟩ := dI_elim h
      exact (kvlaw_Alike.L1_sound  x_ m0_ s_ k_ w h).weaken (Sub.cons (Sub.cons (Sub.cons (Sub.cons (Sub.nil _) e3) e2) e1) e0)) stops_nil) (Eq.mp (kvlaw_Alike.B0_eq x m0 s w   R (fun x_ m0_ s_ k_ w => kvlaw_Alike.L1 x_ m0_ s_ k_ w  R)) h)
theorem kvlaw_Alike.sound (x m0 : Option Addr) (s : ByteArray) (w : World) (R : Bool → World → Prop) (h : kvlaw_Alike.B0 x m0 s w R) : kvlaw_Alike.Call x m0 s w R := by
  have hc := calls_of_block (args := #[.pointer x, .pointer m0, .string s]) Try.func11 (body := (Try.f11.body.getD .skip)) (by kernel_rfl) (by kernel_rfl) (args_slot _) (kvlaw_Alike.B0_sound x m0 s w h)
  exact hc.mono fun e w' he => by
    obtain ⟨v, rfl, hv⟩ := he
    exact kvlaw_Alike.RV_elim hv
end Go.Proofs.Qxb6500429a
