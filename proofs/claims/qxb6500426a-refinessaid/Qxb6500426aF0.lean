import Derived.Test.Qxb6500426aSig
set_option maxRecDepth 100000
set_option linter.unusedVariables false
open Go.Vc
namespace Go.Proofs.Qxb6500426a
def seglaw_Refines.B0 (script_b : Option Addr) (script_l script_c : Nat) (w : World)   (R : Bool → World → Prop) : Prop :=
  seglaw_RefinesUpTo.Call script_b script_l script_c w fun r4 w1 =>
  R (r4 == (-1 : Int)) w1
theorem seglaw_Refines.B0_eq (script_b : Option Addr) (script_l script_c : Nat) (w : World)   (R : Bool → World → Prop)  :
    (
  seglaw_RefinesUpTo.Call script_b script_l script_c w fun r4 w1 =>
  R (r4 == (-1 : Int)) w1) = kstep Try.prog 6 Try.f3.results.toList (Try.f3.body.getD .skip) (seglaw_Refines.RV R) (kvc Try.prog 6 Try.f3.results.toList (Try.f3.body.getD .skip) (seglaw_Refines.RV R) [] 2000) [(0, [])] [(0, .slice script_b script_l script_c)] w := by kernel_rfl
theorem seglaw_Refines.B0_sound {R : Bool → World → Prop}  (script_b : Option Addr) (script_l script_c : Nat) (w : World) (h : seglaw_Refines.B0 script_b script_l script_c w   R) :
    KW Try.prog 3 6 (seglaw_Refines.RV R) ([(0, [])].map (toItem (Try.f3.body.getD .skip))) [(0, .slice script_b script_l script_c)] w := by
  exact block_spec Try.func3 Try.mixed stops_nil (Eq.mp (seglaw_Refines.B0_eq script_b script_l script_c w   R ) h)
theorem seglaw_Refines.sound (script_b : Option Addr) (script_l script_c : Nat) (w : World) (R : Bool → World → Prop) (h : seglaw_Refines.B0 script_b script_l script_c w R) : seglaw_Refines.Call script_b script_l script_c w R := by
  have hc := calls_of_block (args := #[.slice script_b script_l script_c]) Try.func3 (body := (Try.f3.body.getD .skip)) (by kernel_rfl) (by kernel_rfl) (args_slot _) (seglaw_Refines.B0_sound script_b script_l script_c w h)
  exact hc.mono fun e w' he => by
    obtain ⟨v, rfl, hv⟩ := he
    exact seglaw_Refines.RV_elim hv
def seglaw_RefinesQuiet.B0 (script_b : Option Addr) (script_l script_c : Nat) (w : World)   (R : Bool → World → Prop) : Prop :=
  seglaw_RefinesQuietUpTo.Call script_b script_l script_c w fun r4 w1 =>
  R (r4 == (-1 : Int)) w1
theorem seglaw_RefinesQuiet.B0_eq (script_b : Option Addr) (script_l script_c : Nat) (w : World)   (R : Bool → World → Prop)  :
    (
  seglaw_RefinesQuietUpTo.Call script_b script_l script_c w fun r4 w1 =>
  R (r4 == (-1 : Int)) w1) = kstep Try.prog 6 Try.f4.results.toList (Try.f4.body.getD .skip) (seglaw_RefinesQuiet.RV R) (kvc Try.prog 6 Try.f4.results.toList (Try.f4.body.getD .skip) (seglaw_RefinesQuiet.RV R) [] 2000) [(0, [])] [(0, .slice script_b script_l script_c)] w := by kernel_rfl
theorem seglaw_RefinesQuiet.B0_sound {R : Bool → World → Prop}  (script_b : Option Addr) (script_l script_c : Nat) (w : World) (h : seglaw_RefinesQuiet.B0 script_b script_l script_c w   R) :
    KW Try.prog 4 6 (seglaw_RefinesQuiet.RV R) ([(0, [])].map (toItem (Try.f4.body.getD .skip))) [(0, .slice script_b script_l script_c)] w := by
  exact block_spec Try.func4 Try.mixed stops_nil (Eq.mp (seglaw_RefinesQuiet.B0_eq script_b script_l script_c w   R ) h)
theorem seglaw_RefinesQuiet.sound (script_b : Option Addr) (script_l script_c : Nat) (w : World) (R : Bool → World → Prop) (h : seglaw_RefinesQuiet.B0 script_b script_l script_c w R) : seglaw_RefinesQuiet.Call script_b script_l script_c w R := by
  have hc := calls_of_block (args := #[.slice script_b script_l script_c]) Try.func4 (body := (Try.f4.body.getD .skip)) (by kernel_rfl) (by kernel_rfl) (args_slot _) (seglaw_RefinesQuiet.B0_sound script_b script_l script_c w h)
  exact hc.mono fun e w' he => by
    obtain ⟨v, rfl, hv⟩ := he
    exact seglaw_RefinesQuiet.RV_elim hv
def seglaw_RefinesUpTo.B0 (script_b : Option Addr) (script_l script_c : Nat) (w : World)   (R : Int → World → Prop) : Prop :=
  seglaw_walk.Call script_b script_l script_c false w fun r7_0 r7_1 w1 =>
  R r7_0 w1
theorem seglaw_RefinesUpTo.B0_eq (script_b : Option Addr) (script_l script_c : Nat) (w : World)   (R : Int → World → Prop)  :
    (
  seglaw_walk.Call script_b script_l script_c false w fun r7_0 r7_1 w1 =>
  R r7_0 w1) = kstep Try.prog 11 Try.f5.results.toList (Try.f5.body.getD .skip) (seglaw_RefinesUpTo.RV R) (kvc Try.prog 11 Try.f5.results.toList (Try.f5.body.getD .skip) (seglaw_RefinesUpTo.RV R) [] 2000) [(0, [])] [(0, .slice script_b script_l script_c)] w := by kernel_rfl
theorem seglaw_RefinesUpTo.B0_sound {R : Int → World → Prop}  (script_b : Option Addr) (script_l script_c : Nat) (w : World) (h : seglaw_RefinesUpTo.B0 script_b script_l script_c w   R) :
    KW Try.prog 5 11 (seglaw_RefinesUpTo.RV R) ([(0, [])].map (toItem (Try.f5.body.getD .skip))) [(0, .slice script_b script_l script_c)] w := by
  exact block_spec Try.func5 Try.mixed stops_nil (Eq.mp (seglaw_RefinesUpTo.B0_eq script_b script_l script_c w   R ) h)
theorem seglaw_RefinesUpTo.sound (script_b : Option Addr) (script_l script_c : Nat) (w : World) (R : Int → World → Prop) (h : seglaw_RefinesUpTo.B0 script_b script_l script_c w R) : seglaw_RefinesUpTo.Call script_b script_l script_c w R := by
  have hc := calls_of_block (args := #[.slice script_b script_l script_c]) Try.func5 (body := (Try.f5.body.getD .skip)) (by kernel_rfl) (by kernel_rfl) (args_slot _) (seglaw_RefinesUpTo.B0_sound script_b script_l script_c w h)
  exact hc.mono fun e w' he => by
    obtain ⟨v, rfl, hv⟩ := he
    exact seglaw_RefinesUpTo.RV_elim hv
def seglaw_RefinesQuietUpTo.B0 (script_b : Option Addr) (script_l script_c : Nat) (w : World)   (R : Int → World → Prop) : Prop :=
  seglaw_walk.Call script_b script_l script_c true w fun r7_0 r7_1 w1 =>
  R r7_0 w1
theorem seglaw_RefinesQuietUpTo.B0_eq (script_b : Option Addr) (script_l script_c : Nat) (w : World)   (R : Int → World → Prop)  :
    (
  seglaw_walk.Call script_b script_l script_c true w fun r7_0 r7_1 w1 =>
  R r7_0 w1) = kstep Try.prog 11 Try.f6.results.toList (Try.f6.body.getD .skip) (seglaw_RefinesQuietUpTo.RV R) (kvc Try.prog 11 Try.f6.results.toList (Try.f6.body.getD .skip) (seglaw_RefinesQuietUpTo.RV R) [] 2000) [(0, [])] [(0, .slice script_b script_l script_c)] w := by kernel_rfl
theorem seglaw_RefinesQuietUpTo.B0_sound {R : Int → World → Prop}  (script_b : Option Addr) (script_l script_c : Nat) (w : World) (h : seglaw_RefinesQuietUpTo.B0 script_b script_l script_c w   R) :
    KW Try.prog 6 11 (seglaw_RefinesQuietUpTo.RV R) ([(0, [])].map (toItem (Try.f6.body.getD .skip))) [(0, .slice script_b script_l script_c)] w := by
  exact block_spec Try.func6 Try.mixed stops_nil (Eq.mp (seglaw_RefinesQuietUpTo.B0_eq script_b script_l script_c w   R ) h)
theorem seglaw_RefinesQuietUpTo.sound (script_b : Option Addr) (script_l script_c : Nat) (w : World) (R : Int → World → Prop) (h : seglaw_RefinesQuietUpTo.B0 script_b script_l script_c w R) : seglaw_RefinesQuietUpTo.Call script_b script_l script_c w R := by
  have hc := calls_of_block (args := #[.slice script_b script_l script_c]) Try.func6 (body := (Try.f6.body.getD .skip)) (by kernel_rfl) (by kernel_rfl) (args_slot _) (seglaw_RefinesQuietUpTo.B0_sound script_b script_l script_c w h)
  exact hc.mono fun e w' he => by
    obtain ⟨v, rfl, hv⟩ := he
    exact seglaw_RefinesQuietUpTo.RV_elim hv
def seglaw_walk.B3 (w0 : Option Addr) (n : Int) (w : World)   (R : Int → Int → World → Prop) : Prop :=
  seglaw_World_Untouched.Call w0 w fun r40 w1 =>
  Bm (!r40) (
    Bm (n == (0 : Int)) (
      R (0 : Int) (0 : Int) w1) (
      R (IntKind.i64.wrap (n - (1 : Int))) n w1)) (
    R (-1 : Int) n w1)
theorem seglaw_walk.B3_eq (w0 : Option Addr) (n : Int) (w : World)   (R : Int → Int → World → Prop)  :
    (
  seglaw_World_Untouched.Call w0 w fun r40 w1 =>
  Bm (!r40) (
    Bm (n == (0 : Int)) (
      R (0 : Int) (0 : Int) w1) (
      R (IntKind.i64.wrap (n - (1 : Int))) n w1)) (
    R (-1 : Int) n w1)) = kstep Try.prog 48 Try.f7.results.toList (Try.f7.body.getD .skip) (seglaw_walk.RV R) (kvc Try.prog 48 Try.f7.results.toList (Try.f7.body.getD .skip) (seglaw_walk.RV R) [] 2000) [(0, [1, 1, 1, 1, 1, 1])] [(6, .pointer w0), (8, .int .i64 n)] w := by kernel_rfl
theorem seglaw_walk.B3_sound {R : Int → Int → World → Prop}  (w0 : Option Addr) (n : Int) (w : World) (h : seglaw_walk.B3 w0 n w   R) :
    KW Try.prog 7 48 (seglaw_walk.RV R) ([(0, [1, 1, 1, 1, 1, 1])].map (toItem (Try.f7.body.getD .skip))) [(6, .pointer w0), (8, .int .i64 n)] w := by
  exact block_spec Try.func7 Try.mixed stops_nil (Eq.mp (seglaw_walk.B3_eq w0 n w   R ) h)
def seglaw_walk.B2 (script_b : Option Addr) (script_l script_c : Nat) (w0 : Option Addr) (i : Int) (t23 : Bool) (w : World) (N1 : Option Addr → Nat → Nat → Option Addr → Int → World → Prop)  (R : Int → Int → World → Prop) : Prop :=
  Bm t23 (
    Pn script_b fun a =>
    (0 ≤ i ∧ i < ((script_l : Nat) : Int)) ∧
    LdI .i64 (Addr.add a (i.toNat * 6)) w fun x30_0 =>
    LdI .i64 ((Addr.add a (i.toNat * 6)).add 1) w fun x30_1 =>
    LdI .i64 ((Addr.add a (i.toNat * 6)).add 2) w fun x30_2 =>
    LdI .i64 ((Addr.add a (i.toNat * 6)).add 3) w fun x30_3 =>
    LdS ((Addr.add a (i.toNat * 6)).add 4) w fun x30_4 =>
    LdS ((Addr.add a (i.toNat * 6)).add 5) w fun x30_5 =>
    seglaw_World_Step.Call w0 x30_0 x30_1 x30_2 x30_3 x30_4 x30_5 w fun r31 w1 =>
    Bm (!r31) (
      R i i w1) (
      N1 script_b script_l script_c w0 (IntKind.i64.wrap (i + (1 : Int))) w1)) (
    Bm (decide (((script_l : Nat) : Int) > (1048576 : Int))) (
      seglaw_walk.B3 w0 (1048576 : Int) w  R) (
      seglaw_walk.B3 w0 ((script_l : Nat) : Int) w  R))
theorem seglaw_walk.B2_eq (script_b : Option Addr) (script_l script_c : Nat) (w0 : Option Addr) (i : Int) (t23 : Bool) (w : World) (N1 : Option Addr → Nat → Nat → Option Addr → Int → World → Prop)  (R : Int → Int → World → Prop) (sB3 : Option Addr → Int → World → Prop) :
    (
  Bm t23 (
    Pn script_b fun a =>
    (0 ≤ i ∧ i < ((script_l : Nat) : Int)) ∧
    LdI .i64 (Addr.add a (i.toNat * 6)) w fun x30_0 =>
    LdI .i64 ((Addr.add a (i.toNat * 6)).add 1) w fun x30_1 =>
    LdI .i64 ((Addr.add a (i.toNat * 6)).add 2) w fun x30_2 =>
    LdI .i64 ((Addr.add a (i.toNat * 6)).add 3) w fun x30_3 =>
    LdS ((Addr.add a (i.toNat * 6)).add 4) w fun x30_4 =>
    LdS ((Addr.add a (i.toNat * 6)).add 5) w fun x30_5 =>
    seglaw_World_Step.Call w0 x30_0 x30_1 x30_2 x30_3 x30_4 x30_5 w fun r31 w1 =>
    Bm (!r31) (
      R i i w1) (
      N1 script_b script_l script_c w0 (IntKind.i64.wrap (i + (1 : Int))) w1)) (
    Bm (decide (((script_l : Nat) : Int) > (1048576 : Int))) (
      sB3 w0 (1048576 : Int) w) (
      sB3 w0 ((script_l : Nat) : Int) w))) = kstep Try.prog 48 Try.f7.results.toList (Try.f7.body.getD .skip) (seglaw_walk.RV R) (kvc Try.prog 48 Try.f7.results.toList (Try.f7.body.getD .skip) (seglaw_walk.RV R) [([(0, [1, 1, 1, 0, 1, 0, 0]), (2, [1, 1, 1, 0, 1, 0, 0]), (1, [0]), (0, [1, 1, 1, 1])], fun σ w => dL (slotOf σ 0) fun script_b_ script_l_ script_c_ => dP (slotOf σ 6) fun w0_ => dI .i64 (slotOf σ 7) fun i_ => N1 script_b_ script_l_ script_c_ w0_ i_ w),
    ([(0, [1, 1, 1, 1, 1, 1])], fun σ w => dP (slotOf σ 6) fun w0_ => dI .i64 (slotOf σ 8) fun n_ => sB3 w0_ n_ w)] 2000) [(0, [1, 1, 1, 0, 1, 0, 0, 0, 1]), (0, [1, 1, 1, 0, 1, 0, 0, 1]), (2, [1, 1, 1, 0, 1, 0, 0]), (1, [0]), (0, [1, 1, 1, 1])] [(0, .slice script_b script_l script_c), (6, .pointer w0), (7, .int .i64 i), (23, .bool t23)] w := by kernel_rfl
theorem seglaw_walk.B2_sound {R : Int → Int → World → Prop} {N1 : Option Addr → Nat → Nat → Option Addr → Int → World → Prop} (hN1 : ∀ script_b script_l script_c w0 i w, N1 script_b script_l script_c w0 i w → KW Try.prog 7 48 (seglaw_walk.RV R) ([(0, [1, 1, 1, 0, 1, 0, 0]), (2, [1, 1, 1, 0, 1, 0, 0]), (1, [0]), (0, [1, 1, 1, 1])].map (toItem (Try.f7.body.getD .skip))) [(0, .slice script_b script_l script_c), (6, .pointer w0), (7, .int .i64 i)] w) (script_b : Option Addr) (script_l script_c : Nat) (w0 : Option Addr) (i : Int) (t23 : Bool) (w : World) (h : seglaw_walk.B2 script_b script_l script_c w0 i t23 w N1  R) :
    KW Try.prog 7 48 (seglaw_walk.RV R) ([(0, [1, 1, 1, 0, 1, 0, 0, 0, 1]), (0, [1, 1, 1, 0, 1, 0, 0, 1]), (2, [1, 1, 1, 0, 1, 0, 0]), (1, [0]), (0, [1, 1, 1, 1])].map (toItem (Try.f7.body.getD .skip))) [(0, .slice script_b script_l script_c), (6, .pointer w0), (7, .int .i64 i), (23, .bool t23)] w := by
  exact block_spec Try.func7 Try.mixed (stops_cons (fun σ w h => by
      obtain ⟨script_b_, script_l_, script_c_, e0, h⟩ := dL_elim h
      obtain ⟨w0_, e1, h⟩ := dP_elim h
      obtain ⟨i_, e2, h⟩ := dI_elim h
      exact (hN1 script_b_ script_l_ script_c_ w0_ i_ w h).weaken (Sub.cons (Sub.cons (Sub.cons (Sub.nil _) e2) e1) e0)) (stops_cons (fun σ w h => by
      obtain ⟨w0_, e0, h⟩ := dP_elim h
      obtain ⟨n_, e1, h⟩ := dI_elim h
      exact (seglaw_walk.B3_sound  w0_ n_ w h).weaken (Sub.cons (Sub.cons (Sub.nil _) e1) e0)) stops_nil)) (Eq.mp (seglaw_walk.B2_eq script_b script_l script_c w0 i t23 w N1  R (fun w0_ n_ w => seglaw_walk.B3 w0_ n_ w  R)) h)
def seglaw_walk.L1b (script_b : Option Addr) (script_l script_c : Nat) (w0 : Option Addr) (i : Int) (w : World)  (N1 : Option Addr → Nat → Nat → Option Addr → Int → World → Prop) (R : Int → Int → World → Prop) : Prop :=
  Bm (decide (i < ((script_l : Nat) : Int))) (
    seglaw_walk.B2 script_b script_l script_c w0 i (decide (i < (1048576 : Int))) w N1 R) (
    seglaw_walk.B2 script_b script_l script_c w0 i false w N1 R)
theorem seglaw_walk.L1b_eq (script_b : Option Addr) (script_l script_c : Nat) (w0 : Option Addr) (i : Int) (w : World)  (N1 : Option Addr → Nat → Nat → Option Addr → Int → World → Prop) (R : Int → Int → World → Prop) (sB2 : Option Addr → Nat → Nat → Option Addr → Int → Bool → World → Prop) :
    (
  Bm (decide (i < ((script_l : Nat) : Int))) (
    sB2 script_b script_l script_c w0 i (decide (i < (1048576 : Int))) w) (
    sB2 script_b script_l script_c w0 i false w)) = kstep Try.prog 48 Try.f7.results.toList (Try.f7.body.getD .skip) (seglaw_walk.RV R) (kvc Try.prog 48 Try.f7.results.toList (Try.f7.body.getD .skip) (seglaw_walk.RV R) [([(0, [1, 1, 1, 0, 1, 0, 0, 0, 1]), (0, [1, 1, 1, 0, 1, 0, 0, 1]), (2, [1, 1, 1, 0, 1, 0, 0]), (1, [0]), (0, [1, 1, 1, 1])], fun σ w => dL (slotOf σ 0) fun script_b_ script_l_ script_c_ => dP (slotOf σ 6) fun w0_ => dI .i64 (slotOf σ 7) fun i_ => dB (slotOf σ 23) fun t23_ => sB2 script_b_ script_l_ script_c_ w0_ i_ t23_ w)] 2000) [(0, [1, 1, 1, 0, 1, 0, 0]), (2, [1, 1, 1, 0, 1, 0, 0]), (1, [0]), (0, [1, 1, 1, 1])] [(0, .slice script_b script_l script_c), (6, .pointer w0), (7, .int .i64 i)] w := by kernel_rfl
theorem seglaw_walk.L1b_sound {R : Int → Int → World → Prop} {N1 : Option Addr → Nat → Nat → Option Addr → Int → World → Prop} (hN1 : ∀ script_b script_l script_c w0 i w, N1 script_b script_l script_c w0 i w → KW Try.prog 7 48 (seglaw_walk.RV R) ([(0, [1, 1, 1, 0, 1, 0, 0]), (2, [1, 1, 1, 0, 1, 0, 0]), (1, [0]), (0, [1, 1, 1, 1])].map (toItem (Try.f7.body.getD .skip))) [(0, .slice script_b script_l script_c), (6, .pointer w0), (7, .int .i64 i)] w) (script_b : Option Addr) (script_l script_c : Nat) (w0 : Option Addr) (i : Int) (w : World) (h : seglaw_walk.L1b script_b script_l script_c w0 i w  N1 R) :
    KW Try.prog 7 48 (seglaw_walk.RV R) ([(0, [1, 1, 1, 0, 1, 0, 0]), (2, [1, 1, 1, 0, 1, 0, 0]), (1, [0]), (0, [1, 1, 1, 1])].map (toItem (Try.f7.body.getD .skip))) [(0, .slice script_b script_l script_c), (6, .pointer w0), (7, .int .i64 i)] w := by
  exact block_spec Try.func7 Try.mixed (stops_cons (fun σ w h => by
      obtain ⟨script_b_, script_l_, script_c_, e0, h⟩ := dL_elim h
      obtain ⟨w0_, e1, h⟩ := dP_elim h
      obtain ⟨i_, e2, h⟩ := dI_elim h
      obtain ⟨t23_, e3, h⟩ := dB_elim h
      exact (seglaw_walk.B2_sound hN1 script_b_ script_l_ script_c_ w0_ i_ t23_ w h).weaken (Sub.cons (Sub.cons (Sub.cons (Sub.cons (Sub.nil _) e3) e2) e1) e0)) stops_nil) (Eq.mp (seglaw_walk.L1b_eq script_b script_l script_c w0 i w  N1 R (fun script_b_ script_l_ script_c_ w0_ i_ t23_ w => seglaw_walk.B2 script_b_ script_l_ script_c_ w0_ i_ t23_ w N1 R)) h)
def seglaw_walk.L1 (script_b : Option Addr) (script_l script_c : Nat) (w0 : Option Addr) (i : Int) (w : World)  (R : Int → Int → World → Prop) : Prop :=
  ∃ (I : Nat → Option Addr → Nat → Nat → Option Addr → Int → World → Prop) (m : Nat), I m script_b script_l script_c w0 i w ∧ ∀ m script_b script_l script_c w0 i w, I m script_b script_l script_c w0 i w → seglaw_walk.L1b script_b script_l script_c w0 i w  (fun script_b' script_l' script_c' w0' i' w' => ∃ m', m' < m ∧ I m' script_b' script_l' script_c' w0' i' w') R
theorem seglaw_walk.L1_sound {R : Int → Int → World → Prop}  (script_b : Option Addr) (script_l script_c : Nat) (w0 : Option Addr) (i : Int) (w : World) (h : seglaw_walk.L1 script_b script_l script_c w0 i w  R) :
    KW Try.prog 7 48 (seglaw_walk.RV R) ([(0, [1, 1, 1, 0, 1, 0, 0]), (2, [1, 1, 1, 0, 1, 0, 0]), (1, [0]), (0, [1, 1, 1, 1])].map (toItem (Try.f7.body.getD .skip))) [(0, .slice script_b script_l script_c), (6, .pointer w0), (7, .int .i64 i)] w := by
  obtain ⟨I, m, hBase, hr⟩ := h
  refine KW.loop (fun m σ w => ∃ (script_b : Option Addr) (script_l script_c : Nat) (w0 : Option Addr) (i : Int), σ = [(0, .slice script_b script_l script_c), (6, .pointer w0), (7, .int .i64 i)] ∧ I m script_b script_l script_c w0 i w) ?_ m _ w ⟨script_b, script_l, script_c, w0, i, rfl, hBase⟩
  rintro m ih σ w ⟨script_b, script_l, script_c, w0, i, rfl, hI⟩
  exact seglaw_walk.L1b_sound  (N1 := fun script_b' script_l' script_c' w0' i' w' => ∃ m', m' < m ∧ I m' script_b' script_l' script_c' w0' i' w') (fun script_b' script_l' script_c' w0' i' w' hx => by obtain ⟨m', hlt, hI'⟩ := hx; exact ih m' hlt _ w' ⟨script_b', script_l', script_c', w0', i', rfl, hI'⟩) script_b script_l script_c w0 i w (hr m script_b script_l script_c w0 i w hI)
def seglaw_walk.B1 (script_b : Option Addr) (script_l script_c : Nat) (w0 : Option Addr) (w : World)   (R : Int → Int → World → Prop) : Prop :=
  seglaw_walk.L1 script_b script_l script_c w0 (0 : Int) w  R
theorem seglaw_walk.B1_eq (script_b : Option Addr) (script_l script_c : Nat) (w0 : Option Addr) (w : World)   (R : Int → Int → World → Prop) (sL1 : Option Addr → Nat → Nat → Option Addr → Int → World → Prop) :
    (
  sL1 script_b script_l script_c w0 (0 : Int) w) = kstep Try.prog 48 Try.f7.results.toList (Try.f7.body.getD .skip) (seglaw_walk.RV R) (kvc Try.prog 48 Try.f7.results.toList (Try.f7.body.getD .skip) (seglaw_walk.RV R) [([(0, [1, 1, 1, 0, 1, 0, 0]), (2, [1, 1, 1, 0, 1, 0, 0]), (1, [0]), (0, [1, 1, 1, 1])], fun σ w => dL (slotOf σ 0) fun script_b_ script_l_ script_c_ => dP (slotOf σ 6) fun w0_ => dI .i64 (slotOf σ 7) fun i_ => sL1 script_b_ script_l_ script_c_ w0_ i_ w)] 2000) [(0, [1, 1, 1])] [(0, .slice script_b script_l script_c), (6, .pointer w0)] w := by kernel_rfl
theorem seglaw_walk.B1_sound {R : Int → Int → World → Prop}  (script_b : Option Addr) (script_l script_c : Nat) (w0 : Option Addr) (w : World) (h : seglaw_walk.B1 script_b script_l script_c w0 w   R) :
    KW Try.prog 7 48 (seglaw_walk.RV R) ([(0, [1, 1, 1])].map (toItem (Try.f7.body.getD .skip))) [(0, .slice script_b script_l script_c), (6, .pointer w0)] w := by
  exact block_spec Try.func7 Try.mixed (stops_cons (fun σ w h => by
      obtain ⟨script_b_, script_l_, script_c_, e0, h⟩ := dL_elim h
      obtain ⟨w0_, e1, h⟩ := dP_elim h
      obtain ⟨i_, e2, h⟩ := dI_elim h
      exact (seglaw_walk.L1_sound  script_b_ script_l_ script_c_ w0_ i_ w h).weaken (Sub.cons (Sub.cons (Sub.cons (Sub.nil _) e2) e1) e0)) stops_nil) (Eq.mp (seglaw_walk.B1_eq script_b script_l script_c w0 w   R (fun script_b_ script_l_ script_c_ w0_ i_ w => seglaw_walk.L1 script_b_ script_l_ script_c_ w0_ i_ w  R)) h)
def seglaw_walk.B0 (script_b : Option Addr) (script_l script_c : Nat) (quiet : Bool) (w : World)   (R : Int → Int → World → Prop) : Prop :=
  seglaw_NewWorld.Call quiet w fun r10 w1 =>
  Bm (!quiet) (
    seglaw_World_Alike.Call r10 w1 fun r14 w2 =>
    Bm (!r14) (
      R (0 : Int) (0 : Int) w2) (
      seglaw_walk.B1 script_b script_l script_c r10 w2  R)) (
    seglaw_walk.B1 script_b script_l script_c r10 w1  R)
theorem seglaw_walk.B0_eq (script_b : Option Addr) (script_l script_c : Nat) (quiet : Bool) (w : World)   (R : Int → Int → World → Prop) (sB1 : Option Addr → Nat → Nat → Option Addr → World → Prop) :
    (
  seglaw_NewWorld.Call quiet w fun r10 w1 =>
  Bm (!quiet) (
    seglaw_World_Alike.Call r10 w1 fun r14 w2 =>
    Bm (!r14) (
      R (0 : Int) (0 : Int) w2) (
      sB1 script_b script_l script_c r10 w2)) (
    sB1 script_b script_l script_c r10 w1)) = kstep Try.prog 48 Try.f7.results.toList (Try.f7.body.getD .skip) (seglaw_walk.RV R) (kvc Try.prog 48 Try.f7.results.toList (Try.f7.body.getD .skip) (seglaw_walk.RV R) [([(0, [1, 1, 1])], fun σ w => dL (slotOf σ 0) fun script_b_ script_l_ script_c_ => dP (slotOf σ 6) fun w0_ => sB1 script_b_ script_l_ script_c_ w0_ w)] 2000) [(0, [])] [(0, .slice script_b script_l script_c), (1, .bool quiet)] w := by kernel_rfl
theorem seglaw_walk.B0_sound {R : Int → Int → World → Prop}  (script_b : Option Addr) (script_l script_c : Nat) (quiet : Bool) (w : World) (h : seglaw_walk.B0 script_b script_l script_c quiet w   R) :
    KW Try.prog 7 48 (seglaw_walk.RV R) ([(0, [])].map (toItem (Try.f7.body.getD .skip))) [(0, .slice script_b script_l script_c), (1, .bool quiet)] w := by
  exact block_spec Try.func7 Try.mixed (stops_cons (fun σ w h => by
      obtain ⟨script_b_, script_l_, script_c_, e0, h⟩ := dL_elim h
      obtain ⟨w0_, e1, h⟩ := dP_elim h
      exact (seglaw_walk.B1_sound  script_b_ script_l_ script_c_ w0_ w h).weaken (Sub.cons (Sub.cons (Sub.nil _) e1) e0)) stops_nil) (Eq.mp (seglaw_walk.B0_eq script_b script_l script_c quiet w   R (fun script_b_ script_l_ script_c_ w0_ w => seglaw_walk.B1 script_b_ script_l_ script_c_ w0_ w  R)) h)
theorem seglaw_walk.sound (script_b : Option Addr) (script_l script_c : Nat) (quiet : Bool) (w : World) (R : Int → Int → World → Prop) (h : seglaw_walk.B0 script_b script_l script_c quiet w R) : seglaw_walk.Call script_b script_l script_c quiet w R := by
  have hc := calls_of_block (args := #[.slice script_b script_l script_c, .bool quiet]) Try.func7 (body := (Try.f7.body.getD .skip)) (by kernel_rfl) (by kernel_rfl) (args_slot _) (seglaw_walk.B0_sound script_b script_l script_c quiet w h)
  exact hc.mono fun e w' he => by
    obtain ⟨v, rfl, hv⟩ := he
    exact seglaw_walk.RV_elim hv
def seglaw_NewWorld.B0 (quiet : Bool) (w : World)   (R : Option Addr → World → Prop) : Prop :=
  New (.cells #[.pointer none, .pointer none, .pointer none, .pointer none, .int .i64 (0 : Int), .int .i64 (0 : Int), .int .i64 (0 : Int), .int .i64 (0 : Int), .int .i64 (0 : Int), .int .i64 (0 : Int), .slice none 0 0, .slice none 0 0, .int .i64 (0 : Int), .int .i64 (0 : Int), .int .i64 (0 : Int), .int .i64 (0 : Int), .int .i64 (0 : Int), .int .i64 (0 : Int), .slice none 0 0, .int .i64 (0 : Int), .int .i64 (0 : Int), .bool quiet, .slice none 0 0, .slice none 0 0] 43) w fun b6 w1 =>
  seg_NewSendBuf.Call  w1 fun r8 w2 =>
  Sts [.pointer r8] ⟨b6, 0, none⟩ 0 w2 fun w3 =>
  segm_NewSendBuf.Call  w3 fun r12 w4 =>
  Sts [.pointer r12] ⟨b6, 1, none⟩ 0 w4 fun w5 =>
  seg_NewRecvBuf.Call  w5 fun r16 w6 =>
  Sts [.pointer r16] ⟨b6, 2, none⟩ 0 w6 fun w7 =>
  segm_NewRecvBuf.Call  w7 fun r20 w8 =>
  Sts [.pointer r20] ⟨b6, 3, none⟩ 0 w8 fun w9 =>
  R (some ⟨b6, 0, none⟩) w9
theorem seglaw_NewWorld.B0_eq (quiet : Bool) (w : World)   (R : Option Addr → World → Prop)  :
    (
  New (.cells #[.pointer none, .pointer none, .pointer none, .pointer none, .int .i64 (0 : Int), .int .i64 (0 : Int), .int .i64 (0 : Int), .int .i64 (0 : Int), .int .i64 (0 : Int), .int .i64 (0 : Int), .slice none 0 0, .slice none 0 0, .int .i64 (0 : Int), .int .i64 (0 : Int), .int .i64 (0 : Int), .int .i64 (0 : Int), .int .i64 (0 : Int), .int .i64 (0 : Int), .slice none 0 0, .int .i64 (0 : Int), .int .i64 (0 : Int), .bool quiet, .slice none 0 0, .slice none 0 0] 43) w fun b6 w1 =>
  seg_NewSendBuf.Call  w1 fun r8 w2 =>
  Sts [.pointer r8] ⟨b6, 0, none⟩ 0 w2 fun w3 =>
  segm_NewSendBuf.Call  w3 fun r12 w4 =>
  Sts [.pointer r12] ⟨b6, 1, none⟩ 0 w4 fun w5 =>
  seg_NewRecvBuf.Call  w5 fun r16 w6 =>
  Sts [.pointer r16] ⟨b6, 2, none⟩ 0 w6 fun w7 =>
  segm_NewRecvBuf.Call  w7 fun r20 w8 =>
  Sts [.pointer r20] ⟨b6, 3, none⟩ 0 w8 fun w9 =>
  R (some ⟨b6, 0, none⟩) w9) = kstep Try.prog 24 Try.f8.results.toList (Try.f8.body.getD .skip) (seglaw_NewWorld.RV R) (kvc Try.prog 24 Try.f8.results.toList (Try.f8.body.getD .skip) (seglaw_NewWorld.RV R) [] 2000) [(0, [])] [(0, .bool quiet)] w := by kernel_rfl
theorem seglaw_NewWorld.B0_sound {R : Option Addr → World → Prop}  (quiet : Bool) (w : World) (h : seglaw_NewWorld.B0 quiet w   R) :
    KW Try.prog 8 24 (seglaw_NewWorld.RV R) ([(0, [])].map (toItem (Try.f8.body.getD .skip))) [(0, .bool quiet)] w := by
  exact block_spec Try.func8 Try.mixed stops_nil (Eq.mp (seglaw_NewWorld.B0_eq quiet w   R ) h)
theorem seglaw_NewWorld.sound (quiet : Bool) (w : World) (R : Option Addr → World → Prop) (h : seglaw_NewWorld.B0 quiet w R) : seglaw_NewWorld.Call quiet w R := by
  have hc := calls_of_block (args := #[.bool quiet]) Try.func8 (body := (Try.f8.body.getD .skip)) (by kernel_rfl) (by kernel_rfl) (args_slot _) (seglaw_NewWorld.B0_sound quiet w h)
  exact hc.mono fun e w' he => by
    obtain ⟨v, rfl, hv⟩ := he
    exact seglaw_NewWorld.RV_elim hv
def seglaw_World_Alike.L2b (w0 : Option Addr) (k : Int) (w : World)  (N2 : Option Addr → Int → World → Prop) (R : Bool → World → Prop) : Prop :=
  Bm (decide (k ≤ (28 : Int))) (
    seglaw_World_See.Call w0 k w fun r19 w1 =>
    Bm (!r19) (
      R false w1) (
      N2 w0 (IntKind.i64.wrap (k + (1 : Int))) w1)) (
    seglaw_World_LikeAgain.Call w0 (16 : Int) w fun r22 w2 =>
    Bm (!r22) (
      R false w2) (
      seglaw_World_See.Call w0 (40 : Int) w2 fun r25 w3 =>
      Bm (!r25) (
        R false w3) (
        seglaw_World_See.Call w0 (41 : Int) w3 fun r28 w4 =>
        R r28 w4)))
theorem seglaw_World_Alike.L2b_eq (w0 : Option Addr) (k : Int) (w : World)  (N2 : Option Addr → Int → World → Prop) (R : Bool → World → Prop)  :
    (
  Bm (decide (k ≤ (28 : Int))) (
    seglaw_World_See.Call w0 k w fun r19 w1 =>
    Bm (!r19) (
      R false w1) (
      N2 w0 (IntKind.i64.wrap (k + (1 : Int))) w1)) (
    seglaw_World_LikeAgain.Call w0 (16 : Int) w fun r22 w2 =>
    Bm (!r22) (
      R false w2) (
      seglaw_World_See.Call w0 (40 : Int) w2 fun r25 w3 =>
      Bm (!r25) (
        R false w3) (
        seglaw_World_See.Call w0 (41 : Int) w3 fun r28 w4 =>
        R r28 w4)))) = kstep Try.prog 29 Try.f9.results.toList (Try.f9.body.getD .skip) (seglaw_World_Alike.RV R) (kvc Try.prog 29 Try.f9.results.toList (Try.f9.body.getD .skip) (seglaw_World_Alike.RV R) [([(0, [1, 1, 0, 1, 0, 0]), (2, [1, 1, 0, 1, 0, 0]), (1, [2]), (0, [1, 1, 1])], fun σ w => dP (slotOf σ 0) fun w0_ => dI .i64 (slotOf σ 4) fun k_ => N2 w0_ k_ w)] 2000) [(0, [1, 1, 0, 1, 0, 0]), (2, [1, 1, 0, 1, 0, 0]), (1, [2]), (0, [1, 1, 1])] [(0, .pointer w0), (4, .int .i64 k)] w := by kernel_rfl
theorem seglaw_World_Alike.L2b_sound {R : Bool → World → Prop} {N2 : Option Addr → Int → World → Prop} (hN2 : ∀ w0 k w, N2 w0 k w → KW Try.prog 9 29 (seglaw_World_Alike.RV R) ([(0, [1, 1, 0, 1, 0, 0]), (2, [1, 1, 0, 1, 0, 0]), (1, [2]), (0, [1, 1, 1])].map (toItem (Try.f9.body.getD .skip))) [(0, .pointer w0), (4, .int .i64 k)] w) (w0 : Option Addr) (k : Int) (w : World) (h : seglaw_World_Alike.L2b w0 k w  N2 R) :
    KW Try.prog 9 29 (seglaw_World_Alike.RV R) ([(0, [1, 1, 0, 1, 0, 0]), (2, [1, 1, 0, 1, 0, 0]), (1, [2]), (0, [1, 1, 1])].map (toItem (Try.f9.body.getD .skip))) [(0, .pointer w0), (4, .int .i64 k)] w := by
  exact block_spec Try.func9 Try.mixed (stops_cons (fun σ w h => by
      obtain ⟨w0_, e0, h⟩ := dP_elim h
      obtain ⟨k_, e1, h⟩ := dI_elim h
      exact (hN2 w0_ k_ w h).weaken (Sub.cons (Sub.cons (Sub.nil _) e1) e0)) stops_nil) (Eq.mp (seglaw_World_Alike.L2b_eq w0 k w  N2 R ) h)
def seglaw_World_Alike.L2 (w0 : Option Addr) (k : Int) (w : World)  (R : Bool → World → Prop) : Prop :=
  ∃ (I : Nat → Option Addr → Int → World → Prop) (m : Nat), I m w0 k w ∧ ∀ m w0 k w, I m w0 k w → seglaw_World_Alike.L2b w0 k w  (fun w0' k' w' => ∃ m', m' < m ∧ I m' w0' k' w') R
theorem seglaw_World_Alike.L2_sound {R : Bool → World → Prop}  (w0 : Option Addr) (k : Int) (w : World) (h : seglaw_World_Alike.L2 w0 k w  R) :
    KW Try.prog 9 29 (seglaw_World_Alike.RV R) ([(0, [1, 1, 0, 1, 0, 0]), (2, [1, 1, 0, 1, 0, 0]), (1, [2]), (0, [1, 1, 1])].map (toItem (Try.f9.body.getD .skip))) [(0, .pointer w0), (4, .int .i64 k)] w := by
  obtain ⟨I, m, hBase, hr⟩ := h
  refine KW.loop (fun m σ w => ∃ (w0 : Option Addr) (k : Int), σ = [(0, .pointer w0), (4, .int .i64 k)] ∧ I m w0 k w) ?_ m _ w ⟨w0, k, rfl, hBase⟩
  rintro m ih σ w ⟨w0, k, rfl, hI⟩
  exact seglaw_World_Alike.L2b_sound  (N2 := fun w0' k' w' => ∃ m', m' < m ∧ I m' w0' k' w') (fun w0' k' w' hx => by obtain ⟨m', hlt, hI'⟩ := hx; exact ih m' hlt _ w' ⟨w0', k', rfl, hI'⟩) w0 k w (hr m w0 k w hI)
def seglaw_World_Alike.L1b (w0 : Option Addr) (k : Int) (w : World)  (N1 : Option Addr → Int → World → Prop) (R : Bool → World → Prop) : Prop :=
  Bm (decide (k ≤ (19 : Int))) (
    seglaw_World_See.Call w0 k w fun r11 w1 =>
    Bm (!r11) (
      R false w1) (
      N1 w0 (IntKind.i64.wrap (k + (1 : Int))) w1)) (
    seglaw_World_Alike.L2 w0 (23 : Int) w  R)
theorem seglaw_World_Alike.L1b_eq (w0 : Option Addr) (k : Int) (w : World)  (N1 : Option Addr → Int → World → Prop) (R : Bool → World → Prop) (sL2 : Option Addr → Int → World → Prop) :
    (
  Bm (decide (k ≤ (19 : Int))) (
    seglaw_World_See.Call w0 k w fun r11 w1 =>
    Bm (!r11) (
      R false w1) (
      N1 w0 (IntKind.i64.wrap (k + (1 : Int))) w1)) (
    sL2 w0 (23 : Int) w)) = kstep Try.prog 29 Try.f9.results.toList (Try.f9.body.getD .skip) (seglaw_World_Alike.RV R) (kvc Try.prog 29 Try.f9.results.toList (Try.f9.body.getD .skip) (seglaw_World_Alike.RV R) [([(0, [1, 0, 1, 0, 0]), (2, [1, 0, 1, 0, 0]), (1, [0]), (0, [1, 1])], fun σ w => dP (slotOf σ 0) fun w0_ => dI .i64 (slotOf σ 3) fun k_ => N1 w0_ k_ w),
    ([(0, [1, 1, 0, 1, 0, 0]), (2, [1, 1, 0, 1, 0, 0]), (1, [2]), (0, [1, 1, 1])], fun σ w => dP (slotOf σ 0) fun w0_ => dI .i64 (slotOf σ 4) fun k_ => sL2 w0_ k_ w)] 2000) [(0, [1, 0, 1, 0, 0]), (2, [1, 0, 1, 0, 0]), (1, [0]), (0, [1, 1])] [(0, .pointer w0), (3, .int .i64 k)] w := by kernel_rfl
theorem seglaw_World_Alike.L1b_sound {R : Bool → World → Prop} {N1 : Option Addr → Int → World → Prop} (hN1 : ∀ w0 k w, N1 w0 k w → KW Try.prog 9 29 (seglaw_World_Alike.RV R) ([(0, [1, 0, 1, 0, 0]), (2, [1, 0, 1, 0, 0]), (1, [0]), (0, [1, 1])].map (toItem (Try.f9.body.getD .skip))) [(0, .pointer w0), (3, .int .i64 k)] w) (w0 : Option Addr) (k : Int) (w : World) (h : seglaw_World_Alike.L1b w0 k w  N1 R) :
    KW Try.prog 9 29 (seglaw_World_Alike.RV R) ([(0, [1, 0, 1, 0, 0]), (2, [1, 0, 1, 0, 0]), (1, [0]), (0, [1, 1])].map (toItem (Try.f9.body.getD .skip))) [(0, .pointer w0), (3, .int .i64 k)] w := by
  exact block_spec Try.func9 Try.mixed (stops_cons (fun σ w h => by
      obtain ⟨w0_, e0, h⟩ := dP_elim h
      obtain ⟨k_, e1, h⟩ := dI_elim h
      exact (hN1 w0_ k_ w h).weaken (Sub.cons (Sub.cons (Sub.nil _) e1) e0)) (stops_cons (fun σ w h => by
      obtain ⟨w0_, e0, h⟩ := dP_elim h
      obtain ⟨k_, e1, h⟩ := dI_elim h
      exact (seglaw_World_Alike.L2_sound  w0_ k_ w h).weaken (Sub.cons (Sub.cons (Sub.nil _) e1) e0)) stops_nil)) (Eq.mp (seglaw_World_Alike.L1b_eq w0 k w  N1 R (fun w0_ k_ w => seglaw_World_Alike.L2 w0_ k_ w  R)) h)
def seglaw_World_Alike.L1 (w0 : Option Addr) (k : Int) (w : World)  (R : Bool → World → Prop) : Prop :=
  ∃ (I : Nat → Option Addr → Int → World → Prop) (m : Nat), I m w0 k w ∧ ∀ m w0 k w, I m w0 k w → seglaw_World_Alike.L1b w0 k w  (fun w0' k' w' => ∃ m', m' < m ∧ I m' w0' k' w') R
theorem seglaw_World_Alike.L1_sound {R : Bool → World → Prop}  (w0 : Option Addr) (k : Int) (w : World) (h : seglaw_World_Alike.L1 w0 k w  R) :
    KW Try.prog 9 29 (seglaw_World_Alike.RV R) ([(0, [1, 0, 1, 0, 0]), (2, [1, 0, 1, 0, 0]), (1, [0]), (0, [1, 1])].map (toItem (Try.f9.body.getD .skip))) [(0, .pointer w0), (3, .int .i64 k)] w := by
  obtain ⟨I, m, hBase, hr⟩ := h
  refine KW.loop (fun m σ w => ∃ (w0 : Option Addr) (k : Int), σ = [(0, .pointer w0), (3, .int .i64 k)] ∧ I m w0 k w) ?_ m _ w ⟨w0, k, rfl, hBase⟩
  rintro m ih σ w ⟨w0, k, rfl, hI⟩
  exact seglaw_World_Alike.L1b_sound  (N1 := fun w0' k' w' => ∃ m', m' < m ∧ I m' w0' k' w') (fun w0' k' w' hx => by obtain ⟨m', hlt, hI'⟩ := hx; exact ih m' hlt _ w' ⟨w0', k', rfl, hI'⟩) w0 k w (hr m w0 k w hI)
def seglaw_World_Alike.B0 (w0 : Option Addr) (w : World)   (R : Bool → World → Prop) : Prop :=
  seglaw_World_Alike.L1 w0 (15 : Int) w  R
theorem seglaw_World_Alike.B0_eq (w0 : Option Addr) (w : World)   (R : Bool → World → Prop) (sL1 : Option Addr → Int → World → Prop) :
    (
  sL1 w0 (15 : Int) w) = kstep Try.prog 29 Try.f9.results.toList (Try.f9.body.getD .skip) (seglaw_World_Alike.RV R) (kvc Try.prog 29 Try.f9.results.toList (Try.f9.body.getD .skip) (seglaw_World_Alike.RV R) [([(0, [1, 0, 1, 0, 0]), (2, [1, 0, 1, 0, 0]), (1, [0]), (0, [1, 1])], fun σ w => dP (slotOf σ 0) fun w0_ => dI .i64 (slotOf σ 3) fun k_ => sL1 w0_ k_ w)] 2000) [(0, [])] [(0, .pointer w0)] w := by kernel_rfl
theorem seglaw_World_Alike.B0_sound {R : Bool → World → Prop}  (w0 : Option Addr) (w : World) (h : seglaw_World_Alike.B0 w0 w   R) :
    KW Try.prog 9 29 (seglaw_World_Alike.RV R) ([(0, [])].map (toItem (Try.f9.body.getD .skip))) [(0, .pointer w0)] w := by
  exact block_spec Try.func9 Try.mixed (stops_cons (fun σ w h => by
      obtain ⟨w0_, e0, h⟩ := dP_elim h
      obtain ⟨k_, e1, h⟩ := dI_elim h
      exact (seglaw_World_Alike.L1_sound  w0_ k_ w h).weaken (Sub.cons (Sub.cons (Sub.nil _) e1) e0)) stops_nil) (Eq.mp (seglaw_World_Alike.B0_eq w0 w   R (fun w0_ k_ w => seglaw_World_Alike.L1 w0_ k_ w  R)) h)
theorem seglaw_World_Alike.sound (w0 : Option Addr) (w : World) (R : Bool → World → Prop) (h : seglaw_World_Alike.B0 w0 w R) : seglaw_World_Alike.Call w0 w R := by
  have hc := calls_of_block (args := #[.pointer w0]) Try.func9 (body := (Try.f9.body.getD .skip)) (by kernel_rfl) (by kernel_rfl) (args_slot _) (seglaw_World_Alike.B0_sound w0 w h)
  exact hc.mono fun e w' he => by
    obtain ⟨v, rfl, hv⟩ := he
    exact seglaw_World_Alike.RV_elim hv
def seglaw_World_Step.B0 (w0 : Option Addr) (o_0 o_1 o_2 o_3 : Int) (o_4 o_5 : ByteArray) (w : World)   (R : Bool → World → Prop) : Prop :=
  New (.cells #[.int .i64 o_0, .int .i64 o_1, .int .i64 o_2, .int .i64 o_3, .string o_4, .string o_5] 32) w fun o_ w1 =>
  LdI .i64 ⟨o_, 0, none⟩ w1 fun x6_0 =>
  LdI .i64 ⟨o_, 1, none⟩ w1 fun x6_1 =>
  LdI .i64 ⟨o_, 2, none⟩ w1 fun x6_2 =>
  LdI .i64 ⟨o_, 3, none⟩ w1 fun x6_3 =>
  LdS ⟨o_, 4, none⟩ w1 fun x6_4 =>
  LdS ⟨o_, 5, none⟩ w1 fun x6_5 =>
  seglaw_World_Play.Call w0 x6_0 x6_1 x6_2 x6_3 x6_4 x6_5 w1 fun r7 w2 =>
  Bm (!r7) (
    R false w2) (
    seglaw_World_Keeps.Call w0 w2 fun r10 w3 =>
    Bm (!r10) (
      R false w3) (
      Pn w0 fun a =>
      LdB (a.add 21) w3 fun x15 =>
      Bm x15 (
        R true w3) (
        seglaw_World_Alike.Call w0 w3 fun r17 w4 =>
        R r17 w4)))
theorem seglaw_World_Step.B0_eq (w0 : Option Addr) (o_0 o_1 o_2 o_3 : Int) (o_4 o_5 : ByteArray) (w : World)   (R : Bool → World → Prop)  :
    (
  New (.cells #[.int .i64 o_0, .int .i64 o_1, .int .i64 o_2, .int .i64 o_3, .string o_4, .string o_5] 32) w fun o_ w1 =>
  LdI .i64 ⟨o_, 0, none⟩ w1 fun x6_0 =>
  LdI .i64 ⟨o_, 1, none⟩ w1 fun x6_1 =>
  LdI .i64 ⟨o_, 2, none⟩ w1 fun x6_2 =>
  LdI .i64 ⟨o_, 3, none⟩ w1 fun x6_3 =>
  LdS ⟨o_, 4, none⟩ w1 fun x6_4 =>
  LdS ⟨o_, 5, none⟩ w1 fun x6_5 =>
  seglaw_World_Play.Call w0 x6_0 x6_1 x6_2 x6_3 x6_4 x6_5 w1 fun r7 w2 =>
  Bm (!r7) (
    R false w2) (
    seglaw_World_Keeps.Call w0 w2 fun r10 w3 =>
    Bm (!r10) (
      R false w3) (
      Pn w0 fun a =>
      LdB (a.add 21) w3 fun x15 =>
      Bm x15 (
        R true w3) (
        seglaw_World_Alike.Call w0 w3 fun r17 w4 =>
        R r17 w4)))) = kstep Try.prog 18 Try.f10.results.toList (Try.f10.body.getD .skip) (seglaw_World_Step.RV R) (kvc Try.prog 18 Try.f10.results.toList (Try.f10.body.getD .skip) (seglaw_World_Step.RV R) [] 2000) [(0, [])] [(0, .pointer w0), (1, .agg #[.int .i64 o_0, .int .i64 o_1, .int .i64 o_2, .int .i64 o_3, .string o_4, .string o_5])] w := by kernel_rfl
theorem seglaw_World_Step.B0_sound {R : Bool → World → Prop}  (w0 : Option Addr) (o_0 o_1 o_2 o_3 : Int) (o_4 o_5 : ByteArray) (w : World) (h : seglaw_World_Step.B0 w0 o_0 o_1 o_2 o_3 o_4 o_5 w   R) :
    KW Try.prog 10 18 (seglaw_World_Step.RV R) ([(0, [])].map (toItem (Try.f10.body.getD .skip))) [(0, .pointer w0), (1, .agg #[.int .i64 o_0, .int .i64 o_1, .int .i64 o_2, .int .i64 o_3, .string o_4, .string o_5])] w := by
  exact block_spec Try.func10 Try.mixed stops_nil (Eq.mp (seglaw_World_Step.B0_eq w0 o_0 o_1 o_2 o_3 o_4 o_5 w   R ) h)
theorem seglaw_World_Step.sound (w0 : Option Addr) (o_0 o_1 o_2 o_3 : Int) (o_4 o_5 : ByteArray) (w : World) (R : Bool → World → Prop) (h : seglaw_World_Step.B0 w0 o_0 o_1 o_2 o_3 o_4 o_5 w R) : seglaw_World_Step.Call w0 o_0 o_1 o_2 o_3 o_4 o_5 w R := by
  have hc := calls_of_block (args := #[.pointer w0, .agg #[.int .i64 o_0, .int .i64 o_1, .int .i64 o_2, .int .i64 o_3, .string o_4, .string o_5]]) Try.func10 (body := (Try.f10.body.getD .skip)) (by kernel_rfl) (by kernel_rfl) (args_slot _) (seglaw_World_Step.B0_sound w0 o_0 o_1 o_2 o_3 o_4 o_5 w h)
  exact hc.mono fun e w' he => by
    obtain ⟨v, rfl, hv⟩ := he
    exact seglaw_World_Step.RV_elim hv
def seglaw_World_Untouched.L2b (w0 : Option Addr) (j i : Int) (w : World) (N1 : Option Addr → Int → World → Prop) (N2 : Option Addr → Int → Int → World → Prop) (R : Bool → World → Prop) : Prop :=
  Pn w0 fun a =>
  LdL (a.add 23) w fun x20_b x20_l x20_c =>
  Pn x20_b fun a_1 =>
  (0 ≤ j ∧ j < ((x20_l : Nat) : Int)) ∧
  LdL (Addr.add a_1 (j.toNat * 1)) w fun x23_b x23_l x23_c =>
  Bm (decide (i < ((x23_l : Nat) : Int))) (
    Pn w0 fun a_2 =>
    LdL (a_2.add 23) w fun x31_b x31_l x31_c =>
    Pn x31_b fun a_3 =>
    (0 ≤ j ∧ j < ((x31_l : Nat) : Int)) ∧
    LdL (Addr.add a_3 (j.toNat * 1)) w fun x34_b x34_l x34_c =>
    Pn x34_b fun a_4 =>
    (0 ≤ i ∧ i < ((x34_l : Nat) : Int)) ∧
    LdI .i64 (Addr.add a_4 (i.toNat * 1)) w fun x37 =>
    Bm (x37 != (IntKind.i64.wrap ((-1 : Int) - j))) (
      R false w) (
      N2 w0 j (IntKind.i64.wrap (i + (1 : Int))) w)) (
    N1 w0 (IntKind.i64.wrap (j + (1 : Int))) w)
theorem seglaw_World_Untouched.L2b_eq (w0 : Option Addr) (j i : Int) (w : World) (N1 : Option Addr → Int → World → Prop) (N2 : Option Addr → Int → Int → World → Prop) (R : Bool → World → Prop)  :
    (
  Pn w0 fun a =>
  LdL (a.add 23) w fun x20_b x20_l x20_c =>
  Pn x20_b fun a_1 =>
  (0 ≤ j ∧ j < ((x20_l : Nat) : Int)) ∧
  LdL (Addr.add a_1 (j.toNat * 1)) w fun x23_b x23_l x23_c =>
  Bm (decide (i < ((x23_l : Nat) : Int))) (
    Pn w0 fun a_2 =>
    LdL (a_2.add 23) w fun x31_b x31_l x31_c =>
    Pn x31_b fun a_3 =>
    (0 ≤ j ∧ j < ((x31_l : Nat) : Int)) ∧
    LdL (Addr.add a_3 (j.toNat * 1)) w fun x34_b x34_l x34_c =>
    Pn x34_b fun a_4 =>
    (0 ≤ i ∧ i < ((x34_l : Nat) : Int)) ∧
    LdI .i64 (Addr.add a_4 (i.toNat * 1)) w fun x37 =>
    Bm (x37 != (IntKind.i64.wrap ((-1 : Int) - j))) (
      R false w) (
      N2 w0 j (IntKind.i64.wrap (i + (1 : Int))) w)) (
    N1 w0 (IntKind.i64.wrap (j + (1 : Int))) w)) = kstep Try.prog 76 Try.f11.results.toList (Try.f11.body.getD .skip) (seglaw_World_Untouched.RV R) (kvc Try.prog 76 Try.f11.results.toList (Try.f11.body.getD .skip) (seglaw_World_Untouched.RV R) [([(0, [1, 0, 1, 0, 0, 1, 0, 0, 1, 0, 0]), (2, [1, 0, 1, 0, 0, 1, 0, 0, 1, 0, 0]), (1, [2]), (1, [1]), (0, [1, 0, 1, 0, 0, 1, 1]), (2, [1, 0, 1, 0, 0]), (1, [0]), (0, [1, 1])], fun σ w => dP (slotOf σ 0) fun w0_ => dI .i64 (slotOf σ 3) fun j_ => dI .i64 (slotOf σ 4) fun i_ => N2 w0_ j_ i_ w),
    ([(0, [1, 0, 1, 0, 0]), (2, [1, 0, 1, 0, 0]), (1, [0]), (0, [1, 1])], fun σ w => dP (slotOf σ 0) fun w0_ => dI .i64 (slotOf σ 3) fun j_ => N1 w0_ j_ w)] 2000) [(0, [1, 0, 1, 0, 0, 1, 0, 0, 1, 0, 0]), (2, [1, 0, 1, 0, 0, 1, 0, 0, 1, 0, 0]), (1, [2]), (1, [1]), (0, [1, 0, 1, 0, 0, 1, 1]), (2, [1, 0, 1, 0, 0]), (1, [0]), (0, [1, 1])] [(0, .pointer w0), (3, .int .i64 j), (4, .int .i64 i)] w := by kernel_rfl
theorem seglaw_World_Untouched.L2b_sound {R : Bool → World → Prop} {N1 : Option Addr → Int → World → Prop} (hN1 : ∀ w0 j w, N1 w0 j w → KW Try.prog 11 76 (seglaw_World_Untouched.RV R) ([(0, [1, 0, 1, 0, 0]), (2, [1, 0, 1, 0, 0]), (1, [0]), (0, [1, 1])].map (toItem (Try.f11.body.getD .skip))) [(0, .pointer w0), (3, .int .i64 j)] w) {N2 : Option Addr → Int → Int → World → Prop} (hN2 : ∀ w0 j i w, N2 w0 j i w → KW Try.prog 11 76 (seglaw_World_Untouched.RV R) ([(0, [1, 0, 1, 0, 0, 1, 0, 0, 1, 0, 0]), (2, [1, 0, 1, 0, 0, 1, 0, 0, 1, 0, 0]), (1, [2]), (1, [1]), (0, [1, 0, 1, 0, 0, 1, 1]), (2, [1, 0, 1, 0, 0]), (1, [0]), (0, [1, 1])].map (toItem (Try.f11.body.getD .skip))) [(0, .pointer w0), (3, .int .i64 j), (4, .int .i64 i)] w) (w0 : Option Addr) (j i : Int) (w : World) (h : seglaw_World_Untouched.L2b w0 j i w N1 N2 R) :
    KW Try.prog 11 76 (seglaw_World_Untouched.RV R) ([(0, [1, 0, 1, 0, 0, 1, 0, 0, 1, 0, 0]), (2, [1, 0, 1, 0, 0, 1, 0, 0, 1, 0, 0]), (1, [2]), (1, [1]), (0, [1, 0, 1, 0, 0, 1, 1]), (2, [1, 0, 1, 0, 0]), (1, [0]), (0, [1, 1])].map (toItem (Try.f11.body.getD .skip))) [(0, .pointer w0), (3, .int .i64 j), (4, .int .i64 i)] w := by
  exact block_spec Try.func11 Try.mixed (stops_cons (fun σ w h => by
      obtain ⟨w0_, e0, h⟩ := dP_elim h
      obtain ⟨j_, e1, h⟩ := dI_elim h
      obtain ⟨i_, e2, h⟩ := dI_elim h
      exact (hN2 w0_ j_ i_ w h).weaken (Sub.cons (Sub.cons (Sub.cons (Sub.nil _) e2) e1) e0)) (stops_cons (fun σ w h => by
      obtain ⟨w0_, e0, h⟩ := dP_elim h
      obtain ⟨j_, e1, h⟩ := dI_elim h
      exact (hN1 w0_ j_ w h).weaken (Sub.cons (Sub.cons (Sub.nil _) e1) e0)) stops_nil)) (Eq.mp (seglaw_World_Untouched.L2b_eq w0 j i w N1 N2 R ) h)
def seglaw_World_Untouched.L2 (w0 : Option Addr) (j i : Int) (w : World) (N1 : Option Addr → Int → World → Prop) (R : Bool → World → Prop) : Prop :=
  ∃ (I : Nat → Option Addr → Int → Int → World → Prop) (m : Nat), I m w0 j i w ∧ ∀ m w0 j i w, I m w0 j i w → seglaw_World_Untouched.L2b w0 j i w N1 (fun w0' j' i' w' => ∃ m', m' < m ∧ I m' w0' j' i' w') R
theorem seglaw_World_Untouched.L2_sound {R : Bool → World → Prop} {N1 : Option Addr → Int → World → Prop} (hN1 : ∀ w0 j w, N1 w0 j w → KW Try.prog 11 76 (seglaw_World_Untouched.RV R) ([(0, [1, 0, 1, 0, 0]), (2, [1, 0, 1, 0, 0]), (1, [0]), (0, [1, 1])].map (toItem (Try.f11.body.getD .skip))) [(0, .pointer w0), (3, .int .i64 j)] w) (w0 : Option Addr) (j i : Int) (w : World) (h : seglaw_World_Untouched.L2 w0 j i w N1 R) :
    KW Try.prog 11 76 (seglaw_World_Untouched.RV R) ([(0, [1, 0, 1, 0, 0, 1, 0, 0, 1, 0, 0]), (2, [1, 0, 1, 0, 0, 1, 0, 0, 1, 0, 0]), (1, [2]), (1, [1]), (0, [1, 0, 1, 0, 0, 1, 1]), (2, [1, 0, 1, 0, 0]), (1, [0]), (0, [1, 1])].map (toItem (Try.f11.body.getD .skip))) [(0, .pointer w0), (3, .int .i64 j), (4, .int .i64 i)] w := by
  obtain ⟨I, m, hBase, hr⟩ := h
  refine KW.loop (fun m σ w => ∃ (w0 : Option Addr) (j i : Int), σ = [(0, .pointer w0), (3, .int .i64 j), (4, .int .i64 i)] ∧ I m w0 j i w) ?_ m _ w ⟨w0, j, i, rfl, hBase⟩
  rintro m ih σ w ⟨w0, j, i, rfl, hI⟩
  exact seglaw_World_Untouched.L2b_sound hN1 (N2 := fun w0' j' i' w' => ∃ m', m' < m ∧ I m' w0' j' i' w') (fun w0' j' i' w' hx => by obtain ⟨m', hlt, hI'⟩ := hx; exact ih m' hlt _ w' ⟨w0', j', i', rfl, hI'⟩) w0 j i w (hr m w0 j i w hI)
def seglaw_World_Untouched.L4b (w0 : Option Addr) (j i : Int) (w : World) (N3 : Option Addr → Int → World → Prop) (N4 : Option Addr → Int → Int → World → Prop) (R : Bool → World → Prop) : Prop :=
  Pn w0 fun a =>
  LdL (a.add 22) w fun x54_b x54_l x54_c =>
  Pn x54_b fun a_1 =>
  (0 ≤ j ∧ j < ((x54_l : Nat) : Int)) ∧
  LdL (Addr.add a_1 (j.toNat * 1)) w fun x57_b x57_l x57_c =>
  Bm (decide (i < ((x57_l : Nat) : Int))) (
    Pn w0 fun a_2 =>
    LdL (a_2.add 22) w.drew fun x65_b x65_l x65_c =>
    Pn x65_b fun a_3 =>
    (0 ≤ j ∧ j < ((x65_l : Nat) : Int)) ∧
    LdL (Addr.add a_3 (j.toNat * 1)) w.drew fun x68_b x68_l x68_c =>
    Pn x68_b fun a_4 =>
    (0 ≤ i ∧ i < ((x68_l : Nat) : Int)) ∧
    LdI .u8 (Addr.add a_4 (i.toNat * 1)) w.drew fun x71 =>
    seglaw_Stamp.Call j i w.drew fun r74 w1 =>
    w1.cell? (Addr.add a_4 (i.toNat * 1)) = some (.int .u8 x71) ∧
    w1.cell? (Addr.add a_3 (j.toNat * 1)) = some (.slice x68_b x68_l x68_c) ∧
    w1.cell? (a_2.add 22) = some (.slice x65_b x65_l x65_c) ∧
    Bm (x71 != r74) (
      R false w1) (
      N4 w0 j (IntKind.i64.wrap (i + (1 : Int))) w1)) (
    N3 w0 (IntKind.i64.wrap (j + (1 : Int))) w)
theorem seglaw_World_Untouched.L4b_eq (w0 : Option Addr) (j i : Int) (w : World) (N3 : Option Addr → Int → World → Prop) (N4 : Option Addr → Int → Int → World → Prop) (R : Bool → World → Prop)  :
    (
  Pn w0 fun a =>
  LdL (a.add 22) w fun x54_b x54_l x54_c =>
  Pn x54_b fun a_1 =>
  (0 ≤ j ∧ j < ((x54_l : Nat) : Int)) ∧
  LdL (Addr.add a_1 (j.toNat * 1)) w fun x57_b x57_l x57_c =>
  Bm (decide (i < ((x57_l : Nat) : Int))) (
    Pn w0 fun a_2 =>
    LdL (a_2.add 22) w.drew fun x65_b x65_l x65_c =>
    Pn x65_b fun a_3 =>
    (0 ≤ j ∧ j < ((x65_l : Nat) : Int)) ∧
    LdL (Addr.add a_3 (j.toNat * 1)) w.drew fun x68_b x68_l x68_c =>
    Pn x68_b fun a_4 =>
    (0 ≤ i ∧ i < ((x68_l : Nat) : Int)) ∧
    LdI .u8 (Addr.add a_4 (i.toNat * 1)) w.drew fun x71 =>
    seglaw_Stamp.Call j i w.drew fun r74 w1 =>
    w1.cell? (Addr.add a_4 (i.toNat * 1)) = some (.int .u8 x71) ∧
    w1.cell? (Addr.add a_3 (j.toNat * 1)) = some (.slice x68_b x68_l x68_c) ∧
    w1.cell? (a_2.add 22) = some (.slice x65_b x65_l x65_c) ∧
    Bm (x71 != r74) (
      R false w1) (
      N4 w0 j (IntKind.i64.wrap (i + (1 : Int))) w1)) (
    N3 w0 (IntKind.i64.wrap (j + (1 : Int))) w)) = kstep Try.prog 76 Try.f11.results.toList (Try.f11.body.getD .skip) (seglaw_World_Untouched.RV R) (kvc Try.prog 76 Try.f11.results.toList (Try.f11.body.getD .skip) (seglaw_World_Untouched.RV R) [([(0, [1, 1, 0, 1, 0, 0, 1, 0, 0, 1, 0, 0]), (2, [1, 1, 0, 1, 0, 0, 1, 0, 0, 1, 0, 0]), (1, [6]), (1, [5]), (0, [1, 1, 0, 1, 0, 0, 1, 1]), (2, [1, 1, 0, 1, 0, 0]), (1, [4]), (0, [1, 1, 1])], fun σ w => dP (slotOf σ 0) fun w0_ => dI .i64 (slotOf σ 5) fun j_ => dI .i64 (slotOf σ 6) fun i_ => N4 w0_ j_ i_ w),
    ([(0, [1, 1, 0, 1, 0, 0]), (2, [1, 1, 0, 1, 0, 0]), (1, [4]), (0, [1, 1, 1])], fun σ w => dP (slotOf σ 0) fun w0_ => dI .i64 (slotOf σ 5) fun j_ => N3 w0_ j_ w)] 2000) [(0, [1, 1, 0, 1, 0, 0, 1, 0, 0, 1, 0, 0]), (2, [1, 1, 0, 1, 0, 0, 1, 0, 0, 1, 0, 0]), (1, [6]), (1, [5]), (0, [1, 1, 0, 1, 0, 0, 1, 1]), (2, [1, 1, 0, 1, 0, 0]), (1, [4]), (0, [1, 1, 1])] [(0, .pointer w0), (5, .int .i64 j), (6, .int .i64 i)] w := by kernel_rfl
theorem seglaw_World_Untouched.L4b_sound {R : Bool → World → Prop} {N3 : Option Addr → Int → World → Prop} (hN3 : ∀ w0 j w, N3 w0 j w → KW Try.prog 11 76 (seglaw_World_Untouched.RV R) ([(0, [1, 1, 0, 1, 0, 0]), (2, [1, 1, 0, 1, 0, 0]), (1, [4]), (0, [1, 1, 1])].map (toItem (Try.f11.body.getD .skip))) [(0, .pointer w0), (5, .int .i64 j)] w) {N4 : Option Addr → Int → Int → World → Prop} (hN4 : ∀ w0 j i w, N4 w0 j i w → KW Try.prog 11 76 (seglaw_World_Untouched.RV R) ([(0, [1, 1, 0, 1, 0, 0, 1, 0, 0, 1, 0, 0]), (2, [1, 1, 0, 1, 0, 0, 1, 0, 0, 1, 0, 0]), (1, [6]), (1, [5]), (0, [1, 1, 0, 1, 0, 0, 1, 1]), (2, [1, 1, 0, 1, 0, 0]), (1, [4]), (0, [1, 1, 1])].map (toItem (Try.f11.body.getD .skip))) [(0, .pointer w0), (5, .int .i64 j), (6, .int .i64 i)] w) (w0 : Option Addr) (j i : Int) (w : World) (h : seglaw_World_Untouched.L4b w0 j i w N3 N4 R) :
    KW Try.prog 11 76 (seglaw_World_Untouched.RV R) ([(0, [1, 1, 0, 1, 0, 0, 1, 0, 0, 1, 0, 0]), (2, [1, 1, 0, 1, 0, 0, 1, 0, 0, 1, 0, 0]), (1, [6]), (1, [5]), (0, [1, 1, 0, 1, 0, 0, 1, 1]), (2, [1, 1, 0, 1, 0, 0]), (1, [4]), (0, [1, 1, 1])].map (toItem (Try.f11.body.getD .skip))) [(0, .pointer w0), (5, .int .i64 j), (6, .int .i64 i)] w := by
  exact block_spec Try.func11 Try.mixed (stops_cons (fun σ w h => by
      obtain ⟨w0_, e0, h⟩ := dP_elim h
      obtain ⟨j_, e1, h⟩ := dI_elim h
      obtain ⟨i_, e2, h⟩ := dI_elim h
      exact (hN4 w0_ j_ i_ w h).weaken (Sub.cons (Sub.cons (Sub.cons (Sub.nil _) e2) e1) e0)) (stops_cons (fun σ w h => by
      obtain ⟨w0_, e0, h⟩ := dP_elim h
      obtain ⟨j_, e1, h⟩ := dI_elim h
      exact (hN3 w0_ j_ w h).weaken (Sub.cons (Sub.cons (Sub.nil _) e1) e0)) stops_nil)) (Eq.mp (seglaw_World_Untouched.L4b_eq w0 j i w N3 N4 R ) h)
def seglaw_World_Untouched.L4 (w0 : Option Addr) (j i : Int) (w : World) (N3 : Option Addr → Int → World → Prop) (R : Bool → World → Prop) : Prop :=
  ∃ (I : Nat → Option Addr → Int → Int → World → Prop) (m : Nat), I m w0 j i w ∧ ∀ m w0 j i w, I m w0 j i w → seglaw_World_Untouched.L4b w0 j i w N3 (fun w0' j' i' w' => ∃ m', m' < m ∧ I m' w0' j' i' w') R
theorem seglaw_World_Untouched.L4_sound {R : Bool → World → Prop} {N3 : Option Addr → Int → World → Prop} (hN3 : ∀ w0 j w, N3 w0 j w → KW Try.prog 11 76 (seglaw_World_Untouched.RV R) ([(0, [1, 1, 0, 1, 0, 0]), (2, [1, 1, 0, 1, 0, 0]), (1, [4]), (0, [1, 1, 1])].map (toItem (Try.f11.body.getD .skip))) [(0, .pointer w0), (5, .int .i64 j)] w) (w0 : Option Addr) (j i : Int) (w : World) (h : seglaw_World_Untouched.L4 w0 j i w N3 R) :
    KW Try.prog 11 76 (seglaw_World_Untouched.RV R) ([(0, [1, 1, 0, 1, 0, 0, 1, 0, 0, 1, 0, 0]), (2, [1, 1, 0, 1, 0, 0, 1, 0, 0, 1, 0, 0]), (1, [6]), (1, [5]), (0, [1, 1, 0, 1, 0, 0, 1, 1]), (2, [1, 1, 0, 1, 0, 0]), (1, [4]), (0, [1, 1, 1])].map (toItem (Try.f11.body.getD .skip))) [(0, .pointer w0), (5, .int .i64 j), (6, .int .i64 i)] w := by
  obtain ⟨I, m, hBase, hr⟩ := h
  refine KW.loop (fun m σ w => ∃ (w0 : Option Addr) (j i : Int), σ = [(0, .pointer w0), (5, .int .i64 j), (6, .int .i64 i)] ∧ I m w0 j i w) ?_ m _ w ⟨w0, j, i, rfl, hBase⟩
  rintro m ih σ w ⟨w0, j, i, rfl, hI⟩
  exact seglaw_World_Untouched.L4b_sound hN3 (N4 := fun w0' j' i' w' => ∃ m', m' < m ∧ I m' w0' j' i' w') (fun w0' j' i' w' hx => by obtain ⟨m', hlt, hI'⟩ := hx; exact ih m' hlt _ w' ⟨w0', j', i', rfl, hI'⟩) w0 j i w (hr m w0 j i w hI)
def seglaw_World_Untouched.L3b (w0 : Option Addr) (j : Int) (w : World)  (N3 : Option Addr → Int → World → Prop) (R : Bool → World → Prop) : Prop :=
  Pn w0 fun a =>
  LdL (a.add 22) w fun x45_b x45_l x45_c =>
  Bm (decide (j < ((x45_l : Nat) : Int))) (
    seglaw_World_Untouched.L4 w0 j (0 : Int) w N3 R) (
    R true w)
theorem seglaw_World_Untouched.L3b_eq (w0 : Option Addr) (j : Int) (w : World)  (N3 : Option Addr → Int → World → Prop) (R : Bool → World → Prop) (sL4 : Option Addr → Int → Int → World → Prop) :
    (
  Pn w0 fun a =>
  LdL (a.add 22) w fun x45_b x45_l x45_c =>
  Bm (decide (j < ((x45_l : Nat) : Int))) (
    sL4 w0 j (0 : Int) w) (
    R true w)) = kstep Try.prog 76 Try.f11.results.toList (Try.f11.body.getD .skip) (seglaw_World_Untouched.RV R) (kvc Try.prog 76 Try.f11.results.toList (Try.f11.body.getD .skip) (seglaw_World_Untouched.RV R) [([(0, [1, 1, 0, 1, 0, 0, 1, 0, 0, 1, 0, 0]), (2, [1, 1, 0, 1, 0, 0, 1, 0, 0, 1, 0, 0]), (1, [6]), (1, [5]), (0, [1, 1, 0, 1, 0, 0, 1, 1]), (2, [1, 1, 0, 1, 0, 0]), (1, [4]), (0, [1, 1, 1])], fun σ w => dP (slotOf σ 0) fun w0_ => dI .i64 (slotOf σ 5) fun j_ => dI .i64 (slotOf σ 6) fun i_ => sL4 w0_ j_ i_ w)] 2000) [(0, [1, 1, 0, 1, 0, 0]), (2, [1, 1, 0, 1, 0, 0]), (1, [4]), (0, [1, 1, 1])] [(0, .pointer w0), (5, .int .i64 j)] w := by kernel_rfl
theorem seglaw_World_Untouched.L3b_sound {R : Bool → World → Prop} {N3 : Option Addr → Int → World → Prop} (hN3 : ∀ w0 j w, N3 w0 j w → KW Try.prog 11 76 (seglaw_World_Untouched.RV R) ([(0, [1, 1, 0, 1, 0, 0]), (2, [1, 1, 0, 1, 0, 0]), (1, [4]), (0, [1, 1, 1])].map (toItem (Try.f11.body.getD .skip))) [(0, .pointer w0), (5, .int .i64 j)] w) (w0 : Option Addr) (j : Int) (w : World) (h : seglaw_World_Untouched.L3b w0 j w  N3 R) :
    KW Try.prog 11 76 (seglaw_World_Untouched.RV R) ([(0, [1, 1, 0, 1, 0, 0]), (2, [1, 1, 0, 1, 0, 0]), (1, [4]), (0, [1, 1, 1])].map (toItem (Try.f11.body.getD .skip))) [(0, .pointer w0), (5, .int .i64 j)] w := by
  exact block_spec Try.func11 Try.mixed (stops_cons (fun σ w h => by
      obtain ⟨w0_, e0, h⟩ := dP_elim h
      obtain ⟨j_, e1, h⟩ := dI_elim h
      obtain ⟨i_, e2, h⟩ := dI_elim h
      exact (seglaw_World_Untouched.L4_sound hN3 w0_ j_ i_ w h).weaken (Sub.cons (Sub.cons (Sub.cons (Sub.nil _) e2) e1) e0)) stops_nil) (Eq.mp (seglaw_World_Untouched.L3b_eq w0 j w  N3 R (fun w0_ j_ i_ w => seglaw_World_Untouched.L4 w0_ j_ i_ w N3 R)) h)
def seglaw_World_Untouched.L3 (w0 : Option Addr) (j : Int) (w : World)  (R : Bool → World → Prop) : Prop :=
  ∃ (I : Nat → Option Addr → Int → World → Prop) (m : Nat), I m w0 j w ∧ ∀ m w0 j w, I m w0 j w → seglaw_World_Untouched.L3b w0 j w  (fun w0' j' w' => ∃ m', m' < m ∧ I m' w0' j' w') R
theorem seglaw_World_Untouched.L3_sound {R : Bool → World → Prop}  (w0 : Option Addr) (j : Int) (w : World) (h : seglaw_World_Untouched.L3 w0 j w  R) :
    KW Try.prog 11 76 (seglaw_World_Untouched.RV R) ([(0, [1, 1, 0, 1, 0, 0]), (2, [1, 1, 0, 1, 0, 0]), (1, [4]), (0, [1, 1, 1])].map (toItem (Try.f11.body.getD .skip))) [(0, .pointer w0), (5, .int .i64 j)] w := by
  obtain ⟨I, m, hBase, hr⟩ := h
  refine KW.loop (fun m σ w => ∃ (w0 : Option Addr) (j : Int), σ = [(0, .pointer w0), (5, .int .i64 j)] ∧ I m w0 j w) ?_ m _ w ⟨w0, j, rfl, hBase⟩
  rintro m ih σ w ⟨w0, j, rfl, hI⟩
  exact seglaw_World_Untouched.L3b_sound  (N3 := fun w0' j' w' => ∃ m', m' < m ∧ I m' w0' j' w') (fun w0' j' w' hx => by obtain ⟨m', hlt, hI'⟩ := hx; exact ih m' hlt _ w' ⟨w0', j', rfl, hI'⟩) w0 j w (hr m w0 j w hI)
def seglaw_World_Untouched.L1b (w0 : Option Addr) (j : Int) (w : World)  (N1 : Option Addr → Int → World → Prop) (R : Bool → World → Prop) : Prop :=
  Pn w0 fun a =>
  LdL (a.add 23) w fun x11_b x11_l x11_c =>
  Bm (decide (j < ((x11_l : Nat) : Int))) (
    seglaw_World_Untouched.L2 w0 j (0 : Int) w N1 R) (
    seglaw_World_Untouched.L3 w0 (0 : Int) w  R)
theorem seglaw_World_Untouched.L1b_eq (w0 : Option Addr) (j : Int) (w : World)  (N1 : Option Addr → Int → World → Prop) (R : Bool → World → Prop) (sL2 : Option Addr → Int → Int → World → Prop) (sL3 : Option Addr → Int → World → Prop) :
    (
  Pn w0 fun a =>
  LdL (a.add 23) w fun x11_b x11_l x11_c =>
  Bm (decide (j < ((x11_l : Nat) : Int))) (
    sL2 w0 j (0 : Int) w) (
    sL3 w0 (0 : Int) w)) = kstep Try.prog 76 Try.f11.results.toList (Try.f11.body.getD .skip) (seglaw_World_Untouched.RV R) (kvc Try.prog 76 Try.f11.results.toList (Try.f11.body.getD .skip) (seglaw_World_Untouched.RV R) [([(0, [1, 0, 1, 0, 0, 1, 0, 0, 1, 0, 0]), (2, [1, 0, 1, 0, 0, 1, 0, 0, 1, 0, 0]), (1, [2]), (1, [1]), (0, [1, 0, 1, 0, 0, 1, 1]), (2, [1, 0, 1, 0, 0]), (1, [0]), (0, [1, 1])], fun σ w => dP (slotOf σ 0) fun w0_ => dI .i64 (slotOf σ 3) fun j_ => dI .i64 (slotOf σ 4) fun i_ => sL2 w0_ j_ i_ w),
    ([(0, [1, 1, 0, 1, 0, 0]), (2, [1, 1, 0, 1, 0, 0]), (1, [4]), (0, [1, 1, 1])], fun σ w => dP (slotOf σ 0) fun w0_ => dI .i64 (slotOf σ 5) fun j_ => sL3 w0_ j_ w)] 2000) [(0, [1, 0, 1, 0, 0]), (2, [1, 0, 1, 0, 0]), (1, [0]), (0, [1, 1])] [(0, .pointer w0), (3, .int .i64 j)] w := by kernel_rfl
theorem seglaw_World_Untouched.L1b_sound {R : Bool → World → Prop} {N1 : Option Addr → Int → World → Prop} (hN1 : ∀ w0 j w, N1 w0 j w → KW Try.prog 11 76 (seglaw_World_Untouched.RV R) ([(0, [1, 0, 1, 0, 0]), (2, [1, 0, 1, 0, 0]), (1, [0]), (0, [1, 1])].map (toItem (Try.f11.body.getD .skip))) [(0, .pointer w0), (3, .int .i64 j)] w) (w0 : Option Addr) (j : Int) (w : World) (h : seglaw_World_Untouched.L1b w0 j w  N1 R) :
    KW Try.prog 11 76 (seglaw_World_Untouched.RV R) ([(0, [1, 0, 1, 0, 0]), (2, [1, 0, 1, 0, 0]), (1, [0]), (0, [1, 1])].map (toItem (Try.f11.body.getD .skip))) [(0, .pointer w0), (3, .int .i64 j)] w := by
  exact block_spec Try.func11 Try.mixed (stops_cons (fun σ w h => by
      obtain ⟨w0_, e0, h⟩ := dP_elim h
      obtain ⟨j_, e1, h⟩ := dI_elim h
      obtain ⟨i_, e2, h⟩ := dI_elim h
      exact (seglaw_World_Untouched.L2_sound hN1 w0_ j_ i_ w h).weaken (Sub.cons (Sub.cons (Sub.cons (Sub.nil _) e2) e1) e0)) (stops_cons (fun σ w h => by
      obtain ⟨w0_, e0, h⟩ := dP_elim h
      obtain ⟨j_, e1, h⟩ := dI_elim h
      exact (seglaw_World_Untouched.L3_sound  w0_ j_ w h).weaken (Sub.cons (Sub.cons (Sub.nil _) e1) e0)) stops_nil)) (Eq.mp (seglaw_World_Untouched.L1b_eq w0 j w  N1 R (fun w0_ j_ i_ w => seglaw_World_Untouched.L2 w0_ j_ i_ w N1 R) (fun w0_ j_ w => seglaw_World_Untouched.L3 w0_ j_ w  R)) h)
def seglaw_World_Untouched.L1 (w0 : Option Addr) (j : Int) (w : World)  (R : Bool → World → Prop) : Prop :=
  ∃ (I : Nat → Option Addr → Int → World → Prop) (m : Nat), I m w0 j w ∧ ∀ m w0 j w, I m w0 j w → seglaw_World_Untouched.L1b w0 j w  (fun w0' j' w' => ∃ m', m' < m ∧ I m' w0' j' w') R
theorem seglaw_World_Untouched.L1_sound {R : Bool → World → Prop}  (w0 : Option Addr) (j : Int) (w : World) (h : seglaw_World_Untouched.L1 w0 j w  R) :
    KW Try.prog 11 76 (seglaw_World_Untouched.RV R) ([(0, [1, 0, 1, 0, 0]), (2, [1, 0, 1, 0, 0]), (1, [0]), (0, [1, 1])].map (toItem (Try.f11.body.getD .skip))) [(0, .pointer w0), (3, .int .i64 j)] w := by
  obtain ⟨I, m, hBase, hr⟩ := h
  refine KW.loop (fun m σ w => ∃ (w0 : Option Addr) (j : Int), σ = [(0, .pointer w0), (3, .int .i64 j)] ∧ I m w0 j w) ?_ m _ w ⟨w0, j, rfl, hBase⟩
  rintro m ih σ w ⟨w0, j, rfl, hI⟩
  exact seglaw_World_Untouched.L1b_sound  (N1 := fun w0' j' w' => ∃ m', m' < m ∧ I m' w0' j' w') (fun w0' j' w' hx => by obtain ⟨m', hlt, hI'⟩ := hx; exact ih m' hlt _ w' ⟨w0', j', rfl, hI'⟩) w0 j w (hr m w0 j w hI)
def seglaw_World_Untouched.B0 (w0 : Option Addr) (w : World)   (R : Bool → World → Prop) : Prop :=
  seglaw_World_Untouched.L1 w0 (0 : Int) w  R
theorem seglaw_World_Untouched.B0_eq (w0 : Option Addr) (w : World)   (R : Bool → World → Prop) (sL1 : Option Addr → Int → World → Prop) :
    (
  sL1 w0 (0 : Int) w) = kstep Try.prog 76 Try.f11.results.toList (Try.f11.body.getD .skip) (seglaw_World_Untouched.RV R) (kvc Try.prog 76 Try.f11.results.toList (Try.f11.body.getD .skip) (seglaw_World_Untouched.RV R) [([(0, [1, 0, 1, 0, 0]), (2, [1, 0, 1, 0, 0]), (1, [0]), (0, [1, 1])], fun σ w => dP (slotOf σ 0) fun w0_ => dI .i64 (slotOf σ 3) fun j_ => sL1 w0_ j_ w)] 2000) [(0, [])] [(0, .pointer w0)] w := by kernel_rfl
theorem seglaw_World_Untouched.B0_sound {R : Bool → World → Prop}  (w0 : Option Addr) (w : World) (h : seglaw_World_Untouched.B0 w0 w   R) :
    KW Try.prog 11 76 (seglaw_World_Untouched.RV R) ([(0, [])].map (toItem (Try.f11.body.getD .skip))) [(0, .pointer w0)] w := by
  exact block_spec Try.func11 Try.mixed (stops_cons (fun σ w h => by
      obtain ⟨w0_, e0, h⟩ := dP_elim h
      obtain ⟨j_, e1, h⟩ := dI_elim h
      exact (seglaw_World_Untouched.L1_sound  w0_ j_ w h).weaken (Sub.cons (Sub.cons (Sub.nil _) e1) e0)) stops_nil) (Eq.mp (seglaw_World_Untouched.B0_eq w0 w   R (fun w0_ j_ w => seglaw_World_Untouched.L1 w0_ j_ w  R)) h)
theorem seglaw_World_Untouched.sound (w0 : Option Addr) (w : World) (R : Bool → World → Prop) (h : seglaw_World_Untouched.B0 w0 w R) : seglaw_World_Untouched.Call w0 w R := by
  have hc := calls_of_block (args := #[.pointer w0]) Try.func11 (body := (Try.f11.body.getD .skip)) (by kernel_rfl) (by kernel_rfl) (args_slot _) (seglaw_World_Untouched.B0_sound w0 w h)
  exact hc.mono fun e w' he => by
    obtain ⟨v, rfl, hv⟩ := he
    exact seglaw_World_Untouched.RV_elim hv
def seg_NewSendBuf.B0  (w : World)   (R : Option Addr → World → Prop) : Prop :=
  New (.cells #[.int .u8 (0 : Int), .int .u8 (0 : Int), .int .u8 (0 : Int), .int .u8 (0 : Int), .int .u8 (0 : Int), .int .u8 (0 : Int), .int .u8 (0 : Int), .int .u8 (0 : Int), .int .u8 (0 : Int), .int .u8 (0 : Int), .int .u8 (0 : Int), .int .u8 (0 : Int), .int .u8 (0 : Int), .int .u8 (0 : Int), .int .u8 (0 : Int), .int .u8 (0 : Int), .int .i64 (0 : Int), .int .i64 (0 : Int), .int .i64 (0 : Int), .int .u8 (0 : Int)] 53) w fun b2 w1 =>
  R (some ⟨b2, 0, none⟩) w1
theorem seg_NewSendBuf.B0_eq  (w : World)   (R : Option Addr → World → Prop)  :
    (
  New (.cells #[.int .u8 (0 : Int), .int .u8 (0 : Int), .int .u8 (0 : Int), .int .u8 (0 : Int), .int .u8 (0 : Int), .int .u8 (0 : Int), .int .u8 (0 : Int), .int .u8 (0 : Int), .int .u8 (0 : Int), .int .u8 (0 : Int), .int .u8 (0 : Int), .int .u8 (0 : Int), .int .u8 (0 : Int), .int .u8 (0 : Int), .int .u8 (0 : Int), .int .u8 (0 : Int), .int .i64 (0 : Int), .int .i64 (0 : Int), .int .i64 (0 : Int), .int .u8 (0 : Int)] 53) w fun b2 w1 =>
  R (some ⟨b2, 0, none⟩) w1) = kstep Try.prog 3 Try.f12.results.toList (Try.f12.body.getD .skip) (seg_NewSendBuf.RV R) (kvc Try.prog 3 Try.f12.results.toList (Try.f12.body.getD .skip) (seg_NewSendBuf.RV R) [] 2000) [(0, [])] [] w := by kernel_rfl
theorem seg_NewSendBuf.B0_sound {R : Option Addr → World → Prop}   (w : World) (h : seg_NewSendBuf.B0  w   R) :
    KW Try.prog 12 3 (seg_NewSendBuf.RV R) ([(0, [])].map (toItem (Try.f12.body.getD .skip))) [] w := by
  exact block_spec Try.func12 Try.mixed stops_nil (Eq.mp (seg_NewSendBuf.B0_eq  w   R ) h)
theorem seg_NewSendBuf.sound  (w : World) (R : Option Addr → World → Prop) (h : seg_NewSendBuf.B0  w R) : seg_NewSendBuf.Call  w R := by
  have hc := calls_of_block (args := #[]) Try.func12 (body := (Try.f12.body.getD .skip)) (by kernel_rfl) (by kernel_rfl) (args_slot _) (seg_NewSendBuf.B0_sound  w h)
  exact hc.mono fun e w' he => by
    obtain ⟨v, rfl, hv⟩ := he
    exact seg_NewSendBuf.RV_elim hv
end Go.Proofs.Qxb6500426a
