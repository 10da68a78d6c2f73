import Derived.Test.Qxb6500424aGreatSig
set_option maxRecDepth 100000
set_option linter.unusedVariables false
open Go.Vc
namespace Go.Proofs.Qxb6500424aGreat
def hostlaw_Refines.B0 (script_b : Option Addr) (script_l script_c : Nat) (w : World)   (R : Bool → World → Prop) : Prop :=
  hostlaw_RefinesUpTo.Call script_b script_l script_c w fun r4 w1 =>
  R (r4 == (-1 : Int)) w1
theorem hostlaw_Refines.B0_eq (script_b : Option Addr) (script_l script_c : Nat) (w : World)   (R : Bool → World → Prop)  :
    (
  hostlaw_RefinesUpTo.Call script_b script_l script_c w fun r4 w1 =>
  R (r4 == (-1 : Int)) w1) = kstep Tryz.prog 6 Tryz.f3.results.toList (Tryz.f3.body.getD .skip) (hostlaw_Refines.RV R) (kvc Tryz.prog 6 Tryz.f3.results.toList (Tryz.f3.body.getD .skip) (hostlaw_Refines.RV R) [] 2000) [(0, [])] [(0, .slice script_b script_l script_c)] w := by kernel_rfl
theorem hostlaw_Refines.B0_sound {R : Bool → World → Prop}  (script_b : Option Addr) (script_l script_c : Nat) (w : World) (h : hostlaw_Refines.B0 script_b script_l script_c w   R) :
    KW Tryz.prog 3 6 (hostlaw_Refines.RV R) ([(0, [])].map (toItem (Tryz.f3.body.getD .skip))) [(0, .slice script_b script_l script_c)] w := by
  exact block_spec Tryz.func3 Tryz.mixed stops_nil (Eq.mp (hostlaw_Refines.B0_eq script_b script_l script_c w   R ) h)
theorem hostlaw_Refines.sound (script_b : Option Addr) (script_l script_c : Nat) (w : World) (R : Bool → World → Prop) (h : hostlaw_Refines.B0 script_b script_l script_c w R) : hostlaw_Refines.Call script_b script_l script_c w R := by
  have hc := calls_of_block (args := #[.slice script_b script_l script_c]) Tryz.func3 (body := (Tryz.f3.body.getD .skip)) (by kernel_rfl) (by kernel_rfl) (args_slot _) (hostlaw_Refines.B0_sound script_b script_l script_c w h)
  exact hc.mono fun e w' he => by
    obtain ⟨v, rfl, hv⟩ := he
    exact hostlaw_Refines.RV_elim hv
def hostlaw_RefinesSteady.B0 (script_b : Option Addr) (script_l script_c : Nat) (w : World)   (R : Bool → World → Prop) : Prop :=
  hostlaw_walk.Call script_b script_l script_c true false w fun r7_0 r7_1 w1 =>
  R (r7_0 == (-1 : Int)) w1
theorem hostlaw_RefinesSteady.B0_eq (script_b : Option Addr) (script_l script_c : Nat) (w : World)   (R : Bool → World → Prop)  :
    (
  hostlaw_walk.Call script_b script_l script_c true false w fun r7_0 r7_1 w1 =>
  R (r7_0 == (-1 : Int)) w1) = kstep Tryz.prog 12 Tryz.f4.results.toList (Tryz.f4.body.getD .skip) (hostlaw_RefinesSteady.RV R) (kvc Tryz.prog 12 Tryz.f4.results.toList (Tryz.f4.body.getD .skip) (hostlaw_RefinesSteady.RV R) [] 2000) [(0, [])] [(0, .slice script_b script_l script_c)] w := by kernel_rfl
theorem hostlaw_RefinesSteady.B0_sound {R : Bool → World → Prop}  (script_b : Option Addr) (script_l script_c : Nat) (w : World) (h : hostlaw_RefinesSteady.B0 script_b script_l script_c w   R) :
    KW Tryz.prog 4 12 (hostlaw_RefinesSteady.RV R) ([(0, [])].map (toItem (Tryz.f4.body.getD .skip))) [(0, .slice script_b script_l script_c)] w := by
  exact block_spec Tryz.func4 Tryz.mixed stops_nil (Eq.mp (hostlaw_RefinesSteady.B0_eq script_b script_l script_c w   R ) h)
theorem hostlaw_RefinesSteady.sound (script_b : Option Addr) (script_l script_c : Nat) (w : World) (R : Bool → World → Prop) (h : hostlaw_RefinesSteady.B0 script_b script_l script_c w R) : hostlaw_RefinesSteady.Call script_b script_l script_c w R := by
  have hc := calls_of_block (args := #[.slice script_b script_l script_c]) Tryz.func4 (body := (Tryz.f4.body.getD .skip)) (by kernel_rfl) (by kernel_rfl) (args_slot _) (hostlaw_RefinesSteady.B0_sound script_b script_l script_c w h)
  exact hc.mono fun e w' he => by
    obtain ⟨v, rfl, hv⟩ := he
    exact hostlaw_RefinesSteady.RV_elim hv
def hostlaw_RefinesWork.B0 (script_b : Option Addr) (script_l script_c : Nat) (w : World)   (R : Bool → World → Prop) : Prop :=
  hostlaw_RefinesWorkUpTo.Call script_b script_l script_c w fun r4 w1 =>
  R (r4 == (-1 : Int)) w1
theorem hostlaw_RefinesWork.B0_eq (script_b : Option Addr) (script_l script_c : Nat) (w : World)   (R : Bool → World → Prop)  :
    (
  hostlaw_RefinesWorkUpTo.Call script_b script_l script_c w fun r4 w1 =>
  R (r4 == (-1 : Int)) w1) = kstep Tryz.prog 6 Tryz.f5.results.toList (Tryz.f5.body.getD .skip) (hostlaw_RefinesWork.RV R) (kvc Tryz.prog 6 Tryz.f5.results.toList (Tryz.f5.body.getD .skip) (hostlaw_RefinesWork.RV R) [] 2000) [(0, [])] [(0, .slice script_b script_l script_c)] w := by kernel_rfl
theorem hostlaw_RefinesWork.B0_sound {R : Bool → World → Prop}  (script_b : Option Addr) (script_l script_c : Nat) (w : World) (h : hostlaw_RefinesWork.B0 script_b script_l script_c w   R) :
    KW Tryz.prog 5 6 (hostlaw_RefinesWork.RV R) ([(0, [])].map (toItem (Tryz.f5.body.getD .skip))) [(0, .slice script_b script_l script_c)] w := by
  exact block_spec Tryz.func5 Tryz.mixed stops_nil (Eq.mp (hostlaw_RefinesWork.B0_eq script_b script_l script_c w   R ) h)
theorem hostlaw_RefinesWork.sound (script_b : Option Addr) (script_l script_c : Nat) (w : World) (R : Bool → World → Prop) (h : hostlaw_RefinesWork.B0 script_b script_l script_c w R) : hostlaw_RefinesWork.Call script_b script_l script_c w R := by
  have hc := calls_of_block (args := #[.slice script_b script_l script_c]) Tryz.func5 (body := (Tryz.f5.body.getD .skip)) (by kernel_rfl) (by kernel_rfl) (args_slot _) (hostlaw_RefinesWork.B0_sound script_b script_l script_c w h)
  exact hc.mono fun e w' he => by
    obtain ⟨v, rfl, hv⟩ := he
    exact hostlaw_RefinesWork.RV_elim hv
def hostlaw_RefinesFair.B0 (script_b : Option Addr) (script_l script_c : Nat) (w : World)   (R : Bool → World → Prop) : Prop :=
  hostlaw_RefinesFairUpTo.Call script_b script_l script_c w fun r4 w1 =>
  R (r4 == (-1 : Int)) w1
theorem hostlaw_RefinesFair.B0_eq (script_b : Option Addr) (script_l script_c : Nat) (w : World)   (R : Bool → World → Prop)  :
    (
  hostlaw_RefinesFairUpTo.Call script_b script_l script_c w fun r4 w1 =>
  R (r4 == (-1 : Int)) w1) = kstep Tryz.prog 6 Tryz.f6.results.toList (Tryz.f6.body.getD .skip) (hostlaw_RefinesFair.RV R) (kvc Tryz.prog 6 Tryz.f6.results.toList (Tryz.f6.body.getD .skip) (hostlaw_RefinesFair.RV R) [] 2000) [(0, [])] [(0, .slice script_b script_l script_c)] w := by kernel_rfl
theorem hostlaw_RefinesFair.B0_sound {R : Bool → World → Prop}  (script_b : Option Addr) (script_l script_c : Nat) (w : World) (h : hostlaw_RefinesFair.B0 script_b script_l script_c w   R) :
    KW Tryz.prog 6 6 (hostlaw_RefinesFair.RV R) ([(0, [])].map (toItem (Tryz.f6.body.getD .skip))) [(0, .slice script_b script_l script_c)] w := by
  exact block_spec Tryz.func6 Tryz.mixed stops_nil (Eq.mp (hostlaw_RefinesFair.B0_eq script_b script_l script_c w   R ) h)
theorem hostlaw_RefinesFair.sound (script_b : Option Addr) (script_l script_c : Nat) (w : World) (R : Bool → World → Prop) (h : hostlaw_RefinesFair.B0 script_b script_l script_c w R) : hostlaw_RefinesFair.Call script_b script_l script_c w R := by
  have hc := calls_of_block (args := #[.slice script_b script_l script_c]) Tryz.func6 (body := (Tryz.f6.body.getD .skip)) (by kernel_rfl) (by kernel_rfl) (args_slot _) (hostlaw_RefinesFair.B0_sound script_b script_l script_c w h)
  exact hc.mono fun e w' he => by
    obtain ⟨v, rfl, hv⟩ := he
    exact hostlaw_RefinesFair.RV_elim hv
def hostlaw_RefinesQuiet.B0 (script_b : Option Addr) (script_l script_c : Nat) (w : World)   (R : Bool → World → Prop) : Prop :=
  hostlaw_RefinesQuietUpTo.Call script_b script_l script_c w fun r4 w1 =>
  R (r4 == (-1 : Int)) w1
theorem hostlaw_RefinesQuiet.B0_eq (script_b : Option Addr) (script_l script_c : Nat) (w : World)   (R : Bool → World → Prop)  :
    (
  hostlaw_RefinesQuietUpTo.Call script_b script_l script_c w fun r4 w1 =>
  R (r4 == (-1 : Int)) w1) = kstep Tryz.prog 6 Tryz.f7.results.toList (Tryz.f7.body.getD .skip) (hostlaw_RefinesQuiet.RV R) (kvc Tryz.prog 6 Tryz.f7.results.toList (Tryz.f7.body.getD .skip) (hostlaw_RefinesQuiet.RV R) [] 2000) [(0, [])] [(0, .slice script_b script_l script_c)] w := by kernel_rfl
theorem hostlaw_RefinesQuiet.B0_sound {R : Bool → World → Prop}  (script_b : Option Addr) (script_l script_c : Nat) (w : World) (h : hostlaw_RefinesQuiet.B0 script_b script_l script_c w   R) :
    KW Tryz.prog 7 6 (hostlaw_RefinesQuiet.RV R) ([(0, [])].map (toItem (Tryz.f7.body.getD .skip))) [(0, .slice script_b script_l script_c)] w := by
  exact block_spec Tryz.func7 Tryz.mixed stops_nil (Eq.mp (hostlaw_RefinesQuiet.B0_eq script_b script_l script_c w   R ) h)
theorem hostlaw_RefinesQuiet.sound (script_b : Option Addr) (script_l script_c : Nat) (w : World) (R : Bool → World → Prop) (h : hostlaw_RefinesQuiet.B0 script_b script_l script_c w R) : hostlaw_RefinesQuiet.Call script_b script_l script_c w R := by
  have hc := calls_of_block (args := #[.slice script_b script_l script_c]) Tryz.func7 (body := (Tryz.f7.body.getD .skip)) (by kernel_rfl) (by kernel_rfl) (args_slot _) (hostlaw_RefinesQuiet.B0_sound script_b script_l script_c w h)
  exact hc.mono fun e w' he => by
    obtain ⟨v, rfl, hv⟩ := he
    exact hostlaw_RefinesQuiet.RV_elim hv
def hostlaw_RefinesUpTo.B0 (script_b : Option Addr) (script_l script_c : Nat) (w : World)   (R : Int → World → Prop) : Prop :=
  hostlaw_walk.Call script_b script_l script_c false false w fun r7_0 r7_1 w1 =>
  R r7_0 w1
theorem hostlaw_RefinesUpTo.B0_eq (script_b : Option Addr) (script_l script_c : Nat) (w : World)   (R : Int → World → Prop)  :
    (
  hostlaw_walk.Call script_b script_l script_c false false w fun r7_0 r7_1 w1 =>
  R r7_0 w1) = kstep Tryz.prog 11 Tryz.f8.results.toList (Tryz.f8.body.getD .skip) (hostlaw_RefinesUpTo.RV R) (kvc Tryz.prog 11 Tryz.f8.results.toList (Tryz.f8.body.getD .skip) (hostlaw_RefinesUpTo.RV R) [] 2000) [(0, [])] [(0, .slice script_b script_l script_c)] w := by kernel_rfl
theorem hostlaw_RefinesUpTo.B0_sound {R : Int → World → Prop}  (script_b : Option Addr) (script_l script_c : Nat) (w : World) (h : hostlaw_RefinesUpTo.B0 script_b script_l script_c w   R) :
    KW Tryz.prog 8 11 (hostlaw_RefinesUpTo.RV R) ([(0, [])].map (toItem (Tryz.f8.body.getD .skip))) [(0, .slice script_b script_l script_c)] w := by
  exact block_spec Tryz.func8 Tryz.mixed stops_nil (Eq.mp (hostlaw_RefinesUpTo.B0_eq script_b script_l script_c w   R ) h)
theorem hostlaw_RefinesUpTo.sound (script_b : Option Addr) (script_l script_c : Nat) (w : World) (R : Int → World → Prop) (h : hostlaw_RefinesUpTo.B0 script_b script_l script_c w R) : hostlaw_RefinesUpTo.Call script_b script_l script_c w R := by
  have hc := calls_of_block (args := #[.slice script_b script_l script_c]) Tryz.func8 (body := (Tryz.f8.body.getD .skip)) (by kernel_rfl) (by kernel_rfl) (args_slot _) (hostlaw_RefinesUpTo.B0_sound script_b script_l script_c w h)
  exact hc.mono fun e w' he => by
    obtain ⟨v, rfl, hv⟩ := he
    exact hostlaw_RefinesUpTo.RV_elim hv
def hostlaw_walk.B2 (w0 : Option Addr) (n : Int) (w : World)   (R : Int → Int → World → Prop) : Prop :=
  hostlaw_World_Untouched.Call w0 w fun r41 w1 =>
  Bm (!r41) (
    Bm (n == (0 : Int)) (
      R (0 : Int) (0 : Int) w1) (
      R (IntKind.i64.wrap (n - (1 : Int))) n w1)) (
    R (-1 : Int) n w1)
theorem hostlaw_walk.B2_eq (w0 : Option Addr) (n : Int) (w : World)   (R : Int → Int → World → Prop)  :
    (
  hostlaw_World_Untouched.Call w0 w fun r41 w1 =>
  Bm (!r41) (
    Bm (n == (0 : Int)) (
      R (0 : Int) (0 : Int) w1) (
      R (IntKind.i64.wrap (n - (1 : Int))) n w1)) (
    R (-1 : Int) n w1)) = kstep Tryz.prog 49 Tryz.f9.results.toList (Tryz.f9.body.getD .skip) (hostlaw_walk.RV R) (kvc Tryz.prog 49 Tryz.f9.results.toList (Tryz.f9.body.getD .skip) (hostlaw_walk.RV R) [] 2000) [(0, [1, 1, 1, 1, 1, 1])] [(8, .pointer w0), (10, .int .i64 n)] w := by kernel_rfl
theorem hostlaw_walk.B2_sound {R : Int → Int → World → Prop}  (w0 : Option Addr) (n : Int) (w : World) (h : hostlaw_walk.B2 w0 n w   R) :
    KW Tryz.prog 9 49 (hostlaw_walk.RV R) ([(0, [1, 1, 1, 1, 1, 1])].map (toItem (Tryz.f9.body.getD .skip))) [(8, .pointer w0), (10, .int .i64 n)] w := by
  exact block_spec Tryz.func9 Tryz.mixed stops_nil (Eq.mp (hostlaw_walk.B2_eq w0 n w   R ) h)
def hostlaw_walk.B1 (script_b : Option Addr) (script_l script_c : Nat) (steady : Bool) (w0 : Option Addr) (i : Int) (t23 : Bool) (w : World) (N1 : Option Addr → Nat → Nat → Bool → Option Addr → Int → World → Prop)  (R : Int → Int → World → Prop) : Prop :=
  Bm t23 (
    Pn script_b fun a =>
    (0 ≤ i ∧ i < ((script_l : Nat) : Int)) ∧
    LdI .i64 (Addr.add a (i.toNat * 6)) w fun x30_0 =>
    LdI .i64 ((Addr.add a (i.toNat * 6)).add 1) w fun x30_1 =>
    LdI .i64 ((Addr.add a (i.toNat * 6)).add 2) w fun x30_2 =>
    LdI .i64 ((Addr.add a (i.toNat * 6)).add 3) w fun x30_3 =>
    LdS ((Addr.add a (i.toNat * 6)).add 4) w fun x30_4 =>
    LdS ((Addr.add a (i.toNat * 6)).add 5) w fun x30_5 =>
    hostlaw_World_Step.Call w0 x30_0 x30_1 x30_2 x30_3 x30_4 x30_5 steady w fun r32 w1 =>
    Bm (!r32) (
      R i i w1) (
      N1 script_b script_l script_c steady w0 (IntKind.i64.wrap (i + (1 : Int))) w1)) (
    Bm (decide (((script_l : Nat) : Int) > (1048576 : Int))) (
      hostlaw_walk.B2 w0 (1048576 : Int) w  R) (
      hostlaw_walk.B2 w0 ((script_l : Nat) : Int) w  R))
theorem hostlaw_walk.B1_eq (script_b : Option Addr) (script_l script_c : Nat) (steady : Bool) (w0 : Option Addr) (i : Int) (t23 : Bool) (w : World) (N1 : Option Addr → Nat → Nat → Bool → Option Addr → Int → World → Prop)  (R : Int → Int → World → Prop) (sB2 : Option Addr → Int → World → Prop) :
    (
  Bm t23 (
    Pn script_b fun a =>
    (0 ≤ i ∧ i < ((script_l : Nat) : Int)) ∧
    LdI .i64 (Addr.add a (i.toNat * 6)) w fun x30_0 =>
    LdI .i64 ((Addr.add a (i.toNat * 6)).add 1) w fun x30_1 =>
    LdI .i64 ((Addr.add a (i.toNat * 6)).add 2) w fun x30_2 =>
    LdI .i64 ((Addr.add a (i.toNat * 6)).add 3) w fun x30_3 =>
    LdS ((Addr.add a (i.toNat * 6)).add 4) w fun x30_4 =>
    LdS ((Addr.add a (i.toNat * 6)).add 5) w fun x30_5 =>
    hostlaw_World_Step.Call w0 x30_0 x30_1 x30_2 x30_3 x30_4 x30_5 steady w fun r32 w1 =>
    Bm (!r32) (
      R i i w1) (
      N1 script_b script_l script_c steady w0 (IntKind.i64.wrap (i + (1 : Int))) w1)) (
    Bm (decide (((script_l : Nat) : Int) > (1048576 : Int))) (
      sB2 w0 (1048576 : Int) w) (
      sB2 w0 ((script_l : Nat) : Int) w))) = kstep Tryz.prog 49 Tryz.f9.results.toList (Tryz.f9.body.getD .skip) (hostlaw_walk.RV R) (kvc Tryz.prog 49 Tryz.f9.results.toList (Tryz.f9.body.getD .skip) (hostlaw_walk.RV R) [([(0, [1, 1, 1, 0, 1, 0, 0]), (2, [1, 1, 1, 0, 1, 0, 0]), (1, [0]), (0, [1, 1, 1, 1])], fun σ w => dL (slotOf σ 0) fun script_b_ script_l_ script_c_ => dB (slotOf σ 1) fun steady_ => dP (slotOf σ 8) fun w0_ => dI .i64 (slotOf σ 9) fun i_ => N1 script_b_ script_l_ script_c_ steady_ w0_ i_ w),
    ([(0, [1, 1, 1, 1, 1, 1])], fun σ w => dP (slotOf σ 8) fun w0_ => dI .i64 (slotOf σ 10) fun n_ => sB2 w0_ n_ w)] 2000) [(0, [1, 1, 1, 0, 1, 0, 0, 0, 1]), (0, [1, 1, 1, 0, 1, 0, 0, 1]), (2, [1, 1, 1, 0, 1, 0, 0]), (1, [0]), (0, [1, 1, 1, 1])] [(0, .slice script_b script_l script_c), (1, .bool steady), (8, .pointer w0), (9, .int .i64 i), (23, .bool t23)] w := by kernel_rfl
theorem hostlaw_walk.B1_sound {R : Int → Int → World → Prop} {N1 : Option Addr → Nat → Nat → Bool → Option Addr → Int → World → Prop} (hN1 : ∀ script_b script_l script_c steady w0 i w, N1 script_b script_l script_c steady w0 i w → KW Tryz.prog 9 49 (hostlaw_walk.RV R) ([(0, [1, 1, 1, 0, 1, 0, 0]), (2, [1, 1, 1, 0, 1, 0, 0]), (1, [0]), (0, [1, 1, 1, 1])].map (toItem (Tryz.f9.body.getD .skip))) [(0, .slice script_b script_l script_c), (1, .bool steady), (8, .pointer w0), (9, .int .i64 i)] w) (script_b : Option Addr) (script_l script_c : Nat) (steady : Bool) (w0 : Option Addr) (i : Int) (t23 : Bool) (w : World) (h : hostlaw_walk.B1 script_b script_l script_c steady w0 i t23 w N1  R) :
    KW Tryz.prog 9 49 (hostlaw_walk.RV R) ([(0, [1, 1, 1, 0, 1, 0, 0, 0, 1]), (0, [1, 1, 1, 0, 1, 0, 0, 1]), (2, [1, 1, 1, 0, 1, 0, 0]), (1, [0]), (0, [1, 1, 1, 1])].map (toItem (Tryz.f9.body.getD .skip))) [(0, .slice script_b script_l script_c), (1, .bool steady), (8, .pointer w0), (9, .int .i64 i), (23, .bool t23)] w := by
  exact block_spec Tryz.func9 Tryz.mixed (stops_cons (fun σ w h => by
      obtain ⟨script_b_, script_l_, script_c_, e0, h⟩ := dL_elim h
      obtain ⟨steady_, e1, h⟩ := dB_elim h
      obtain ⟨w0_, e2, h⟩ := dP_elim h
      obtain ⟨i_, e3, h⟩ := dI_elim h
      exact (hN1 script_b_ script_l_ script_c_ steady_ w0_ i_ w h).weaken (Sub.cons (Sub.cons (Sub.cons (Sub.cons (Sub.nil _) e3) e2) e1) e0)) (stops_cons (fun σ w h => by
      obtain ⟨w0_, e0, h⟩ := dP_elim h
      obtain ⟨n_, e1, h⟩ := dI_elim h
      exact (hostlaw_walk.B2_sound  w0_ n_ w h).weaken (Sub.cons (Sub.cons (Sub.nil _) e1) e0)) stops_nil)) (Eq.mp (hostlaw_walk.B1_eq script_b script_l script_c steady w0 i t23 w N1  R (fun w0_ n_ w => hostlaw_walk.B2 w0_ n_ w  R)) h)
def hostlaw_walk.L1b (script_b : Option Addr) (script_l script_c : Nat) (steady : Bool) (w0 : Option Addr) (i : Int) (w : World)  (N1 : Option Addr → Nat → Nat → Bool → Option Addr → Int → World → Prop) (R : Int → Int → World → Prop) : Prop :=
  Bm (decide (i < ((script_l : Nat) : Int))) (
    hostlaw_walk.B1 script_b script_l script_c steady w0 i (decide (i < (1048576 : Int))) w N1 R) (
    hostlaw_walk.B1 script_b script_l script_c steady w0 i false w N1 R)
theorem hostlaw_walk.L1b_eq (script_b : Option Addr) (script_l script_c : Nat) (steady : Bool) (w0 : Option Addr) (i : Int) (w : World)  (N1 : Option Addr → Nat → Nat → Bool → Option Addr → Int → World → Prop) (R : Int → Int → World → Prop) (sB1 : Option Addr → Nat → Nat → Bool → Option Addr → Int → Bool → World → Prop) :
    (
  Bm (decide (i < ((script_l : Nat) : Int))) (
    sB1 script_b script_l script_c steady w0 i (decide (i < (1048576 : Int))) w) (
    sB1 script_b script_l script_c steady w0 i false w)) = kstep Tryz.prog 49 Tryz.f9.results.toList (Tryz.f9.body.getD .skip) (hostlaw_walk.RV R) (kvc Tryz.prog 49 Tryz.f9.results.toList (Tryz.f9.body.getD .skip) (hostlaw_walk.RV R) [([(0, [1, 1, 1, 0, 1, 0, 0, 0, 1]), (0, [1, 1, 1, 0, 1, 0, 0, 1]), (2, [1, 1, 1, 0, 1, 0, 0]), (1, [0]), (0, [1, 1, 1, 1])], fun σ w => dL (slotOf σ 0) fun script_b_ script_l_ script_c_ => dB (slotOf σ 1) fun steady_ => dP (slotOf σ 8) fun w0_ => dI .i64 (slotOf σ 9) fun i_ => dB (slotOf σ 23) fun t23_ => sB1 script_b_ script_l_ script_c_ steady_ w0_ i_ t23_ w)] 2000) [(0, [1, 1, 1, 0, 1, 0, 0]), (2, [1, 1, 1, 0, 1, 0, 0]), (1, [0]), (0, [1, 1, 1, 1])] [(0, .slice script_b script_l script_c), (1, .bool steady), (8, .pointer w0), (9, .int .i64 i)] w := by kernel_rfl
theorem hostlaw_walk.L1b_sound {R : Int → Int → World → Prop} {N1 : Option Addr → Nat → Nat → Bool → Option Addr → Int → World → Prop} (hN1 : ∀ script_b script_l script_c steady w0 i w, N1 script_b script_l script_c steady w0 i w → KW Tryz.prog 9 49 (hostlaw_walk.RV R) ([(0, [1, 1, 1, 0, 1, 0, 0]), (2, [1, 1, 1, 0, 1, 0, 0]), (1, [0]), (0, [1, 1, 1, 1])].map (toItem (Tryz.f9.body.getD .skip))) [(0, .slice script_b script_l script_c), (1, .bool steady), (8, .pointer w0), (9, .int .i64 i)] w) (script_b : Option Addr) (script_l script_c : Nat) (steady : Bool) (w0 : Option Addr) (i : Int) (w : World) (h : hostlaw_walk.L1b script_b script_l script_c steady w0 i w  N1 R) :
    KW Tryz.prog 9 49 (hostlaw_walk.RV R) ([(0, [1, 1, 1, 0, 1, 0, 0]), (2, [1, 1, 1, 0, 1, 0, 0]), (1, [0]), (0, [1, 1, 1, 1])].map (toItem (Tryz.f9.body.getD .skip))) [(0, .slice script_b script_l script_c), (1, .bool steady), (8, .pointer w0), (9, .int .i64 i)] w := by
  exact block_spec Tryz.func9 Tryz.mixed (stops_cons (fun σ w h => by
      obtain ⟨script_b_, script_l_, script_c_, e0, h⟩ := dL_elim h
      obtain ⟨steady_, e1, h⟩ := dB_elim h
      obtain ⟨w0_, e2, h⟩ := dP_elim h
      obtain ⟨i_, e3, h⟩ := dI_elim h
      obtain ⟨t23_, e4, h⟩ := dB_elim h
      exact (hostlaw_walk.B1_sound hN1 script_b_ script_l_ script_c_ steady_ w0_ i_ t23_ w h).weaken (Sub.cons (Sub.cons (Sub.cons (Sub.cons (Sub.cons (Sub.nil _) e4) e3) e2) e1) e0)) stops_nil) (Eq.mp (hostlaw_walk.L1b_eq script_b script_l script_c steady w0 i w  N1 R (fun script_b_ script_l_ script_c_ steady_ w0_ i_ t23_ w => hostlaw_walk.B1 script_b_ script_l_ script_c_ steady_ w0_ i_ t23_ w N1 R)) h)
def hostlaw_walk.L1 (script_b : Option Addr) (script_l script_c : Nat) (steady : Bool) (w0 : Option Addr) (i : Int) (w : World)  (R : Int → Int → World → Prop) : Prop :=
  ∃ (I : Nat → Option Addr → Nat → Nat → Bool → Option Addr → Int → World → Prop) (m : Nat), I m script_b script_l script_c steady w0 i w ∧ ∀ m script_b script_l script_c steady w0 i w, I m script_b script_l script_c steady w0 i w → hostlaw_walk.L1b script_b script_l script_c steady w0 i w  (fun script_b' script_l' script_c' steady' w0' i' w' => ∃ m', m' < m ∧ I m' script_b' script_l' script_c' steady' w0' i' w') R
theorem hostlaw_walk.L1_sound {R : Int → Int → World → Prop}  (script_b : Option Addr) (script_l script_c : Nat) (steady : Bool) (w0 : Option Addr) (i : Int) (w : World) (h : hostlaw_walk.L1 script_b script_l script_c steady w0 i w  R) :
    KW Tryz.prog 9 49 (hostlaw_walk.RV R) ([(0, [1, 1, 1, 0, 1, 0, 0]), (2, [1, 1, 1, 0, 1, 0, 0]), (1, [0]), (0, [1, 1, 1, 1])].map (toItem (Tryz.f9.body.getD .skip))) [(0, .slice script_b script_l script_c), (1, .bool steady), (8, .pointer w0), (9, .int .i64 i)] w := by
  obtain ⟨I, m, hBase, hr⟩ := h
  refine KW.loop (fun m σ w => ∃ (script_b : Option Addr) (script_l script_c : Nat) (steady : Bool) (w0 : Option Addr) (i : Int), σ = [(0, .slice script_b script_l script_c), (1, .bool steady), (8, .pointer w0), (9, .int .i64 i)] ∧ I m script_b script_l script_c steady w0 i w) ?_ m _ w ⟨script_b, script_l, script_c, steady, w0, i, rfl, hBase⟩
  rintro m ih σ w ⟨script_b, script_l, script_c, steady, w0, i, rfl, hI⟩
  exact hostlaw_walk.L1b_sound  (N1 := fun script_b' script_l' script_c' steady' w0' i' w' => ∃ m', m' < m ∧ I m' script_b' script_l' script_c' steady' w0' i' w') (fun script_b' script_l' script_c' steady' w0' i' w' hx => by obtain ⟨m', hlt, hI'⟩ := hx; exact ih m' hlt _ w' ⟨script_b', script_l', script_c', steady', w0', i', rfl, hI'⟩) script_b script_l script_c steady w0 i w (hr m script_b script_l script_c steady w0 i w hI)
def hostlaw_walk.B0 (script_b : Option Addr) (script_l script_c : Nat) (steady quiet : Bool) (w : World)   (R : Int → Int → World → Prop) : Prop :=
  hostlaw_NewWorld.Call quiet w fun r12 w1 =>
  hostlaw_World_Look.Call r12 w1 fun r14 w2 =>
  Bm (!r14) (
    R (0 : Int) (0 : Int) w2) (
    hostlaw_walk.L1 script_b script_l script_c steady r12 (0 : Int) w2  R)
theorem hostlaw_walk.B0_eq (script_b : Option Addr) (script_l script_c : Nat) (steady quiet : Bool) (w : World)   (R : Int → Int → World → Prop) (sL1 : Option Addr → Nat → Nat → Bool → Option Addr → Int → World → Prop) :
    (
  hostlaw_NewWorld.Call quiet w fun r12 w1 =>
  hostlaw_World_Look.Call r12 w1 fun r14 w2 =>
  Bm (!r14) (
    R (0 : Int) (0 : Int) w2) (
    sL1 script_b script_l script_c steady r12 (0 : Int) w2)) = kstep Tryz.prog 49 Tryz.f9.results.toList (Tryz.f9.body.getD .skip) (hostlaw_walk.RV R) (kvc Tryz.prog 49 Tryz.f9.results.toList (Tryz.f9.body.getD .skip) (hostlaw_walk.RV R) [([(0, [1, 1, 1, 0, 1, 0, 0]), (2, [1, 1, 1, 0, 1, 0, 0]), (1, [0]), (0, [1, 1, 1, 1])], fun σ w => dL (slotOf σ 0) fun script_b_ script_l_ script_c_ => dB (slotOf σ 1) fun steady_ => dP (slotOf σ 8) fun w0_ => dI .i64 (slotOf σ 9) fun i_ => sL1 script_b_ script_l_ script_c_ steady_ w0_ i_ w)] 2000) [(0, [])] [(0, .slice script_b script_l script_c), (1, .bool steady), (2, .bool quiet)] w := by kernel_rfl
theorem hostlaw_walk.B0_sound {R : Int → Int → World → Prop}  (script_b : Option Addr) (script_l script_c : Nat) (steady quiet : Bool) (w : World) (h : hostlaw_walk.B0 script_b script_l script_c steady quiet w   R) :
    KW Tryz.prog 9 49 (hostlaw_walk.RV R) ([(0, [])].map (toItem (Tryz.f9.body.getD .skip))) [(0, .slice script_b script_l script_c), (1, .bool steady), (2, .bool quiet)] w := by
  exact block_spec Tryz.func9 Tryz.mixed (stops_cons (fun σ w h => by
      obtain ⟨script_b_, script_l_, script_c_, e0, h⟩ := dL_elim h
      obtain ⟨steady_, e1, h⟩ := dB_elim h
      obtain ⟨w0_, e2, h⟩ := dP_elim h
      obtain ⟨i_, e3, h⟩ := dI_elim h
      exact (hostlaw_walk.L1_sound  script_b_ script_l_ script_c_ steady_ w0_ i_ w h).weaken (Sub.cons (Sub.cons (Sub.cons (Sub.cons (Sub.nil _) e3) e2) e1) e0)) stops_nil) (Eq.mp (hostlaw_walk.B0_eq script_b script_l script_c steady quiet w   R (fun script_b_ script_l_ script_c_ steady_ w0_ i_ w => hostlaw_walk.L1 script_b_ script_l_ script_c_ steady_ w0_ i_ w  R)) h)
theorem hostlaw_walk.sound (script_b : Option Addr) (script_l script_c : Nat) (steady quiet : Bool) (w : World) (R : Int → Int → World → Prop) (h : hostlaw_walk.B0 script_b script_l script_c steady quiet w R) : hostlaw_walk.Call script_b script_l script_c steady quiet w R := by
  have hc := calls_of_block (args := #[.slice script_b script_l script_c, .bool steady, .bool quiet]) Tryz.func9 (body := (Tryz.f9.body.getD .skip)) (by kernel_rfl) (by kernel_rfl) (args_slot _) (hostlaw_walk.B0_sound script_b script_l script_c steady quiet w h)
  exact hc.mono fun e w' he => by
    obtain ⟨v, rfl, hv⟩ := he
    exact hostlaw_walk.RV_elim hv
def hostlaw_RefinesWorkUpTo.B3 (script_b : Option Addr) (script_l script_c : Nat) (w0 : Option Addr) (i : Int) (w : World) (N1 : Option Addr → Nat → Nat → Option Addr → Int → World → Prop)  (R : Int → World → Prop) : Prop :=
  N1 script_b script_l script_c w0 (IntKind.i64.wrap (i + (1 : Int))) w
theorem hostlaw_RefinesWorkUpTo.B3_eq (script_b : Option Addr) (script_l script_c : Nat) (w0 : Option Addr) (i : Int) (w : World) (N1 : Option Addr → Nat → Nat → Option Addr → Int → World → Prop)  (R : Int → World → Prop)  :
    (
  N1 script_b script_l script_c w0 (IntKind.i64.wrap (i + (1 : Int))) w) = kstep Tryz.prog 47 Tryz.f10.results.toList (Tryz.f10.body.getD .skip) (hostlaw_RefinesWorkUpTo.RV R) (kvc Tryz.prog 47 Tryz.f10.results.toList (Tryz.f10.body.getD .skip) (hostlaw_RefinesWorkUpTo.RV R) [([(0, [1, 1, 1, 0, 1, 0, 0]), (2, [1, 1, 1, 0, 1, 0, 0]), (1, [0]), (0, [1, 1, 1, 1])], fun σ w => dL (slotOf σ 0) fun script_b_ script_l_ script_c_ => dP (slotOf σ 3) fun w0_ => dI .i64 (slotOf σ 4) fun i_ => N1 script_b_ script_l_ script_c_ w0_ i_ w)] 2000) [(0, [1, 1, 1, 0, 1, 0, 0, 1, 1]), (2, [1, 1, 1, 0, 1, 0, 0]), (1, [0]), (0, [1, 1, 1, 1])] [(0, .slice script_b script_l script_c), (3, .pointer w0), (4, .int .i64 i)] w := by kernel_rfl
theorem hostlaw_RefinesWorkUpTo.B3_sound {R : Int → World → Prop} {N1 : Option Addr → Nat → Nat → Option Addr → Int → World → Prop} (hN1 : ∀ script_b script_l script_c w0 i w, N1 script_b script_l script_c w0 i w → KW Tryz.prog 10 47 (hostlaw_RefinesWorkUpTo.RV R) ([(0, [1, 1, 1, 0, 1, 0, 0]), (2, [1, 1, 1, 0, 1, 0, 0]), (1, [0]), (0, [1, 1, 1, 1])].map (toItem (Tryz.f10.body.getD .skip))) [(0, .slice script_b script_l script_c), (3, .pointer w0), (4, .int .i64 i)] w) (script_b : Option Addr) (script_l script_c : Nat) (w0 : Option Addr) (i : Int) (w : World) (h : hostlaw_RefinesWorkUpTo.B3 script_b script_l script_c w0 i w N1  R) :
    KW Tryz.prog 10 47 (hostlaw_RefinesWorkUpTo.RV R) ([(0, [1, 1, 1, 0, 1, 0, 0, 1, 1]), (2, [1, 1, 1, 0, 1, 0, 0]), (1, [0]), (0, [1, 1, 1, 1])].map (toItem (Tryz.f10.body.getD .skip))) [(0, .slice script_b script_l script_c), (3, .pointer w0), (4, .int .i64 i)] w := by
  exact block_spec Tryz.func10 Tryz.mixed (stops_cons (fun σ w h => by
      obtain ⟨script_b_, script_l_, script_c_, e0, h⟩ := dL_elim h
      obtain ⟨w0_, e1, h⟩ := dP_elim h
      obtain ⟨i_, e2, h⟩ := dI_elim h
      exact (hN1 script_b_ script_l_ script_c_ w0_ i_ w h).weaken (Sub.cons (Sub.cons (Sub.cons (Sub.nil _) e2) e1) e0)) stops_nil) (Eq.mp (hostlaw_RefinesWorkUpTo.B3_eq script_b script_l script_c w0 i w N1  R ) h)
def hostlaw_RefinesWorkUpTo.B2 (script_b : Option Addr) (script_l script_c : Nat) (w0 : Option Addr) (i : Int) (t39 : Bool) (w : World) (N1 : Option Addr → Nat → Nat → Option Addr → Int → World → Prop)  (R : Int → World → Prop) : Prop :=
  Bm t39 (
    Pn w0 fun a =>
    LdP (a.add 30) w fun x43 =>
    hostm_Net_Settled.Call x43 w fun r44 w1 =>
    Bm (!r44) (
      R i w1) (
      hostlaw_RefinesWorkUpTo.B3 script_b script_l script_c w0 i w1 N1 R)) (
    hostlaw_RefinesWorkUpTo.B3 script_b script_l script_c w0 i w N1 R)
theorem hostlaw_RefinesWorkUpTo.B2_eq (script_b : Option Addr) (script_l script_c : Nat) (w0 : Option Addr) (i : Int) (t39 : Bool) (w : World) (N1 : Option Addr → Nat → Nat → Option Addr → Int → World → Prop)  (R : Int → World → Prop) (sB3 : Option Addr → Nat → Nat → Option Addr → Int → World → Prop) :
    (
  Bm t39 (
    Pn w0 fun a =>
    LdP (a.add 30) w fun x43 =>
    hostm_Net_Settled.Call x43 w fun r44 w1 =>
    Bm (!r44) (
      R i w1) (
      sB3 script_b script_l script_c w0 i w1)) (
    sB3 script_b script_l script_c w0 i w)) = kstep Tryz.prog 47 Tryz.f10.results.toList (Tryz.f10.body.getD .skip) (hostlaw_RefinesWorkUpTo.RV R) (kvc Tryz.prog 47 Tryz.f10.results.toList (Tryz.f10.body.getD .skip) (hostlaw_RefinesWorkUpTo.RV R) [([(0, [1, 1, 1, 0, 1, 0, 0, 1, 1]), (2, [1, 1, 1, 0, 1, 0, 0]), (1, [0]), (0, [1, 1, 1, 1])], fun σ w => dL (slotOf σ 0) fun script_b_ script_l_ script_c_ => dP (slotOf σ 3) fun w0_ => dI .i64 (slotOf σ 4) fun i_ => sB3 script_b_ script_l_ script_c_ w0_ i_ w)] 2000) [(0, [1, 1, 1, 0, 1, 0, 0, 1, 0, 0, 1, 1]), (1, [1]), (0, [1, 1, 1, 0, 1, 0, 0, 1, 1]), (2, [1, 1, 1, 0, 1, 0, 0]), (1, [0]), (0, [1, 1, 1, 1])] [(0, .slice script_b script_l script_c), (3, .pointer w0), (4, .int .i64 i), (39, .bool t39)] w := by kernel_rfl
theorem hostlaw_RefinesWorkUpTo.B2_sound {R : Int → World → Prop} {N1 : Option Addr → Nat → Nat → Option Addr → Int → World → Prop} (hN1 : ∀ script_b script_l script_c w0 i w, N1 script_b script_l script_c w0 i w → KW Tryz.prog 10 47 (hostlaw_RefinesWorkUpTo.RV R) ([(0, [1, 1, 1, 0, 1, 0, 0]), (2, [1, 1, 1, 0, 1, 0, 0]), (1, [0]), (0, [1, 1, 1, 1])].map (toItem (Tryz.f10.body.getD .skip))) [(0, .slice script_b script_l script_c), (3, .pointer w0), (4, .int .i64 i)] w) (script_b : Option Addr) (script_l script_c : Nat) (w0 : Option Addr) (i : Int) (t39 : Bool) (w : World) (h : hostlaw_RefinesWorkUpTo.B2 script_b script_l script_c w0 i t39 w N1  R) :
    KW Tryz.prog 10 47 (hostlaw_RefinesWorkUpTo.RV R) ([(0, [1, 1, 1, 0, 1, 0, 0, 1, 0, 0, 1, 1]), (1, [1]), (0, [1, 1, 1, 0, 1, 0, 0, 1, 1]), (2, [1, 1, 1, 0, 1, 0, 0]), (1, [0]), (0, [1, 1, 1, 1])].map (toItem (Tryz.f10.body.getD .skip))) [(0, .slice script_b script_l script_c), (3, .pointer w0), (4, .int .i64 i), (39, .bool t39)] w := by
  exact block_spec Tryz.func10 Tryz.mixed (stops_cons (fun σ w h => by
      obtain ⟨script_b_, script_l_, script_c_, e0, h⟩ := dL_elim h
      obtain ⟨w0_, e1, h⟩ := dP_elim h
      obtain ⟨i_, e2, h⟩ := dI_elim h
      exact (hostlaw_RefinesWorkUpTo.B3_sound hN1 script_b_ script_l_ script_c_ w0_ i_ w h).weaken (Sub.cons (Sub.cons (Sub.cons (Sub.nil _) e2) e1) e0)) stops_nil) (Eq.mp (hostlaw_RefinesWorkUpTo.B2_eq script_b script_l script_c w0 i t39 w N1  R (fun script_b_ script_l_ script_c_ w0_ i_ w => hostlaw_RefinesWorkUpTo.B3 script_b_ script_l_ script_c_ w0_ i_ w N1 R)) h)
def hostlaw_RefinesWorkUpTo.B1 (script_b : Option Addr) (script_l script_c : Nat) (w0 : Option Addr) (i : Int) (t16 : Bool) (w : World) (N1 : Option Addr → Nat → Nat → Option Addr → Int → World → Prop)  (R : Int → World → Prop) : Prop :=
  Bm t16 (
    Pn script_b fun a =>
    (0 ≤ i ∧ i < ((script_l : Nat) : Int)) ∧
    LdI .i64 (Addr.add a (i.toNat * 6)) w fun x23_0 =>
    LdI .i64 ((Addr.add a (i.toNat * 6)).add 1) w fun x23_1 =>
    LdI .i64 ((Addr.add a (i.toNat * 6)).add 2) w fun x23_2 =>
    LdI .i64 ((Addr.add a (i.toNat * 6)).add 3) w fun x23_3 =>
    LdS ((Addr.add a (i.toNat * 6)).add 4) w fun x23_4 =>
    LdS ((Addr.add a (i.toNat * 6)).add 5) w fun x23_5 =>
    hostlaw_World_Step.Call w0 x23_0 x23_1 x23_2 x23_3 x23_4 x23_5 false w fun r24 w1 =>
    Bm (!r24) (
      R i w1) (
      Pn script_b fun a_1 =>
      (0 ≤ i ∧ i < ((script_l : Nat) : Int)) ∧
      LdI .i64 (Addr.add a_1 (i.toNat * 6)) w1 fun x31 =>
      Bm (x31 == (15 : Int)) (
        Pn w0 fun a_2 =>
        LdI .i64 (a_2.add 28) w1 fun x37 =>
        hostlaw_RefinesWorkUpTo.B2 script_b script_l script_c w0 i (decide (x37 ≥ (90 : Int))) w1 N1 R) (
        hostlaw_RefinesWorkUpTo.B2 script_b script_l script_c w0 i false w1 N1 R))) (
    R (-1 : Int) w)
theorem hostlaw_RefinesWorkUpTo.B1_eq (script_b : Option Addr) (script_l script_c : Nat) (w0 : Option Addr) (i : Int) (t16 : Bool) (w : World) (N1 : Option Addr → Nat → Nat → Option Addr → Int → World → Prop)  (R : Int → World → Prop) (sB2 : Option Addr → Nat → Nat → Option Addr → Int → Bool → World → Prop) :
    (
  Bm t16 (
    Pn script_b fun a =>
    (0 ≤ i ∧ i < ((script_l : Nat) : Int)) ∧
    LdI .i64 (Addr.add a (i.toNat * 6)) w fun x23_0 =>
    LdI .i64 ((Addr.add a (i.toNat * 6)).add 1) w fun x23_1 =>
    LdI .i64 ((Addr.add a (i.toNat * 6)).add 2) w fun x23_2 =>
    LdI .i64 ((Addr.add a (i.toNat * 6)).add 3) w fun x23_3 =>
    LdS ((Addr.add a (i.toNat * 6)).add 4) w fun x23_4 =>
    LdS ((Addr.add a (i.toNat * 6)).add 5) w fun x23_5 =>
    hostlaw_World_Step.Call w0 x23_0 x23_1 x23_2 x23_3 x23_4 x23_5 false w fun r24 w1 =>
    Bm (!r24) (
      R i w1) (
      Pn script_b fun a_1 =>
      (0 ≤ i ∧ i < ((script_l : Nat) : Int)) ∧
      LdI .i64 (Addr.add a_1 (i.toNat * 6)) w1 fun x31 =>
      Bm (x31 == (15 : Int)) (
        Pn w0 fun a_2 =>
        LdI .i64 (a_2.add 28) w1 fun x37 =>
        sB2 script_b script_l script_c w0 i (decide (x37 ≥ (90 : Int))) w1) (
        sB2 script_b script_l script_c w0 i false w1))) (
    R (-1 : Int) w)) = kstep Tryz.prog 47 Tryz.f10.results.toList (Tryz.f10.body.getD .skip) (hostlaw_RefinesWorkUpTo.RV R) (kvc Tryz.prog 47 Tryz.f10.results.toList (Tryz.f10.body.getD .skip) (hostlaw_RefinesWorkUpTo.RV R) [([(0, [1, 1, 1, 0, 1, 0, 0, 1, 0, 0, 1, 1]), (1, [1]), (0, [1, 1, 1, 0, 1, 0, 0, 1, 1]), (2, [1, 1, 1, 0, 1, 0, 0]), (1, [0]), (0, [1, 1, 1, 1])], fun σ w => dL (slotOf σ 0) fun script_b_ script_l_ script_c_ => dP (slotOf σ 3) fun w0_ => dI .i64 (slotOf σ 4) fun i_ => dB (slotOf σ 39) fun t39_ => sB2 script_b_ script_l_ script_c_ w0_ i_ t39_ w)] 2000) [(0, [1, 1, 1, 0, 1, 0, 0, 0, 1]), (0, [1, 1, 1, 0, 1, 0, 0, 1]), (2, [1, 1, 1, 0, 1, 0, 0]), (1, [0]), (0, [1, 1, 1, 1])] [(0, .slice script_b script_l script_c), (3, .pointer w0), (4, .int .i64 i), (16, .bool t16)] w := by kernel_rfl
theorem hostlaw_RefinesWorkUpTo.B1_sound {R : Int → World → Prop} {N1 : Option Addr → Nat → Nat → Option Addr → Int → World → Prop} (hN1 : ∀ script_b script_l script_c w0 i w, N1 script_b script_l script_c w0 i w → KW Tryz.prog 10 47 (hostlaw_RefinesWorkUpTo.RV R) ([(0, [1, 1, 1, 0, 1, 0, 0]), (2, [1, 1, 1, 0, 1, 0, 0]), (1, [0]), (0, [1, 1, 1, 1])].map (toItem (Tryz.f10.body.getD .skip))) [(0, .slice script_b script_l script_c), (3, .pointer w0), (4, .int .i64 i)] w) (script_b : Option Addr) (script_l script_c : Nat) (w0 : Option Addr) (i : Int) (t16 : Bool) (w : World) (h : hostlaw_RefinesWorkUpTo.B1 script_b script_l script_c w0 i t16 w N1  R) :
    KW Tryz.prog 10 47 (hostlaw_RefinesWorkUpTo.RV R) ([(0, [1, 1, 1, 0, 1, 0, 0, 0, 1]), (0, [1, 1, 1, 0, 1, 0, 0, 1]), (2, [1, 1, 1, 0, 1, 0, 0]), (1, [0]), (0, [1, 1, 1, 1])].map (toItem (Tryz.f10.body.getD .skip))) [(0, .slice script_b script_l script_c), (3, .pointer w0), (4, .int .i64 i), (16, .bool t16)] w := by
  exact block_spec Tryz.func10 Tryz.mixed (stops_cons (fun σ w h => by
      obtain ⟨script_b_, script_l_, script_c_, e0, h⟩ := dL_elim h
      obtain ⟨w0_, e1, h⟩ := dP_elim h
      obtain ⟨i_, e2, h⟩ := dI_elim h
      obtain ⟨t39_, e3, h⟩ := dB_elim h
      exact (hostlaw_RefinesWorkUpTo.B2_sound hN1 script_b_ script_l_ script_c_ w0_ i_ t39_ w h).weaken (Sub.cons (Sub.cons (Sub.cons (Sub.cons (Sub.nil _) e3) e2) e1) e0)) stops_nil) (Eq.mp (hostlaw_RefinesWorkUpTo.B1_eq script_b script_l script_c w0 i t16 w N1  R (fun script_b_ script_l_ script_c_ w0_ i_ t39_ w => hostlaw_RefinesWorkUpTo.B2 script_b_ script_l_ script_c_ w0_ i_ t39_ w N1 R)) h)
def hostlaw_RefinesWorkUpTo.L1b (script_b : Option Addr) (script_l script_c : Nat) (w0 : Option Addr) (i : Int) (w : World)  (N1 : Option Addr → Nat → Nat → Option Addr → Int → World → Prop) (R : Int → World → Prop) : Prop :=
  Bm (decide (i < ((script_l : Nat) : Int))) (
    hostlaw_RefinesWorkUpTo.B1 script_b script_l script_c w0 i (decide (i < (1048576 : Int))) w N1 R) (
    hostlaw_RefinesWorkUpTo.B1 script_b script_l script_c w0 i false w N1 R)
theorem hostlaw_RefinesWorkUpTo.L1b_eq (script_b : Option Addr) (script_l script_c : Nat) (w0 : Option Addr) (i : Int) (w : World)  (N1 : Option Addr → Nat → Nat → Option Addr → Int → World → Prop) (R : Int → World → Prop) (sB1 : Option Addr → Nat → Nat → Option Addr → Int → Bool → World → Prop) :
    (
  Bm (decide (i < ((script_l : Nat) : Int))) (
    sB1 script_b script_l script_c w0 i (decide (i < (1048576 : Int))) w) (
    sB1 script_b script_l script_c w0 i false w)) = kstep Tryz.prog 47 Tryz.f10.results.toList (Tryz.f10.body.getD .skip) (hostlaw_RefinesWorkUpTo.RV R) (kvc Tryz.prog 47 Tryz.f10.results.toList (Tryz.f10.body.getD .skip) (hostlaw_RefinesWorkUpTo.RV R) [([(0, [1, 1, 1, 0, 1, 0, 0, 0, 1]), (0, [1, 1, 1, 0, 1, 0, 0, 1]), (2, [1, 1, 1, 0, 1, 0, 0]), (1, [0]), (0, [1, 1, 1, 1])], fun σ w => dL (slotOf σ 0) fun script_b_ script_l_ script_c_ => dP (slotOf σ 3) fun w0_ => dI .i64 (slotOf σ 4) fun i_ => dB (slotOf σ 16) fun t16_ => sB1 script_b_ script_l_ script_c_ w0_ i_ t16_ w)] 2000) [(0, [1, 1, 1, 0, 1, 0, 0]), (2, [1, 1, 1, 0, 1, 0, 0]), (1, [0]), (0, [1, 1, 1, 1])] [(0, .slice script_b script_l script_c), (3, .pointer w0), (4, .int .i64 i)] w := by kernel_rfl
theorem hostlaw_RefinesWorkUpTo.L1b_sound {R : Int → World → Prop} {N1 : Option Addr → Nat → Nat → Option Addr → Int → World → Prop} (hN1 : ∀ script_b script_l script_c w0 i w, N1 script_b script_l script_c w0 i w → KW Tryz.prog 10 47 (hostlaw_RefinesWorkUpTo.RV R) ([(0, [1, 1, 1, 0, 1, 0, 0]), (2, [1, 1, 1, 0, 1, 0, 0]), (1, [0]), (0, [1, 1, 1, 1])].map (toItem (Tryz.f10.body.getD .skip))) [(0, .slice script_b script_l script_c), (3, .pointer w0), (4, .int .i64 i)] w) (script_b : Option Addr) (script_l script_c : Nat) (w0 : Option Addr) (i : Int) (w : World) (h : hostlaw_RefinesWorkUpTo.L1b script_b script_l script_c w0 i w  N1 R) :
    KW Tryz.prog 10 47 (hostlaw_RefinesWorkUpTo.RV R) ([(0, [1, 1, 1, 0, 1, 0, 0]), (2, [1, 1, 1, 0, 1, 0, 0]), (1, [0]), (0, [1, 1, 1, 1])].map (toItem (Tryz.f10.body.getD .skip))) [(0, .slice script_b script_l script_c), (3, .pointer w0), (4, .int .i64 i)] w := by
  exact block_spec Tryz.func10 Tryz.mixed (stops_cons (fun σ w h => by
      obtain ⟨script_b_, script_l_, script_c_, e0, h⟩ := dL_elim h
      obtain ⟨w0_, e1, h⟩ := dP_elim h
      obtain ⟨i_, e2, h⟩ := dI_elim h
      obtain ⟨t16_, e3, h⟩ := dB_elim h
      exact (hostlaw_RefinesWorkUpTo.B1_sound hN1 script_b_ script_l_ script_c_ w0_ i_ t16_ w h).weaken (Sub.cons (Sub.cons (Sub.cons (Sub.cons (Sub.nil _) e3) e2) e1) e0)) stops_nil) (Eq.mp (hostlaw_RefinesWorkUpTo.L1b_eq script_b script_l script_c w0 i w  N1 R (fun script_b_ script_l_ script_c_ w0_ i_ t16_ w => hostlaw_RefinesWorkUpTo.B1 script_b_ script_l_ script_c_ w0_ i_ t16_ w N1 R)) h)
def hostlaw_RefinesWorkUpTo.L1 (script_b : Option Addr) (script_l script_c : Nat) (w0 : Option Addr) (i : Int) (w : World)  (R : Int → World → Prop) : Prop :=
  ∃ (I : Nat → Option Addr → Nat → Nat → Option Addr → Int → World → Prop) (m : Nat), I m script_b script_l script_c w0 i w ∧ ∀ m script_b script_l script_c w0 i w, I m script_b script_l script_c w0 i w → hostlaw_RefinesWorkUpTo.L1b script_b script_l script_c w0 i w  (fun script_b' script_l' script_c' w0' i' w' => ∃ m', m' < m ∧ I m' script_b' script_l' script_c' w0' i' w') R
theorem hostlaw_RefinesWorkUpTo.L1_sound {R : Int → World → Prop}  (script_b : Option Addr) (script_l script_c : Nat) (w0 : Option Addr) (i : Int) (w : World) (h : hostlaw_RefinesWorkUpTo.L1 script_b script_l script_c w0 i w  R) :
    KW Tryz.prog 10 47 (hostlaw_RefinesWorkUpTo.RV R) ([(0, [1, 1, 1, 0, 1, 0, 0]), (2, [1, 1, 1, 0, 1, 0, 0]), (1, [0]), (0, [1, 1, 1, 1])].map (toItem (Tryz.f10.body.getD .skip))) [(0, .slice script_b script_l script_c), (3, .pointer w0), (4, .int .i64 i)] w := by
  obtain ⟨I, m, hBase, hr⟩ := h
  refine KW.loop (fun m σ w => ∃ (script_b : Option Addr) (script_l script_c : Nat) (w0 : Option Addr) (i : Int), σ = [(0, .slice script_b script_l script_c), (3, .pointer w0), (4, .int .i64 i)] ∧ I m script_b script_l script_c w0 i w) ?_ m _ w ⟨script_b, script_l, script_c, w0, i, rfl, hBase⟩
  rintro m ih σ w ⟨script_b, script_l, script_c, w0, i, rfl, hI⟩
  exact hostlaw_RefinesWorkUpTo.L1b_sound  (N1 := fun script_b' script_l' script_c' w0' i' w' => ∃ m', m' < m ∧ I m' script_b' script_l' script_c' w0' i' w') (fun script_b' script_l' script_c' w0' i' w' hx => by obtain ⟨m', hlt, hI'⟩ := hx; exact ih m' hlt _ w' ⟨script_b', script_l', script_c', w0', i', rfl, hI'⟩) script_b script_l script_c w0 i w (hr m script_b script_l script_c w0 i w hI)
def hostlaw_RefinesWorkUpTo.B0 (script_b : Option Addr) (script_l script_c : Nat) (w : World)   (R : Int → World → Prop) : Prop :=
  hostlaw_NewWorld.Call false w fun r5 w1 =>
  hostlaw_World_Look.Call r5 w1 fun r7 w2 =>
  Bm (!r7) (
    R (0 : Int) w2) (
    hostlaw_RefinesWorkUpTo.L1 script_b script_l script_c r5 (0 : Int) w2  R)
theorem hostlaw_RefinesWorkUpTo.B0_eq (script_b : Option Addr) (script_l script_c : Nat) (w : World)   (R : Int → World → Prop) (sL1 : Option Addr → Nat → Nat → Option Addr → Int → World → Prop) :
    (
  hostlaw_NewWorld.Call false w fun r5 w1 =>
  hostlaw_World_Look.Call r5 w1 fun r7 w2 =>
  Bm (!r7) (
    R (0 : Int) w2) (
    sL1 script_b script_l script_c r5 (0 : Int) w2)) = kstep Tryz.prog 47 Tryz.f10.results.toList (Tryz.f10.body.getD .skip) (hostlaw_RefinesWorkUpTo.RV R) (kvc Tryz.prog 47 Tryz.f10.results.toList (Tryz.f10.body.getD .skip) (hostlaw_RefinesWorkUpTo.RV R) [([(0, [1, 1, 1, 0, 1, 0, 0]), (2, [1, 1, 1, 0, 1, 0, 0]), (1, [0]), (0, [1, 1, 1, 1])], fun σ w => dL (slotOf σ 0) fun script_b_ script_l_ script_c_ => dP (slotOf σ 3) fun w0_ => dI .i64 (slotOf σ 4) fun i_ => sL1 script_b_ script_l_ script_c_ w0_ i_ w)] 2000) [(0, [])] [(0, .slice script_b script_l script_c)] w := by kernel_rfl
theorem hostlaw_RefinesWorkUpTo.B0_sound {R : Int → World → Prop}  (script_b : Option Addr) (script_l script_c : Nat) (w : World) (h : hostlaw_RefinesWorkUpTo.B0 script_b script_l script_c w   R) :
    KW Tryz.prog 10 47 (hostlaw_RefinesWorkUpTo.RV R) ([(0, [])].map (toItem (Tryz.f10.body.getD .skip))) [(0, .slice script_b script_l script_c)] w := by
  exact block_spec Tryz.func10 Tryz.mixed (stops_cons (fun σ w h => by
      obtain ⟨script_b_, script_l_, script_c_, e0, h⟩ := dL_elim h
      obtain ⟨w0_, e1, h⟩ := dP_elim h
      obtain ⟨i_, e2, h⟩ := dI_elim h
      exact (hostlaw_RefinesWorkUpTo.L1_sound  script_b_ script_l_ script_c_ w0_ i_ w h).weaken (Sub.cons (Sub.cons (Sub.cons (Sub.nil _) e2) e1) e0)) stops_nil) (Eq.mp (hostlaw_RefinesWorkUpTo.B0_eq script_b script_l script_c w   R (fun script_b_ script_l_ script_c_ w0_ i_ w => hostlaw_RefinesWorkUpTo.L1 script_b_ script_l_ script_c_ w0_ i_ w  R)) h)
theorem hostlaw_RefinesWorkUpTo.sound (script_b : Option Addr) (script_l script_c : Nat) (w : World) (R : Int → World → Prop) (h : hostlaw_RefinesWorkUpTo.B0 script_b script_l script_c w R) : hostlaw_RefinesWorkUpTo.Call script_b script_l script_c w R := by
  have hc := calls_of_block (args := #[.slice script_b script_l script_c]) Tryz.func10 (body := (Tryz.f10.body.getD .skip)) (by kernel_rfl) (by kernel_rfl) (args_slot _) (hostlaw_RefinesWorkUpTo.B0_sound script_b script_l script_c w h)
  exact hc.mono fun e w' he => by
    obtain ⟨v, rfl, hv⟩ := he
    exact hostlaw_RefinesWorkUpTo.RV_elim hv
def hostlaw_RefinesFairUpTo.B5 (script_b : Option Addr) (script_l script_c : Nat) (w0 : Option Addr) (fair : Bool) (i : Int) (w : World) (N1 : Option Addr → Nat → Nat → Option Addr → Bool → Int → World → Prop)  (R : Int → World → Prop) : Prop :=
  N1 script_b script_l script_c w0 fair (IntKind.i64.wrap (i + (1 : Int))) w
theorem hostlaw_RefinesFairUpTo.B5_eq (script_b : Option Addr) (script_l script_c : Nat) (w0 : Option Addr) (fair : Bool) (i : Int) (w : World) (N1 : Option Addr → Nat → Nat → Option Addr → Bool → Int → World → Prop)  (R : Int → World → Prop)  :
    (
  N1 script_b script_l script_c w0 fair (IntKind.i64.wrap (i + (1 : Int))) w) = kstep Tryz.prog 80 Tryz.f11.results.toList (Tryz.f11.body.getD .skip) (hostlaw_RefinesFairUpTo.RV R) (kvc Tryz.prog 80 Tryz.f11.results.toList (Tryz.f11.body.getD .skip) (hostlaw_RefinesFairUpTo.RV R) [([(0, [1, 1, 1, 1, 0, 1, 0, 0]), (2, [1, 1, 1, 1, 0, 1, 0, 0]), (1, [0]), (0, [1, 1, 1, 1, 1])], fun σ w => dL (slotOf σ 0) fun script_b_ script_l_ script_c_ => dP (slotOf σ 3) fun w0_ => dB (slotOf σ 4) fun fair_ => dI .i64 (slotOf σ 5) fun i_ => N1 script_b_ script_l_ script_c_ w0_ fair_ i_ w)] 2000) [(0, [1, 1, 1, 1, 0, 1, 0, 0, 1, 1]), (2, [1, 1, 1, 1, 0, 1, 0, 0]), (1, [0]), (0, [1, 1, 1, 1, 1])] [(0, .slice script_b script_l script_c), (3, .pointer w0), (4, .bool fair), (5, .int .i64 i)] w := by kernel_rfl
theorem hostlaw_RefinesFairUpTo.B5_sound {R : Int → World → Prop} {N1 : Option Addr → Nat → Nat → Option Addr → Bool → Int → World → Prop} (hN1 : ∀ script_b script_l script_c w0 fair i w, N1 script_b script_l script_c w0 fair i w → KW Tryz.prog 11 80 (hostlaw_RefinesFairUpTo.RV R) ([(0, [1, 1, 1, 1, 0, 1, 0, 0]), (2, [1, 1, 1, 1, 0, 1, 0, 0]), (1, [0]), (0, [1, 1, 1, 1, 1])].map (toItem (Tryz.f11.body.getD .skip))) [(0, .slice script_b script_l script_c), (3, .pointer w0), (4, .bool fair), (5, .int .i64 i)] w) (script_b : Option Addr) (script_l script_c : Nat) (w0 : Option Addr) (fair : Bool) (i : Int) (w : World) (h : hostlaw_RefinesFairUpTo.B5 script_b script_l script_c w0 fair i w N1  R) :
    KW Tryz.prog 11 80 (hostlaw_RefinesFairUpTo.RV R) ([(0, [1, 1, 1, 1, 0, 1, 0, 0, 1, 1]), (2, [1, 1, 1, 1, 0, 1, 0, 0]), (1, [0]), (0, [1, 1, 1, 1, 1])].map (toItem (Tryz.f11.body.getD .skip))) [(0, .slice script_b script_l script_c), (3, .pointer w0), (4, .bool fair), (5, .int .i64 i)] w := by
  exact block_spec Tryz.func11 Tryz.mixed (stops_cons (fun σ w h => by
      obtain ⟨script_b_, script_l_, script_c_, e0, h⟩ := dL_elim h
      obtain ⟨w0_, e1, h⟩ := dP_elim h
      obtain ⟨fair_, e2, h⟩ := dB_elim h
      obtain ⟨i_, e3, h⟩ := dI_elim h
      exact (hN1 script_b_ script_l_ script_c_ w0_ fair_ i_ w h).weaken (Sub.cons (Sub.cons (Sub.cons (Sub.cons (Sub.nil _) e3) e2) e1) e0)) stops_nil) (Eq.mp (hostlaw_RefinesFairUpTo.B5_eq script_b script_l script_c w0 fair i w N1  R ) h)
def hostlaw_RefinesFairUpTo.B4 (script_b : Option Addr) (script_l script_c : Nat) (w0 : Option Addr) (fair : Bool) (i : Int) (w : World) (N1 : Option Addr → Nat → Nat → Option Addr → Bool → Int → World → Prop)  (R : Int → World → Prop) : Prop :=
  Bm fair (
    Pn w0 fun a =>
    LdP (a.add 30) w fun x63 =>
    hostm_Net_NoneFailed.Call x63 w fun r64 w1 =>
    Bm (!r64) (
      R i w1) (
      Pn script_b fun a_1 =>
      (0 ≤ i ∧ i < ((script_l : Nat) : Int)) ∧
      LdI .i64 (Addr.add a_1 (i.toNat * 6)) w1 fun x71 =>
      Bm (x71 == (15 : Int)) (
        Pn w0 fun a_2 =>
        LdP (a_2.add 30) w1 fun x76 =>
        hostm_Net_Settled.Call x76 w1 fun r77 w2 =>
        Bm (!r77) (
          R i w2) (
          hostlaw_RefinesFairUpTo.B5 script_b script_l script_c w0 fair i w2 N1 R)) (
        hostlaw_RefinesFairUpTo.B5 script_b script_l script_c w0 fair i w1 N1 R))) (
    hostlaw_RefinesFairUpTo.B5 script_b script_l script_c w0 fair i w N1 R)
theorem hostlaw_RefinesFairUpTo.B4_eq (script_b : Option Addr) (script_l script_c : Nat) (w0 : Option Addr) (fair : Bool) (i : Int) (w : World) (N1 : Option Addr → Nat → Nat → Option Addr → Bool → Int → World → Prop)  (R : Int → World → Prop) (sB5 : Option Addr → Nat → Nat → Option Addr → Bool → Int → World → Prop) :
    (
  Bm fair (
    Pn w0 fun a =>
    LdP (a.add 30) w fun x63 =>
    hostm_Net_NoneFailed.Call x63 w fun r64 w1 =>
    Bm (!r64) (
      R i w1) (
      Pn script_b fun a_1 =>
      (0 ≤ i ∧ i < ((script_l : Nat) : Int)) ∧
      LdI .i64 (Addr.add a_1 (i.toNat * 6)) w1 fun x71 =>
      Bm (x71 == (15 : Int)) (
        Pn w0 fun a_2 =>
        LdP (a_2.add 30) w1 fun x76 =>
        hostm_Net_Settled.Call x76 w1 fun r77 w2 =>
        Bm (!r77) (
          R i w2) (
          sB5 script_b script_l script_c w0 fair i w2)) (
        sB5 script_b script_l script_c w0 fair i w1))) (
    sB5 script_b script_l script_c w0 fair i w)) = kstep Tryz.prog 80 Tryz.f11.results.toList (Tryz.f11.body.getD .skip) (hostlaw_RefinesFairUpTo.RV R) (kvc Tryz.prog 80 Tryz.f11.results.toList (Tryz.f11.body.getD .skip) (hostlaw_RefinesFairUpTo.RV R) [([(0, [1, 1, 1, 1, 0, 1, 0, 0, 1, 1]), (2, [1, 1, 1, 1, 0, 1, 0, 0]), (1, [0]), (0, [1, 1, 1, 1, 1])], fun σ w => dL (slotOf σ 0) fun script_b_ script_l_ script_c_ => dP (slotOf σ 3) fun w0_ => dB (slotOf σ 4) fun fair_ => dI .i64 (slotOf σ 5) fun i_ => sB5 script_b_ script_l_ script_c_ w0_ fair_ i_ w)] 2000) [(0, [1, 1, 1, 1, 0, 1, 0, 0, 1, 0, 0, 1, 1, 1, 1]), (1, [1]), (0, [1, 1, 1, 1, 0, 1, 0, 0, 1, 1]), (2, [1, 1, 1, 1, 0, 1, 0, 0]), (1, [0]), (0, [1, 1, 1, 1, 1])] [(0, .slice script_b script_l script_c), (3, .pointer w0), (4, .bool fair), (5, .int .i64 i)] w := by kernel_rfl
theorem hostlaw_RefinesFairUpTo.B4_sound {R : Int → World → Prop} {N1 : Option Addr → Nat → Nat → Option Addr → Bool → Int → World → Prop} (hN1 : ∀ script_b script_l script_c w0 fair i w, N1 script_b script_l script_c w0 fair i w → KW Tryz.prog 11 80 (hostlaw_RefinesFairUpTo.RV R) ([(0, [1, 1, 1, 1, 0, 1, 0, 0]), (2, [1, 1, 1, 1, 0, 1, 0, 0]), (1, [0]), (0, [1, 1, 1, 1, 1])].map (toItem (Tryz.f11.body.getD .skip))) [(0, .slice script_b script_l script_c), (3, .pointer w0), (4, .bool fair), (5, .int .i64 i)] w) (script_b : Option Addr) (script_l script_c : Nat) (w0 : Option Addr) (fair : Bool) (i : Int) (w : World) (h : hostlaw_RefinesFairUpTo.B4 script_b script_l script_c w0 fair i w N1  R) :
    KW Tryz.prog 11 80 (hostlaw_RefinesFairUpTo.RV R) ([(0, [1, 1, 1, 1, 0, 1, 0, 0, 1, 0, 0, 1, 1, 1, 1]), (1, [1]), (0, [1, 1, 1, 1, 0, 1, 0, 0, 1, 1]), (2, [1, 1, 1, 1, 0, 1, 0, 0]), (1, [0]), (0, [1, 1, 1, 1, 1])].map (toItem (Tryz.f11.body.getD .skip))) [(0, .slice script_b script_l script_c), (3, .pointer w0), (4, .bool fair), (5, .int .i64 i)] w := by
  exact block_spec Tryz.func11 Tryz.mixed (stops_cons (fun σ w h => by
      obtain ⟨script_b_, script_l_, script_c_, e0, h⟩ := dL_elim h
      obtain ⟨w0_, e1, h⟩ := dP_elim h
      obtain ⟨fair_, e2, h⟩ := dB_elim h
      obtain ⟨i_, e3, h⟩ := dI_elim h
      exact (hostlaw_RefinesFairUpTo.B5_sound hN1 script_b_ script_l_ script_c_ w0_ fair_ i_ w h).weaken (Sub.cons (Sub.cons (Sub.cons (Sub.cons (Sub.nil _) e3) e2) e1) e0)) stops_nil) (Eq.mp (hostlaw_RefinesFairUpTo.B4_eq script_b script_l script_c w0 fair i w N1  R (fun script_b_ script_l_ script_c_ w0_ fair_ i_ w => hostlaw_RefinesFairUpTo.B5 script_b_ script_l_ script_c_ w0_ fair_ i_ w N1 R)) h)
def hostlaw_RefinesFairUpTo.B3 (script_b : Option Addr) (script_l script_c : Nat) (w0 : Option Addr) (fair : Bool) (i : Int) (t58 : Bool) (w : World) (N1 : Option Addr → Nat → Nat → Option Addr → Bool → Int → World → Prop)  (R : Int → World → Prop) : Prop :=
  Bm t58 (
    hostlaw_RefinesFairUpTo.B4 script_b script_l script_c w0 false i w N1 R) (
    hostlaw_RefinesFairUpTo.B4 script_b script_l script_c w0 fair i w N1 R)
theorem hostlaw_RefinesFairUpTo.B3_eq (script_b : Option Addr) (script_l script_c : Nat) (w0 : Option Addr) (fair : Bool) (i : Int) (t58 : Bool) (w : World) (N1 : Option Addr → Nat → Nat → Option Addr → Bool → Int → World → Prop)  (R : Int → World → Prop) (sB4 : Option Addr → Nat → Nat → Option Addr → Bool → Int → World → Prop) :
    (
  Bm t58 (
    sB4 script_b script_l script_c w0 false i w) (
    sB4 script_b script_l script_c w0 fair i w)) = kstep Tryz.prog 80 Tryz.f11.results.toList (Tryz.f11.body.getD .skip) (hostlaw_RefinesFairUpTo.RV R) (kvc Tryz.prog 80 Tryz.f11.results.toList (Tryz.f11.body.getD .skip) (hostlaw_RefinesFairUpTo.RV R) [([(0, [1, 1, 1, 1, 0, 1, 0, 0, 1, 0, 0, 1, 1, 1, 1]), (1, [1]), (0, [1, 1, 1, 1, 0, 1, 0, 0, 1, 1]), (2, [1, 1, 1, 1, 0, 1, 0, 0]), (1, [0]), (0, [1, 1, 1, 1, 1])], fun σ w => dL (slotOf σ 0) fun script_b_ script_l_ script_c_ => dP (slotOf σ 3) fun w0_ => dB (slotOf σ 4) fun fair_ => dI .i64 (slotOf σ 5) fun i_ => sB4 script_b_ script_l_ script_c_ w0_ fair_ i_ w)] 2000) [(0, [1, 1, 1, 1, 0, 1, 0, 0, 1, 0, 0, 1, 1, 1, 0, 1]), (0, [1, 1, 1, 1, 0, 1, 0, 0, 1, 0, 0, 1, 1, 1, 1]), (1, [1]), (0, [1, 1, 1, 1, 0, 1, 0, 0, 1, 1]), (2, [1, 1, 1, 1, 0, 1, 0, 0]), (1, [0]), (0, [1, 1, 1, 1, 1])] [(0, .slice script_b script_l script_c), (3, .pointer w0), (4, .bool fair), (5, .int .i64 i), (58, .bool t58)] w := by kernel_rfl
theorem hostlaw_RefinesFairUpTo.B3_sound {R : Int → World → Prop} {N1 : Option Addr → Nat → Nat → Option Addr → Bool → Int → World → Prop} (hN1 : ∀ script_b script_l script_c w0 fair i w, N1 script_b script_l script_c w0 fair i w → KW Tryz.prog 11 80 (hostlaw_RefinesFairUpTo.RV R) ([(0, [1, 1, 1, 1, 0, 1, 0, 0]), (2, [1, 1, 1, 1, 0, 1, 0, 0]), (1, [0]), (0, [1, 1, 1, 1, 1])].map (toItem (Tryz.f11.body.getD .skip))) [(0, .slice script_b script_l script_c), (3, .pointer w0), (4, .bool fair), (5, .int .i64 i)] w) (script_b : Option Addr) (script_l script_c : Nat) (w0 : Option Addr) (fair : Bool) (i : Int) (t58 : Bool) (w : World) (h : hostlaw_RefinesFairUpTo.B3 script_b script_l script_c w0 fair i t58 w N1  R) :
    KW Tryz.prog 11 80 (hostlaw_RefinesFairUpTo.RV R) ([(0, [1, 1, 1, 1, 0, 1, 0, 0, 1, 0, 0, 1, 1, 1, 0, 1]), (0, [1, 1, 1, 1, 0, 1, 0, 0, 1, 0, 0, 1, 1, 1, 1]), (1, [1]), (0, [1, 1, 1, 1, 0, 1, 0, 0, 1, 1]), (2, [1, 1, 1, 1, 0, 1, 0, 0]), (1, [0]), (0, [1, 1, 1, 1, 1])].map (toItem (Tryz.f11.body.getD .skip))) [(0, .slice script_b script_l script_c), (3, .pointer w0), (4, .bool fair), (5, .int .i64 i), (58, .bool t58)] w := by
  exact block_spec Tryz.func11 Tryz.mixed (stops_cons (fun σ w h => by
      obtain ⟨script_b_, script_l_, script_c_, e0, h⟩ := dL_elim h
      obtain ⟨w0_, e1, h⟩ := dP_elim h
      obtain ⟨fair_, e2, h⟩ := dB_elim h
      obtain ⟨i_, e3, h⟩ := dI_elim h
      exact (hostlaw_RefinesFairUpTo.B4_sound hN1 script_b_ script_l_ script_c_ w0_ fair_ i_ w h).weaken (Sub.cons (Sub.cons (Sub.cons (Sub.cons (Sub.nil _) e3) e2) e1) e0)) stops_nil) (Eq.mp (hostlaw_RefinesFairUpTo.B3_eq script_b script_l script_c w0 fair i t58 w N1  R (fun script_b_ script_l_ script_c_ w0_ fair_ i_ w => hostlaw_RefinesFairUpTo.B4 script_b_ script_l_ script_c_ w0_ fair_ i_ w N1 R)) h)
def hostlaw_RefinesFairUpTo.B2 (script_b : Option Addr) (script_l script_c : Nat) (w0 : Option Addr) (fair : Bool) (i : Int) (w : World) (N1 : Option Addr → Nat → Nat → Option Addr → Bool → Int → World → Prop)  (R : Int → World → Prop) : Prop :=
  Pn w0 fun a =>
  LdI .i64 (a.add 45) w.drew fun x32 =>
  Pn w0 fun a_1 =>
  LdI .i64 (a_1.add 37) w.drew fun x36_0 =>
  LdI .i64 ((a_1.add 37).add 1) w.drew fun x36_1 =>
  LdI .i64 ((a_1.add 37).add 2) w.drew fun x36_2 =>
  New (.cells #[.int .i64 (0 : Int), .int .i64 (0 : Int), .int .i64 (0 : Int)] 45) w.drew fun lost_ w1 =>
  w1.cell? (a_1.add 37) = some (.int .i64 x36_0) ∧
  w1.cell? ((a_1.add 37).add 1) = some (.int .i64 x36_1) ∧
  w1.cell? ((a_1.add 37).add 2) = some (.int .i64 x36_2) ∧
  w1.cell? (a.add 45) = some (.int .i64 x32) ∧
  Sts [.int .i64 x36_0, .int .i64 x36_1, .int .i64 x36_2] ⟨lost_, 0, none⟩ 0 w1 fun w2 =>
  Pn script_b fun a_2 =>
  (0 ≤ i ∧ i < ((script_l : Nat) : Int)) ∧
  LdI .i64 (Addr.add a_2 (i.toNat * 6)) w2 fun x41_0 =>
  LdI .i64 ((Addr.add a_2 (i.toNat * 6)).add 1) w2 fun x41_1 =>
  LdI .i64 ((Addr.add a_2 (i.toNat * 6)).add 2) w2 fun x41_2 =>
  LdI .i64 ((Addr.add a_2 (i.toNat * 6)).add 3) w2 fun x41_3 =>
  LdS ((Addr.add a_2 (i.toNat * 6)).add 4) w2 fun x41_4 =>
  LdS ((Addr.add a_2 (i.toNat * 6)).add 5) w2 fun x41_5 =>
  hostlaw_World_Step.Call w0 x41_0 x41_1 x41_2 x41_3 x41_4 x41_5 false w2 fun r42 w3 =>
  Bm (!r42) (
    R i w3) (
    Pn w0 fun a_3 =>
    LdI .i64 (a_3.add 45) w3.drew fun x48 =>
    Bm (x48 != x32) (
      hostlaw_RefinesFairUpTo.B3 script_b script_l script_c w0 fair i true w3.drew N1 R) (
      Pn w0 fun a_4 =>
      LdI .i64 (a_4.add 37) w3.drew fun x55_0 =>
      LdI .i64 ((a_4.add 37).add 1) w3.drew fun x55_1 =>
      LdI .i64 ((a_4.add 37).add 2) w3.drew fun x55_2 =>
      LdI .i64 ⟨lost_, 0, none⟩ w3.drew fun x56_0 =>
      LdI .i64 ⟨lost_, 1, none⟩ w3.drew fun x56_1 =>
      LdI .i64 ⟨lost_, 2, none⟩ w3.drew fun x56_2 =>
      hostlaw_RefinesFairUpTo.B3 script_b script_l script_c w0 fair i (!(x55_0 == x56_0 && (x55_1 == x56_1 && x55_2 == x56_2))) w3.drew N1 R))
theorem hostlaw_RefinesFairUpTo.B2_eq (script_b : Option Addr) (script_l script_c : Nat) (w0 : Option Addr) (fair : Bool) (i : Int) (w : World) (N1 : Option Addr → Nat → Nat → Option Addr → Bool → Int → World → Prop)  (R : Int → World → Prop) (sB3 : Option Addr → Nat → Nat → Option Addr → Bool → Int → Bool → World → Prop) :
    (
  Pn w0 fun a =>
  LdI .i64 (a.add 45) w.drew fun x32 =>
  Pn w0 fun a_1 =>
  LdI .i64 (a_1.add 37) w.drew fun x36_0 =>
  LdI .i64 ((a_1.add 37).add 1) w.drew fun x36_1 =>
  LdI .i64 ((a_1.add 37).add 2) w.drew fun x36_2 =>
  New (.cells #[.int .i64 (0 : Int), .int .i64 (0 : Int), .int .i64 (0 : Int)] 45) w.drew fun lost_ w1 =>
  w1.cell? (a_1.add 37) = some (.int .i64 x36_0) ∧
  w1.cell? ((a_1.add 37).add 1) = some (.int .i64 x36_1) ∧
  w1.cell? ((a_1.add 37).add 2) = some (.int .i64 x36_2) ∧
  w1.cell? (a.add 45) = some (.int .i64 x32) ∧
  Sts [.int .i64 x36_0, .int .i64 x36_1, .int .i64 x36_2] ⟨lost_, 0, none⟩ 0 w1 fun w2 =>
  Pn script_b fun a_2 =>
  (0 ≤ i ∧ i < ((script_l : Nat) : Int)) ∧
  LdI .i64 (Addr.add a_2 (i.toNat * 6)) w2 fun x41_0 =>
  LdI .i64 ((Addr.add a_2 (i.toNat * 6)).add 1) w2 fun x41_1 =>
  LdI .i64 ((Addr.add a_2 (i.toNat * 6)).add 2) w2 fun x41_2 =>
  LdI .i64 ((Addr.add a_2 (i.toNat * 6)).add 3) w2 fun x41_3 =>
  LdS ((Addr.add a_2 (i.toNat * 6)).add 4) w2 fun x41_4 =>
  LdS ((Addr.add a_2 (i.toNat * 6)).add 5) w2 fun x41_5 =>
  hostlaw_World_Step.Call w0 x41_0 x41_1 x41_2 x41_3 x41_4 x41_5 false w2 fun r42 w3 =>
  Bm (!r42) (
    R i w3) (
    Pn w0 fun a_3 =>
    LdI .i64 (a_3.add 45) w3.drew fun x48 =>
    Bm (x48 != x32) (
      sB3 script_b script_l script_c w0 fair i true w3.drew) (
      Pn w0 fun a_4 =>
      LdI .i64 (a_4.add 37) w3.drew fun x55_0 =>
      LdI .i64 ((a_4.add 37).add 1) w3.drew fun x55_1 =>
      LdI .i64 ((a_4.add 37).add 2) w3.drew fun x55_2 =>
      LdI .i64 ⟨lost_, 0, none⟩ w3.drew fun x56_0 =>
      LdI .i64 ⟨lost_, 1, none⟩ w3.drew fun x56_1 =>
      LdI .i64 ⟨lost_, 2, none⟩ w3.drew fun x56_2 =>
      sB3 script_b script_l script_c w0 fair i (!(x55_0 == x56_0 && (x55_1 == x56_1 && x55_2 == x56_2))) w3.drew))) = kstep Tryz.prog 80 Tryz.f11.results.toList (Tryz.f11.body.getD .skip) (hostlaw_RefinesFairUpTo.RV R) (kvc Tryz.prog 80 Tryz.f11.results.toList (Tryz.f11.body.getD .skip) (hostlaw_RefinesFairUpTo.RV R) [([(0, [1, 1, 1, 1, 0, 1, 0, 0, 1, 0, 0, 1, 1, 1, 0, 1]), (0, [1, 1, 1, 1, 0, 1, 0, 0, 1, 0, 0, 1, 1, 1, 1]), (1, [1]), (0, [1, 1, 1, 1, 0, 1, 0, 0, 1, 1]), (2, [1, 1, 1, 1, 0, 1, 0, 0]), (1, [0]), (0, [1, 1, 1, 1, 1])], fun σ w => dL (slotOf σ 0) fun script_b_ script_l_ script_c_ => dP (slotOf σ 3) fun w0_ => dB (slotOf σ 4) fun fair_ => dI .i64 (slotOf σ 5) fun i_ => dB (slotOf σ 58) fun t58_ => sB3 script_b_ script_l_ script_c_ w0_ fair_ i_ t58_ w)] 2000) [(0, [1, 1, 1, 1, 0, 1, 0, 0, 1, 0, 0, 1]), (1, [1]), (0, [1, 1, 1, 1, 0, 1, 0, 0, 1, 1]), (2, [1, 1, 1, 1, 0, 1, 0, 0]), (1, [0]), (0, [1, 1, 1, 1, 1])] [(0, .slice script_b script_l script_c), (3, .pointer w0), (4, .bool fair), (5, .int .i64 i)] w := by kernel_rfl
theorem hostlaw_RefinesFairUpTo.B2_sound {R : Int → World → Prop} {N1 : Option Addr → Nat → Nat → Option Addr → Bool → Int → World → Prop} (hN1 : ∀ script_b script_l script_c w0 fair i w, N1 script_b script_l script_c w0 fair i w → KW Tryz.prog 11 80 (hostlaw_RefinesFairUpTo.RV R) ([(0, [1, 1, 1, 1, 0, 1, 0, 0]), (2, [1, 1, 1, 1, 0, 1, 0, 0]), (1, [0]), (0, [1, 1, 1, 1, 1])].map (toItem (Tryz.f11.body.getD .skip))) [(0, .slice script_b script_l script_c), (3, .pointer w0), (4, .bool fair), (5, .int .i64 i)] w) (script_b : Option Addr) (script_l script_c : Nat) (w0 : Option Addr) (fair : Bool) (i : Int) (w : World) (h : hostlaw_RefinesFairUpTo.B2 script_b script_l script_c w0 fair i w N1  R) :
    KW Tryz.prog 11 80 (hostlaw_RefinesFairUpTo.RV R) ([(0, [1, 1, 1, 1, 0, 1, 0, 0, 1, 0, 0, 1]), (1, [1]), (0, [1, 1, 1, 1, 0, 1, 0, 0, 1, 1]), (2, [1, 1, 1, 1, 0, 1, 0, 0]), (1, [0]), (0, [1, 1, 1, 1, 1])].map (toItem (Tryz.f11.body.getD .skip))) [(0, .slice script_b script_l script_c), (3, .pointer w0), (4, .bool fair), (5, .int .i64 i)] w := by
  exact block_spec Tryz.func11 Tryz.mixed (stops_cons (fun σ w h => by
      obtain ⟨script_b_, script_l_, script_c_, e0, h⟩ := dL_elim h
      obtain ⟨w0_, e1, h⟩ := dP_elim h
      obtain ⟨fair_, e2, h⟩ := dB_elim h
      obtain ⟨i_, e3, h⟩ := dI_elim h
      obtain ⟨t58_, e4, h⟩ := dB_elim h
      exact (hostlaw_RefinesFairUpTo.B3_sound hN1 script_b_ script_l_ script_c_ w0_ fair_ i_ t58_ w h).weaken (Sub.cons (Sub.cons (Sub.cons (Sub.cons (Sub.cons (Sub.nil _) e4) e3) e2) e1) e0)) stops_nil) (Eq.mp (hostlaw_RefinesFairUpTo.B2_eq script_b script_l script_c w0 fair i w N1  R (fun script_b_ script_l_ script_c_ w0_ fair_ i_ t58_ w => hostlaw_RefinesFairUpTo.B3 script_b_ script_l_ script_c_ w0_ fair_ i_ t58_ w N1 R)) h)
def hostlaw_RefinesFairUpTo.B1 (script_b : Option Addr) (script_l script_c : Nat) (w0 : Option Addr) (fair : Bool) (i : Int) (t19 : Bool) (w : World) (N1 : Option Addr → Nat → Nat → Option Addr → Bool → Int → World → Prop)  (R : Int → World → Prop) : Prop :=
  Bm t19 (
    Bm fair (
      Pn script_b fun a =>
      (0 ≤ i ∧ i < ((script_l : Nat) : Int)) ∧
      LdI .i64 (Addr.add a (i.toNat * 6)) w fun x27_0 =>
      LdI .i64 ((Addr.add a (i.toNat * 6)).add 1) w fun x27_1 =>
      LdI .i64 ((Addr.add a (i.toNat * 6)).add 2) w fun x27_2 =>
      LdI .i64 ((Addr.add a (i.toNat * 6)).add 3) w fun x27_3 =>
      LdS ((Addr.add a (i.toNat * 6)).add 4) w fun x27_4 =>
      LdS ((Addr.add a (i.toNat * 6)).add 5) w fun x27_5 =>
      hostlaw_World_Foul.Call w0 x27_0 x27_1 x27_2 x27_3 x27_4 x27_5 w fun r28 w1 =>
      Bm r28 (
        hostlaw_RefinesFairUpTo.B2 script_b script_l script_c w0 false i w1 N1 R) (
        hostlaw_RefinesFairUpTo.B2 script_b script_l script_c w0 fair i w1 N1 R)) (
      hostlaw_RefinesFairUpTo.B2 script_b script_l script_c w0 fair i w N1 R)) (
    R (-1 : Int) w)
theorem hostlaw_RefinesFairUpTo.B1_eq (script_b : Option Addr) (script_l script_c : Nat) (w0 : Option Addr) (fair : Bool) (i : Int) (t19 : Bool) (w : World) (N1 : Option Addr → Nat → Nat → Option Addr → Bool → Int → World → Prop)  (R : Int → World → Prop) (sB2 : Option Addr → Nat → Nat → Option Addr → Bool → Int → World → Prop) :
    (
  Bm t19 (
    Bm fair (
      Pn script_b fun a =>
      (0 ≤ i ∧ i < ((script_l : Nat) : Int)) ∧
      LdI .i64 (Addr.add a (i.toNat * 6)) w fun x27_0 =>
      LdI .i64 ((Addr.add a (i.toNat * 6)).add 1) w fun x27_1 =>
      LdI .i64 ((Addr.add a (i.toNat * 6)).add 2) w fun x27_2 =>
      LdI .i64 ((Addr.add a (i.toNat * 6)).add 3) w fun x27_3 =>
      LdS ((Addr.add a (i.toNat * 6)).add 4) w fun x27_4 =>
      LdS ((Addr.add a (i.toNat * 6)).add 5) w fun x27_5 =>
      hostlaw_World_Foul.Call w0 x27_0 x27_1 x27_2 x27_3 x27_4 x27_5 w fun r28 w1 =>
      Bm r28 (
        sB2 script_b script_l script_c w0 false i w1) (
        sB2 script_b script_l script_c w0 fair i w1)) (
      sB2 script_b script_l script_c w0 fair i w)) (
    R (-1 : Int) w)) = kstep Tryz.prog 80 Tryz.f11.results.toList (Tryz.f11.body.getD .skip) (hostlaw_RefinesFairUpTo.RV R) (kvc Tryz.prog 80 Tryz.f11.results.toList (Tryz.f11.body.getD .skip) (hostlaw_RefinesFairUpTo.RV R) [([(0, [1, 1, 1, 1, 0, 1, 0, 0, 1, 0, 0, 1]), (1, [1]), (0, [1, 1, 1, 1, 0, 1, 0, 0, 1, 1]), (2, [1, 1, 1, 1, 0, 1, 0, 0]), (1, [0]), (0, [1, 1, 1, 1, 1])], fun σ w => dL (slotOf σ 0) fun script_b_ script_l_ script_c_ => dP (slotOf σ 3) fun w0_ => dB (slotOf σ 4) fun fair_ => dI .i64 (slotOf σ 5) fun i_ => sB2 script_b_ script_l_ script_c_ w0_ fair_ i_ w)] 2000) [(0, [1, 1, 1, 1, 0, 1, 0, 0, 0, 1]), (0, [1, 1, 1, 1, 0, 1, 0, 0, 1]), (2, [1, 1, 1, 1, 0, 1, 0, 0]), (1, [0]), (0, [1, 1, 1, 1, 1])] [(0, .slice script_b script_l script_c), (3, .pointer w0), (4, .bool fair), (5, .int .i64 i), (19, .bool t19)] w := by kernel_rfl
theorem hostlaw_RefinesFairUpTo.B1_sound {R : Int → World → Prop} {N1 : Option Addr → Nat → Nat → Option Addr → Bool → Int → World → Prop} (hN1 : ∀ script_b script_l script_c w0 fair i w, N1 script_b script_l script_c w0 fair i w → KW Tryz.prog 11 80 (hostlaw_RefinesFairUpTo.RV R) ([(0, [1, 1, 1, 1, 0, 1, 0, 0]), (2, [1, 1, 1, 1, 0, 1, 0, 0]), (1, [0]), (0, [1, 1, 1, 1, 1])].map (toItem (Tryz.f11.body.getD .skip))) [(0, .slice script_b script_l script_c), (3, .pointer w0), (4, .bool fair), (5, .int .i64 i)] w) (script_b : Option Addr) (script_l script_c : Nat) (w0 : Option Addr) (fair : Bool) (i : Int) (t19 : Bool) (w : World) (h : hostlaw_RefinesFairUpTo.B1 script_b script_l script_c w0 fair i t19 w N1  R) :
    KW Tryz.prog 11 80 (hostlaw_RefinesFairUpTo.RV R) ([(0, [1, 1, 1, 1, 0, 1, 0, 0, 0, 1]), (0, [1, 1, 1, 1, 0, 1, 0, 0, 1]), (2, [1, 1, 1, 1, 0, 1, 0, 0]), (1, [0]), (0, [1, 1, 1, 1, 1])].map (toItem (Tryz.f11.body.getD .skip))) [(0, .slice script_b script_l script_c), (3, .pointer w0), (4, .bool fair), (5, .int .i64 i), (19, .bool t19)] w := by
  exact block_spec Tryz.func11 Tryz.mixed (stops_cons (fun σ w h => by
      obtain ⟨script_b_, script_l_, script_c_, e0, h⟩ := dL_elim h
      obtain ⟨w0_, e1, h⟩ := dP_elim h
      obtain ⟨fair_, e2, h⟩ := dB_elim h
      obtain ⟨i_, e3, h⟩ := dI_elim h
      exact (hostlaw_RefinesFairUpTo.B2_sound hN1 script_b_ script_l_ script_c_ w0_ fair_ i_ w h).weaken (Sub.cons (Sub.cons (Sub.cons (Sub.cons (Sub.nil _) e3) e2) e1) e0)) stops_nil) (Eq.mp (hostlaw_RefinesFairUpTo.B1_eq script_b script_l script_c w0 fair i t19 w N1  R (fun script_b_ script_l_ script_c_ w0_ fair_ i_ w => hostlaw_RefinesFairUpTo.B2 script_b_ script_l_ script_c_ w0_ fair_ i_ w N1 R)) h)
def hostlaw_RefinesFairUpTo.L1b (script_b : Option Addr) (script_l script_c : Nat) (w0 : Option Addr) (fair : Bool) (i : Int) (w : World)  (N1 : Option Addr → Nat → Nat → Option Addr → Bool → Int → World → Prop) (R : Int → World → Prop) : Prop :=
  Bm (decide (i < ((script_l : Nat) : Int))) (
    hostlaw_RefinesFairUpTo.B1 script_b script_l script_c w0 fair i (decide (i < (1048576 : Int))) w N1 R) (
    hostlaw_RefinesFairUpTo.B1 script_b script_l script_c w0 fair i false w N1 R)
theorem hostlaw_RefinesFairUpTo.L1b_eq (script_b : Option Addr) (script_l script_c : Nat) (w0 : Option Addr) (fair : Bool) (i : Int) (w : World)  (N1 : Option Addr → Nat → Nat → Option Addr → Bool → Int → World → Prop) (R : Int → World → Prop) (sB1 : Option Addr → Nat → Nat → Option Addr → Bool → Int → Bool → World → Prop) :
    (
  Bm (decide (i < ((script_l : Nat) : Int))) (
    sB1 script_b script_l script_c w0 fair i (decide (i < (1048576 : Int))) w) (
    sB1 script_b script_l script_c w0 fair i false w)) = kstep Tryz.prog 80 Tryz.f11.results.toList (Tryz.f11.body.getD .skip) (hostlaw_RefinesFairUpTo.RV R) (kvc Tryz.prog 80 Tryz.f11.results.toList (Tryz.f11.body.getD .skip) (hostlaw_RefinesFairUpTo.RV R) [([(0, [1, 1, 1, 1, 0, 1, 0, 0, 0, 1]), (0, [1, 1, 1, 1, 0, 1, 0, 0, 1]), (2, [1, 1, 1, 1, 0, 1, 0, 0]), (1, [0]), (0, [1, 1, 1, 1, 1])], fun σ w => dL (slotOf σ 0) fun script_b_ script_l_ script_c_ => dP (slotOf σ 3) fun w0_ => dB (slotOf σ 4) fun fair_ => dI .i64 (slotOf σ 5) fun i_ => dB (slotOf σ 19) fun t19_ => sB1 script_b_ script_l_ script_c_ w0_ fair_ i_ t19_ w)] 2000) [(0, [1, 1, 1, 1, 0, 1, 0, 0]), (2, [1, 1, 1, 1, 0, 1, 0, 0]), (1, [0]), (0, [1, 1, 1, 1, 1])] [(0, .slice script_b script_l script_c), (3, .pointer w0), (4, .bool fair), (5, .int .i64 i)] w := by kernel_rfl
theorem hostlaw_RefinesFairUpTo.L1b_sound {R : Int → World → Prop} {N1 : Option Addr → Nat → Nat → Option Addr → Bool → Int → World → Prop} (hN1 : ∀ script_b script_l script_c w0 fair i w, N1 script_b script_l script_c w0 fair i w → KW Tryz.prog 11 80 (hostlaw_RefinesFairUpTo.RV R) ([(0, [1, 1, 1, 1, 0, 1, 0, 0]), (2, [1, 1, 1, 1, 0, 1, 0, 0]), (1, [0]), (0, [1, 1, 1, 1, 1])].map (toItem (Tryz.f11.body.getD .skip))) [(0, .slice script_b script_l script_c), (3, .pointer w0), (4, .bool fair), (5, .int .i64 i)] w) (script_b : Option Addr) (script_l script_c : Nat) (w0 : Option Addr) (fair : Bool) (i : Int) (w : World) (h : hostlaw_RefinesFairUpTo.L1b script_b script_l script_c w0 fair i w  N1 R) :
    KW Tryz.prog 11 80 (hostlaw_RefinesFairUpTo.RV R) ([(0, [1, 1, 1, 1, 0, 1, 0, 0]), (2, [1, 1, 1, 1, 0, 1, 0, 0]), (1, [0]), (0, [1, 1, 1, 1, 1])].map (toItem (Tryz.f11.body.getD .skip))) [(0, .slice script_b script_l script_c), (3, .pointer w0), (4, .bool fair), (5, .int .i64 i)] w := by
  exact block_spec Tryz.func11 Tryz.mixed (stops_cons (fun σ w h => by
      obtain ⟨script_b_, script_l_, script_c_, e0, h⟩ := dL_elim h
      obtain ⟨w0_, e1, h⟩ := dP_elim h
      obtain ⟨fair_, e2, h⟩ := dB_elim h
      obtain ⟨i_, e3, h⟩ := dI_elim h
      obtain ⟨t19_, e4, h⟩ := dB_elim h
      exact (hostlaw_RefinesFairUpTo.B1_sound hN1 script_b_ script_l_ script_c_ w0_ fair_ i_ t19_ w h).weaken (Sub.cons (Sub.cons (Sub.cons (Sub.cons (Sub.cons (Sub.nil _) e4) e3) e2) e1) e0)) stops_nil) (Eq.mp (hostlaw_RefinesFairUpTo.L1b_eq script_b script_l script_c w0 fair i w  N1 R (fun script_b_ script_l_ script_c_ w0_ fair_ i_ t19_ w => hostlaw_RefinesFairUpTo.B1 script_b_ script_l_ script_c_ w0_ fair_ i_ t19_ w N1 R)) h)
def hostlaw_RefinesFairUpTo.L1 (script_b : Option Addr) (script_l script_c : Nat) (w0 : Option Addr) (fair : Bool) (i : Int) (w : World)  (R : Int → World → Prop) : Prop :=
  ∃ (I : Nat → Option Addr → Nat → Nat → Option Addr → Bool → Int → World → Prop) (m : Nat), I m script_b script_l script_c w0 fair i w ∧ ∀ m script_b script_l script_c w0 fair i w, I m script_b script_l script_c w0 fair i w → hostlaw_RefinesFairUpTo.L1b script_b script_l script_c w0 fair i w  (fun script_b' script_l' script_c' w0' fair' i' w' => ∃ m', m' < m ∧ I m' script_b' script_l' script_c' w0' fair' i' w') R
theorem hostlaw_RefinesFairUpTo.L1_sound {R : Int → World → Prop}  (script_b : Option Addr) (script_l script_c : Nat) (w0 : Option Addr) (fair : Bool) (i : Int) (w : World) (h : hostlaw_RefinesFairUpTo.L1 script_b script_l script_c w0 fair i w  R) :
    KW Tryz.prog 11 80 (hostlaw_RefinesFairUpTo.RV R) ([(0, [1, 1, 1, 1, 0, 1, 0, 0]), (2, [1, 1, 1, 1, 0, 1, 0, 0]), (1, [0]), (0, [1, 1, 1, 1, 1])].map (toItem (Tryz.f11.body.getD .skip))) [(0, .slice script_b script_l script_c), (3, .pointer w0), (4, .bool fair), (5, .int .i64 i)] w := by
  obtain ⟨I, m, hBase, hr⟩ := h
  refine KW.loop (fun m σ w => ∃ (script_b : Option Addr) (script_l script_c : Nat) (w0 : Option Addr) (fair : Bool) (i : Int), σ = [(0, .slice script_b script_l script_c), (3, .pointer w0), (4, .bool fair), (5, .int .i64 i)] ∧ I m script_b script_l script_c w0 fair i w) ?_ m _ w ⟨script_b, script_l, script_c, w0, fair, i, rfl, hBase⟩
  rintro m ih σ w ⟨script_b, script_l, script_c, w0, fair, i, rfl, hI⟩
  exact hostlaw_RefinesFairUpTo.L1b_sound  (N1 := fun script_b' script_l' script_c' w0' fair' i' w' => ∃ m', m' < m ∧ I m' script_b' script_l' script_c' w0' fair' i' w') (fun script_b' script_l' script_c' w0' fair' i' w' hx => by obtain ⟨m', hlt, hI'⟩ := hx; exact ih m' hlt _ w' ⟨script_b', script_l', script_c', w0', fair', i', rfl, hI'⟩) script_b script_l script_c w0 fair i w (hr m script_b script_l script_c w0 fair i w hI)
def hostlaw_RefinesFairUpTo.B0 (script_b : Option Addr) (script_l script_c : Nat) (w : World)   (R : Int → World → Prop) : Prop :=
  hostlaw_NewWorld.Call false w fun r8 w1 =>
  hostlaw_World_Look.Call r8 w1 fun r10 w2 =>
  Bm (!r10) (
    R (0 : Int) w2) (
    hostlaw_RefinesFairUpTo.L1 script_b script_l script_c r8 true (0 : Int) w2  R)
theorem hostlaw_RefinesFairUpTo.B0_eq (script_b : Option Addr) (script_l script_c : Nat) (w : World)   (R : Int → World → Prop) (sL1 : Option Addr → Nat → Nat → Option Addr → Bool → Int → World → Prop) :
    (
  hostlaw_NewWorld.Call false w fun r8 w1 =>
  hostlaw_World_Look.Call r8 w1 fun r10 w2 =>
  Bm (!r10) (
    R (0 : Int) w2) (
    sL1 script_b script_l script_c r8 true (0 : Int) w2)) = kstep Tryz.prog 80 Tryz.f11.results.toList (Tryz.f11.body.getD .skip) (hostlaw_RefinesFairUpTo.RV R) (kvc Tryz.prog 80 Tryz.f11.results.toList (Tryz.f11.body.getD .skip) (hostlaw_RefinesFairUpTo.RV R) [([(0, [1, 1, 1, 1, 0, 1, 0, 0]), (2, [1, 1, 1, 1, 0, 1, 0, 0]), (1, [0]), (0, [1, 1, 1, 1, 1])], fun σ w => dL (slotOf σ 0) fun script_b_ script_l_ script_c_ => dP (slotOf σ 3) fun w0_ => dB (slotOf σ 4) fun fair_ => dI .i64 (slotOf σ 5) fun i_ => sL1 script_b_ script_l_ script_c_ w0_ fair_ i_ w)] 2000) [(0, [])] [(0, .slice script_b script_l script_c)] w := by kernel_rfl
theorem hostlaw_RefinesFairUpTo.B0_sound {R : Int → World → Prop}  (script_b : Option Addr) (script_l script_c : Nat) (w : World) (h : hostlaw_RefinesFairUpTo.B0 script_b script_l script_c w   R) :
    KW Tryz.prog 11 80 (hostlaw_RefinesFairUpTo.RV R) ([(0, [])].map (toItem (Tryz.f11.body.getD .skip))) [(0, .slice script_b script_l script_c)] w := by
  exact block_spec Tryz.func11 Tryz.mixed (stops_cons (fun σ w h => by
      obtain ⟨script_b_, script_l_, script_c_, e0, h⟩ := dL_elim h
      obtain ⟨w0_, e1, h⟩ := dP_elim h
      obtain ⟨fair_, e2, h⟩ := dB_elim h
      obtain ⟨i_, e3, h⟩ := dI_elim h
      exact (hostlaw_RefinesFairUpTo.L1_sound  script_b_ script_l_ script_c_ w0_ fair_ i_ w h).weaken (Sub.cons (Sub.cons (Sub.cons (Sub.cons (Sub.nil _) e3) e2) e1) e0)) stops_nil) (Eq.mp (hostlaw_RefinesFairUpTo.B0_eq script_b script_l script_c w   R (fun script_b_ script_l_ script_c_ w0_ fair_ i_ w => hostlaw_RefinesFairUpTo.L1 script_b_ script_l_ script_c_ w0_ fair_ i_ w  R)) h)
theorem hostlaw_RefinesFairUpTo.sound (script_b : Option Addr) (script_l script_c : Nat) (w : World) (R : Int → World → Prop) (h : hostlaw_RefinesFairUpTo.B0 script_b script_l script_c w R) : hostlaw_RefinesFairUpTo.Call script_b script_l script_c w R := by
  have hc := calls_of_block (args := #[.slice script_b script_l script_c]) Tryz.func11 (body := (Tryz.f11.body.getD .skip)) (by kernel_rfl) (by kernel_rfl) (args_slot _) (hostlaw_RefinesFairUpTo.B0_sound script_b script_l script_c w h)
  exact hc.mono fun e w' he => by
    obtain ⟨v, rfl, hv⟩ := he
    exact hostlaw_RefinesFairUpTo.RV_elim hv
end Go.Proofs.Qxb6500424aGreat
