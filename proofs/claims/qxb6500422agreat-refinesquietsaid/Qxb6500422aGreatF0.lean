import Derived.Test.Qxb6500422aGreatSig
set_option maxRecDepth 100000
set_option linter.unusedVariables false
open Go.Vc
namespace Go.Proofs.Qxb6500422aGreat
def connlaw_Refines.B0 (script_b : Option Addr) (script_l script_c : Nat) (w : World)   (R : Bool → World → Prop) : Prop :=
  connlaw_RefinesUpTo.Call script_b script_l script_c w fun r4 w1 =>
  R (r4 == (-1 : Int)) w1
theorem connlaw_Refines.B0_eq (script_b : Option Addr) (script_l script_c : Nat) (w : World)   (R : Bool → World → Prop)  :
    (
  connlaw_RefinesUpTo.Call script_b script_l script_c w fun r4 w1 =>
  R (r4 == (-1 : Int)) w1) = kstep Tryz.prog 6 Tryz.f3.results.toList (Tryz.f3.body.getD .skip) (connlaw_Refines.RV R) (kvc Tryz.prog 6 Tryz.f3.results.toList (Tryz.f3.body.getD .skip) (connlaw_Refines.RV R) [] 2000) [(0, [])] [(0, .slice script_b script_l script_c)] w := by kernel_rfl
theorem connlaw_Refines.B0_sound {R : Bool → World → Prop}  (script_b : Option Addr) (script_l script_c : Nat) (w : World) (h : connlaw_Refines.B0 script_b script_l script_c w   R) :
    KW Tryz.prog 3 6 (connlaw_Refines.RV R) ([(0, [])].map (toItem (Tryz.f3.body.getD .skip))) [(0, .slice script_b script_l script_c)] w := by
  exact block_spec Tryz.func3 Tryz.mixed stops_nil (Eq.mp (connlaw_Refines.B0_eq script_b script_l script_c w   R ) h)
theorem connlaw_Refines.sound (script_b : Option Addr) (script_l script_c : Nat) (w : World) (R : Bool → World → Prop) (h : connlaw_Refines.B0 script_b script_l script_c w R) : connlaw_Refines.Call script_b script_l script_c w R := by
  have hc := calls_of_block (args := #[.slice script_b script_l script_c]) Tryz.func3 (body := (Tryz.f3.body.getD .skip)) (by kernel_rfl) (by kernel_rfl) (args_slot _) (connlaw_Refines.B0_sound script_b script_l script_c w h)
  exact hc.mono fun e w' he => by
    obtain ⟨v, rfl, hv⟩ := he
    exact connlaw_Refines.RV_elim hv
def connlaw_RefinesQuiet.B0 (script_b : Option Addr) (script_l script_c : Nat) (w : World)   (R : Bool → World → Prop) : Prop :=
  connlaw_RefinesQuietUpTo.Call script_b script_l script_c w fun r4 w1 =>
  R (r4 == (-1 : Int)) w1
theorem connlaw_RefinesQuiet.B0_eq (script_b : Option Addr) (script_l script_c : Nat) (w : World)   (R : Bool → World → Prop)  :
    (
  connlaw_RefinesQuietUpTo.Call script_b script_l script_c w fun r4 w1 =>
  R (r4 == (-1 : Int)) w1) = kstep Tryz.prog 6 Tryz.f4.results.toList (Tryz.f4.body.getD .skip) (connlaw_RefinesQuiet.RV R) (kvc Tryz.prog 6 Tryz.f4.results.toList (Tryz.f4.body.getD .skip) (connlaw_RefinesQuiet.RV R) [] 2000) [(0, [])] [(0, .slice script_b script_l script_c)] w := by kernel_rfl
theorem connlaw_RefinesQuiet.B0_sound {R : Bool → World → Prop}  (script_b : Option Addr) (script_l script_c : Nat) (w : World) (h : connlaw_RefinesQuiet.B0 script_b script_l script_c w   R) :
    KW Tryz.prog 4 6 (connlaw_RefinesQuiet.RV R) ([(0, [])].map (toItem (Tryz.f4.body.getD .skip))) [(0, .slice script_b script_l script_c)] w := by
  exact block_spec Tryz.func4 Tryz.mixed stops_nil (Eq.mp (connlaw_RefinesQuiet.B0_eq script_b script_l script_c w   R ) h)
theorem connlaw_RefinesQuiet.sound (script_b : Option Addr) (script_l script_c : Nat) (w : World) (R : Bool → World → Prop) (h : connlaw_RefinesQuiet.B0 script_b script_l script_c w R) : connlaw_RefinesQuiet.Call script_b script_l script_c w R := by
  have hc := calls_of_block (args := #[.slice script_b script_l script_c]) Tryz.func4 (body := (Tryz.f4.body.getD .skip)) (by kernel_rfl) (by kernel_rfl) (args_slot _) (connlaw_RefinesQuiet.B0_sound script_b script_l script_c w h)
  exact hc.mono fun e w' he => by
    obtain ⟨v, rfl, hv⟩ := he
    exact connlaw_RefinesQuiet.RV_elim hv
def connlaw_RefinesUpTo.B0 (script_b : Option Addr) (script_l script_c : Nat) (w : World)   (R : Int → World → Prop) : Prop :=
  connlaw_walk.Call script_b script_l script_c false w fun r7_0 r7_1 w1 =>
  R r7_0 w1
theorem connlaw_RefinesUpTo.B0_eq (script_b : Option Addr) (script_l script_c : Nat) (w : World)   (R : Int → World → Prop)  :
    (
  connlaw_walk.Call script_b script_l script_c false w fun r7_0 r7_1 w1 =>
  R r7_0 w1) = kstep Tryz.prog 11 Tryz.f5.results.toList (Tryz.f5.body.getD .skip) (connlaw_RefinesUpTo.RV R) (kvc Tryz.prog 11 Tryz.f5.results.toList (Tryz.f5.body.getD .skip) (connlaw_RefinesUpTo.RV R) [] 2000) [(0, [])] [(0, .slice script_b script_l script_c)] w := by kernel_rfl
theorem connlaw_RefinesUpTo.B0_sound {R : Int → World → Prop}  (script_b : Option Addr) (script_l script_c : Nat) (w : World) (h : connlaw_RefinesUpTo.B0 script_b script_l script_c w   R) :
    KW Tryz.prog 5 11 (connlaw_RefinesUpTo.RV R) ([(0, [])].map (toItem (Tryz.f5.body.getD .skip))) [(0, .slice script_b script_l script_c)] w := by
  exact block_spec Tryz.func5 Tryz.mixed stops_nil (Eq.mp (connlaw_RefinesUpTo.B0_eq script_b script_l script_c w   R ) h)
theorem connlaw_RefinesUpTo.sound (script_b : Option Addr) (script_l script_c : Nat) (w : World) (R : Int → World → Prop) (h : connlaw_RefinesUpTo.B0 script_b script_l script_c w R) : connlaw_RefinesUpTo.Call script_b script_l script_c w R := by
  have hc := calls_of_block (args := #[.slice script_b script_l script_c]) Tryz.func5 (body := (Tryz.f5.body.getD .skip)) (by kernel_rfl) (by kernel_rfl) (args_slot _) (connlaw_RefinesUpTo.B0_sound script_b script_l script_c w h)
  exact hc.mono fun e w' he => by
    obtain ⟨v, rfl, hv⟩ := he
    exact connlaw_RefinesUpTo.RV_elim hv
def connlaw_RefinesQuietUpTo.B0 (script_b : Option Addr) (script_l script_c : Nat) (w : World)   (R : Int → World → Prop) : Prop :=
  connlaw_walk.Call script_b script_l script_c true w fun r7_0 r7_1 w1 =>
  R r7_0 w1
theorem connlaw_RefinesQuietUpTo.B0_eq (script_b : Option Addr) (script_l script_c : Nat) (w : World)   (R : Int → World → Prop)  :
    (
  connlaw_walk.Call script_b script_l script_c true w fun r7_0 r7_1 w1 =>
  R r7_0 w1) = kstep Tryz.prog 11 Tryz.f6.results.toList (Tryz.f6.body.getD .skip) (connlaw_RefinesQuietUpTo.RV R) (kvc Tryz.prog 11 Tryz.f6.results.toList (Tryz.f6.body.getD .skip) (connlaw_RefinesQuietUpTo.RV R) [] 2000) [(0, [])] [(0, .slice script_b script_l script_c)] w := by kernel_rfl
theorem connlaw_RefinesQuietUpTo.B0_sound {R : Int → World → Prop}  (script_b : Option Addr) (script_l script_c : Nat) (w : World) (h : connlaw_RefinesQuietUpTo.B0 script_b script_l script_c w   R) :
    KW Tryz.prog 6 11 (connlaw_RefinesQuietUpTo.RV R) ([(0, [])].map (toItem (Tryz.f6.body.getD .skip))) [(0, .slice script_b script_l script_c)] w := by
  exact block_spec Tryz.func6 Tryz.mixed stops_nil (Eq.mp (connlaw_RefinesQuietUpTo.B0_eq script_b script_l script_c w   R ) h)
theorem connlaw_RefinesQuietUpTo.sound (script_b : Option Addr) (script_l script_c : Nat) (w : World) (R : Int → World → Prop) (h : connlaw_RefinesQuietUpTo.B0 script_b script_l script_c w R) : connlaw_RefinesQuietUpTo.Call script_b script_l script_c w R := by
  have hc := calls_of_block (args := #[.slice script_b script_l script_c]) Tryz.func6 (body := (Tryz.f6.body.getD .skip)) (by kernel_rfl) (by kernel_rfl) (args_slot _) (connlaw_RefinesQuietUpTo.B0_sound script_b script_l script_c w h)
  exact hc.mono fun e w' he => by
    obtain ⟨v, rfl, hv⟩ := he
    exact connlaw_RefinesQuietUpTo.RV_elim hv
def connlaw_walk.B3 (w0 : Option Addr) (n : Int) (w : World)   (R : Int → Int → World → Prop) : Prop :=
  connlaw_World_Untouched.Call w0 w fun r40 w1 =>
  Bm (!r40) (
    Bm (n == (0 : Int)) (
      R (0 : Int) (0 : Int) w1) (
      R (IntKind.i64.wrap (n - (1 : Int))) n w1)) (
    R (-1 : Int) n w1)
theorem connlaw_walk.B3_eq (w0 : Option Addr) (n : Int) (w : World)   (R : Int → Int → World → Prop)  :
    (
  connlaw_World_Untouched.Call w0 w fun r40 w1 =>
  Bm (!r40) (
    Bm (n == (0 : Int)) (
      R (0 : Int) (0 : Int) w1) (
      R (IntKind.i64.wrap (n - (1 : Int))) n w1)) (
    R (-1 : Int) n w1)) = kstep Tryz.prog 48 Tryz.f7.results.toList (Tryz.f7.body.getD .skip) (connlaw_walk.RV R) (kvc Tryz.prog 48 Tryz.f7.results.toList (Tryz.f7.body.getD .skip) (connlaw_walk.RV R) [] 2000) [(0, [1, 1, 1, 1, 1, 1])] [(6, .pointer w0), (8, .int .i64 n)] w := by kernel_rfl
theorem connlaw_walk.B3_sound {R : Int → Int → World → Prop}  (w0 : Option Addr) (n : Int) (w : World) (h : connlaw_walk.B3 w0 n w   R) :
    KW Tryz.prog 7 48 (connlaw_walk.RV R) ([(0, [1, 1, 1, 1, 1, 1])].map (toItem (Tryz.f7.body.getD .skip))) [(6, .pointer w0), (8, .int .i64 n)] w := by
  exact block_spec Tryz.func7 Tryz.mixed stops_nil (Eq.mp (connlaw_walk.B3_eq w0 n w   R ) h)
def connlaw_walk.B2 (script_b : Option Addr) (script_l script_c : Nat) (w0 : Option Addr) (i : Int) (t23 : Bool) (w : World) (N1 : Option Addr → Nat → Nat → Option Addr → Int → World → Prop)  (R : Int → Int → World → Prop) : Prop :=
  Bm t23 (
    Pn script_b fun a =>
    (0 ≤ i ∧ i < ((script_l : Nat) : Int)) ∧
    LdI .i64 (Addr.add a (i.toNat * 6)) w fun x30_0 =>
    LdI .i64 ((Addr.add a (i.toNat * 6)).add 1) w fun x30_1 =>
    LdI .i64 ((Addr.add a (i.toNat * 6)).add 2) w fun x30_2 =>
    LdI .i64 ((Addr.add a (i.toNat * 6)).add 3) w fun x30_3 =>
    LdS ((Addr.add a (i.toNat * 6)).add 4) w fun x30_4 =>
    LdS ((Addr.add a (i.toNat * 6)).add 5) w fun x30_5 =>
    connlaw_World_Step.Call w0 x30_0 x30_1 x30_2 x30_3 x30_4 x30_5 w fun r31 w1 =>
    Bm (!r31) (
      R i i w1) (
      N1 script_b script_l script_c w0 (IntKind.i64.wrap (i + (1 : Int))) w1)) (
    Bm (decide (((script_l : Nat) : Int) > (1048576 : Int))) (
      connlaw_walk.B3 w0 (1048576 : Int) w  R) (
      connlaw_walk.B3 w0 ((script_l : Nat) : Int) w  R))
theorem connlaw_walk.B2_eq (script_b : Option Addr) (script_l script_c : Nat) (w0 : Option Addr) (i : Int) (t23 : Bool) (w : World) (N1 : Option Addr → Nat → Nat → Option Addr → Int → World → Prop)  (R : Int → Int → World → Prop) (sB3 : Option Addr → Int → World → Prop) :
    (
  Bm t23 (
    Pn script_b fun a =>
    (0 ≤ i ∧ i < ((script_l : Nat) : Int)) ∧
    LdI .i64 (Addr.add a (i.toNat * 6)) w fun x30_0 =>
    LdI .i64 ((Addr.add a (i.toNat * 6)).add 1) w fun x30_1 =>
    LdI .i64 ((Addr.add a (i.toNat * 6)).add 2) w fun x30_2 =>
    LdI .i64 ((Addr.add a (i.toNat * 6)).add 3) w fun x30_3 =>
    LdS ((Addr.add a (i.toNat * 6)).add 4) w fun x30_4 =>
    LdS ((Addr.add a (i.toNat * 6)).add 5) w fun x30_5 =>
    connlaw_World_Step.Call w0 x30_0 x30_1 x30_2 x30_3 x30_4 x30_5 w fun r31 w1 =>
    Bm (!r31) (
      R i i w1) (
      N1 script_b script_l script_c w0 (IntKind.i64.wrap (i + (1 : Int))) w1)) (
    Bm (decide (((script_l : Nat) : Int) > (1048576 : Int))) (
      sB3 w0 (1048576 : Int) w) (
      sB3 w0 ((script_l : Nat) : Int) w))) = kstep Tryz.prog 48 Tryz.f7.results.toList (Tryz.f7.body.getD .skip) (connlaw_walk.RV R) (kvc Tryz.prog 48 Tryz.f7.results.toList (Tryz.f7.body.getD .skip) (connlaw_walk.RV R) [([(0, [1, 1, 1, 0, 1, 0, 0]), (2, [1, 1, 1, 0, 1, 0, 0]), (1, [0]), (0, [1, 1, 1, 1])], fun σ w => dL (slotOf σ 0) fun script_b_ script_l_ script_c_ => dP (slotOf σ 6) fun w0_ => dI .i64 (slotOf σ 7) fun i_ => N1 script_b_ script_l_ script_c_ w0_ i_ w),
    ([(0, [1, 1, 1, 1, 1, 1])], fun σ w => dP (slotOf σ 6) fun w0_ => dI .i64 (slotOf σ 8) fun n_ => sB3 w0_ n_ w)] 2000) [(0, [1, 1, 1, 0, 1, 0, 0, 0, 1]), (0, [1, 1, 1, 0, 1, 0, 0, 1]), (2, [1, 1, 1, 0, 1, 0, 0]), (1, [0]), (0, [1, 1, 1, 1])] [(0, .slice script_b script_l script_c), (6, .pointer w0), (7, .int .i64 i), (23, .bool t23)] w := by kernel_rfl
theorem connlaw_walk.B2_sound {R : Int → Int → World → Prop} {N1 : Option Addr → Nat → Nat → Option Addr → Int → World → Prop} (hN1 : ∀ script_b script_l script_c w0 i w, N1 script_b script_l script_c w0 i w → KW Tryz.prog 7 48 (connlaw_walk.RV R) ([(0, [1, 1, 1, 0, 1, 0, 0]), (2, [1, 1, 1, 0, 1, 0, 0]), (1, [0]), (0, [1, 1, 1, 1])].map (toItem (Tryz.f7.body.getD .skip))) [(0, .slice script_b script_l script_c), (6, .pointer w0), (7, .int .i64 i)] w) (script_b : Option Addr) (script_l script_c : Nat) (w0 : Option Addr) (i : Int) (t23 : Bool) (w : World) (h : connlaw_walk.B2 script_b script_l script_c w0 i t23 w N1  R) :
    KW Tryz.prog 7 48 (connlaw_walk.RV R) ([(0, [1, 1, 1, 0, 1, 0, 0, 0, 1]), (0, [1, 1, 1, 0, 1, 0, 0, 1]), (2, [1, 1, 1, 0, 1, 0, 0]), (1, [0]), (0, [1, 1, 1, 1])].map (toItem (Tryz.f7.body.getD .skip))) [(0, .slice script_b script_l script_c), (6, .pointer w0), (7, .int .i64 i), (23, .bool t23)] w := by
  exact block_spec Tryz.func7 Tryz.mixed (stops_cons (fun σ w h => by
      obtain ⟨script_b_, script_l_, script_c_, e0, h⟩ := dL_elim h
      obtain ⟨w0_, e1, h⟩ := dP_elim h
      obtain ⟨i_, e2, h⟩ := dI_elim h
      exact (hN1 script_b_ script_l_ script_c_ w0_ i_ w h).weaken (Sub.cons (Sub.cons (Sub.cons (Sub.nil _) e2) e1) e0)) (stops_cons (fun σ w h => by
      obtain ⟨w0_, e0, h⟩ := dP_elim h
      obtain ⟨n_, e1, h⟩ := dI_elim h
      exact (connlaw_walk.B3_sound  w0_ n_ w h).weaken (Sub.cons (Sub.cons (Sub.nil _) e1) e0)) stops_nil)) (Eq.mp (connlaw_walk.B2_eq script_b script_l script_c w0 i t23 w N1  R (fun w0_ n_ w => connlaw_walk.B3 w0_ n_ w  R)) h)
def connlaw_walk.L1b (script_b : Option Addr) (script_l script_c : Nat) (w0 : Option Addr) (i : Int) (w : World)  (N1 : Option Addr → Nat → Nat → Option Addr → Int → World → Prop) (R : Int → Int → World → Prop) : Prop :=
  Bm (decide (i < ((script_l : Nat) : Int))) (
    connlaw_walk.B2 script_b script_l script_c w0 i (decide (i < (1048576 : Int))) w N1 R) (
    connlaw_walk.B2 script_b script_l script_c w0 i false w N1 R)
theorem connlaw_walk.L1b_eq (script_b : Option Addr) (script_l script_c : Nat) (w0 : Option Addr) (i : Int) (w : World)  (N1 : Option Addr → Nat → Nat → Option Addr → Int → World → Prop) (R : Int → Int → World → Prop) (sB2 : Option Addr → Nat → Nat → Option Addr → Int → Bool → World → Prop) :
    (
  Bm (decide (i < ((script_l : Nat) : Int))) (
    sB2 script_b script_l script_c w0 i (decide (i < (1048576 : Int))) w) (
    sB2 script_b script_l script_c w0 i false w)) = kstep Tryz.prog 48 Tryz.f7.results.toList (Tryz.f7.body.getD .skip) (connlaw_walk.RV R) (kvc Tryz.prog 48 Tryz.f7.results.toList (Tryz.f7.body.getD .skip) (connlaw_walk.RV R) [([(0, [1, 1, 1, 0, 1, 0, 0, 0, 1]), (0, [1, 1, 1, 0, 1, 0, 0, 1]), (2, [1, 1, 1, 0, 1, 0, 0]), (1, [0]), (0, [1, 1, 1, 1])], fun σ w => dL (slotOf σ 0) fun script_b_ script_l_ script_c_ => dP (slotOf σ 6) fun w0_ => dI .i64 (slotOf σ 7) fun i_ => dB (slotOf σ 23) fun t23_ => sB2 script_b_ script_l_ script_c_ w0_ i_ t23_ w)] 2000) [(0, [1, 1, 1, 0, 1, 0, 0]), (2, [1, 1, 1, 0, 1, 0, 0]), (1, [0]), (0, [1, 1, 1, 1])] [(0, .slice script_b script_l script_c), (6, .pointer w0), (7, .int .i64 i)] w := by kernel_rfl
theorem connlaw_walk.L1b_sound {R : Int → Int → World → Prop} {N1 : Option Addr → Nat → Nat → Option Addr → Int → World → Prop} (hN1 : ∀ script_b script_l script_c w0 i w, N1 script_b script_l script_c w0 i w → KW Tryz.prog 7 48 (connlaw_walk.RV R) ([(0, [1, 1, 1, 0, 1, 0, 0]), (2, [1, 1, 1, 0, 1, 0, 0]), (1, [0]), (0, [1, 1, 1, 1])].map (toItem (Tryz.f7.body.getD .skip))) [(0, .slice script_b script_l script_c), (6, .pointer w0), (7, .int .i64 i)] w) (script_b : Option Addr) (script_l script_c : Nat) (w0 : Option Addr) (i : Int) (w : World) (h : connlaw_walk.L1b script_b script_l script_c w0 i w  N1 R) :
    KW Tryz.prog 7 48 (connlaw_walk.RV R) ([(0, [1, 1, 1, 0, 1, 0, 0]), (2, [1, 1, 1, 0, 1, 0, 0]), (1, [0]), (0, [1, 1, 1, 1])].map (toItem (Tryz.f7.body.getD .skip))) [(0, .slice script_b script_l script_c), (6, .pointer w0), (7, .int .i64 i)] w := by
  exact block_spec Tryz.func7 Tryz.mixed (stops_cons (fun σ w h => by
      obtain ⟨script_b_, script_l_, script_c_, e0, h⟩ := dL_elim h
      obtain ⟨w0_, e1, h⟩ := dP_elim h
      obtain ⟨i_, e2, h⟩ := dI_elim h
      obtain ⟨t23_, e3, h⟩ := dB_elim h
      exact (connlaw_walk.B2_sound hN1 script_b_ script_l_ script_c_ w0_ i_ t23_ w h).weaken (Sub.cons (Sub.cons (Sub.cons (Sub.cons (Sub.nil _) e3) e2) e1) e0)) stops_nil) (Eq.mp (connlaw_walk.L1b_eq script_b script_l script_c w0 i w  N1 R (fun script_b_ script_l_ script_c_ w0_ i_ t23_ w => connlaw_walk.B2 script_b_ script_l_ script_c_ w0_ i_ t23_ w N1 R)) h)
def connlaw_walk.L1 (script_b : Option Addr) (script_l script_c : Nat) (w0 : Option Addr) (i : Int) (w : World)  (R : Int → Int → World → Prop) : Prop :=
  ∃ (I : Nat → Option Addr → Nat → Nat → Option Addr → Int → World → Prop) (m : Nat), I m script_b script_l script_c w0 i w ∧ ∀ m script_b script_l script_c w0 i w, I m script_b script_l script_c w0 i w → connlaw_walk.L1b script_b script_l script_c w0 i w  (fun script_b' script_l' script_c' w0' i' w' => ∃ m', m' < m ∧ I m' script_b' script_l' script_c' w0' i' w') R
theorem connlaw_walk.L1_sound {R : Int → Int → World → Prop}  (script_b : Option Addr) (script_l script_c : Nat) (w0 : Option Addr) (i : Int) (w : World) (h : connlaw_walk.L1 script_b script_l script_c w0 i w  R) :
    KW Tryz.prog 7 48 (connlaw_walk.RV R) ([(0, [1, 1, 1, 0, 1, 0, 0]), (2, [1, 1, 1, 0, 1, 0, 0]), (1, [0]), (0, [1, 1, 1, 1])].map (toItem (Tryz.f7.body.getD .skip))) [(0, .slice script_b script_l script_c), (6, .pointer w0), (7, .int .i64 i)] w := by
  obtain ⟨I, m, hBase, hr⟩ := h
  refine KW.loop (fun m σ w => ∃ (script_b : Option Addr) (script_l script_c : Nat) (w0 : Option Addr) (i : Int), σ = [(0, .slice script_b script_l script_c), (6, .pointer w0), (7, .int .i64 i)] ∧ I m script_b script_l script_c w0 i w) ?_ m _ w ⟨script_b, script_l, script_c, w0, i, rfl, hBase⟩
  rintro m ih σ w ⟨script_b, script_l, script_c, w0, i, rfl, hI⟩
  exact connlaw_walk.L1b_sound  (N1 := fun script_b' script_l' script_c' w0' i' w' => ∃ m', m' < m ∧ I m' script_b' script_l' script_c' w0' i' w') (fun script_b' script_l' script_c' w0' i' w' hx => by obtain ⟨m', hlt, hI'⟩ := hx; exact ih m' hlt _ w' ⟨script_b', script_l', script_c', w0', i', rfl, hI'⟩) script_b script_l script_c w0 i w (hr m script_b script_l script_c w0 i w hI)
def connlaw_walk.B1 (script_b : Option Addr) (script_l script_c : Nat) (w0 : Option Addr) (w : World)   (R : Int → Int → World → Prop) : Prop :=
  connlaw_walk.L1 script_b script_l script_c w0 (0 : Int) w  R
theorem connlaw_walk.B1_eq (script_b : Option Addr) (script_l script_c : Nat) (w0 : Option Addr) (w : World)   (R : Int → Int → World → Prop) (sL1 : Option Addr → Nat → Nat → Option Addr → Int → World → Prop) :
    (
  sL1 script_b script_l script_c w0 (0 : Int) w) = kstep Tryz.prog 48 Tryz.f7.results.toList (Tryz.f7.body.getD .skip) (connlaw_walk.RV R) (kvc Tryz.prog 48 Tryz.f7.results.toList (Tryz.f7.body.getD .skip) (connlaw_walk.RV R) [([(0, [1, 1, 1, 0, 1, 0, 0]), (2, [1, 1, 1, 0, 1, 0, 0]), (1, [0]), (0, [1, 1, 1, 1])], fun σ w => dL (slotOf σ 0) fun script_b_ script_l_ script_c_ => dP (slotOf σ 6) fun w0_ => dI .i64 (slotOf σ 7) fun i_ => sL1 script_b_ script_l_ script_c_ w0_ i_ w)] 2000) [(0, [1, 1, 1])] [(0, .slice script_b script_l script_c), (6, .pointer w0)] w := by kernel_rfl
theorem connlaw_walk.B1_sound {R : Int → Int → World → Prop}  (script_b : Option Addr) (script_l script_c : Nat) (w0 : Option Addr) (w : World) (h : connlaw_walk.B1 script_b script_l script_c w0 w   R) :
    KW Tryz.prog 7 48 (connlaw_walk.RV R) ([(0, [1, 1, 1])].map (toItem (Tryz.f7.body.getD .skip))) [(0, .slice script_b script_l script_c), (6, .pointer w0)] w := by
  exact block_spec Tryz.func7 Tryz.mixed (stops_cons (fun σ w h => by
      obtain ⟨script_b_, script_l_, script_c_, e0, h⟩ := dL_elim h
      obtain ⟨w0_, e1, h⟩ := dP_elim h
      obtain ⟨i_, e2, h⟩ := dI_elim h
      exact (connlaw_walk.L1_sound  script_b_ script_l_ script_c_ w0_ i_ w h).weaken (Sub.cons (Sub.cons (Sub.cons (Sub.nil _) e2) e1) e0)) stops_nil) (Eq.mp (connlaw_walk.B1_eq script_b script_l script_c w0 w   R (fun script_b_ script_l_ script_c_ w0_ i_ w => connlaw_walk.L1 script_b_ script_l_ script_c_ w0_ i_ w  R)) h)
def connlaw_walk.B0 (script_b : Option Addr) (script_l script_c : Nat) (quiet : Bool) (w : World)   (R : Int → Int → World → Prop) : Prop :=
  connlaw_NewWorld.Call quiet w fun r10 w1 =>
  Bm (!quiet) (
    connlaw_World_Alike.Call r10 w1 fun r14 w2 =>
    Bm (!r14) (
      R (0 : Int) (0 : Int) w2) (
      connlaw_walk.B1 script_b script_l script_c r10 w2  R)) (
    connlaw_walk.B1 script_b script_l script_c r10 w1  R)
theorem connlaw_walk.B0_eq (script_b : Option Addr) (script_l script_c : Nat) (quiet : Bool) (w : World)   (R : Int → Int → World → Prop) (sB1 : Option Addr → Nat → Nat → Option Addr → World → Prop) :
    (
  connlaw_NewWorld.Call quiet w fun r10 w1 =>
  Bm (!quiet) (
    connlaw_World_Alike.Call r10 w1 fun r14 w2 =>
    Bm (!r14) (
      R (0 : Int) (0 : Int) w2) (
      sB1 script_b script_l script_c r10 w2)) (
    sB1 script_b script_l script_c r10 w1)) = kstep Tryz.prog 48 Tryz.f7.results.toList (Tryz.f7.body.getD .skip) (connlaw_walk.RV R) (kvc Tryz.prog 48 Tryz.f7.results.toList (Tryz.f7.body.getD .skip) (connlaw_walk.RV R) [([(0, [1, 1, 1])], fun σ w => dL (slotOf σ 0) fun script_b_ script_l_ script_c_ => dP (slotOf σ 6) fun w0_ => sB1 script_b_ script_l_ script_c_ w0_ w)] 2000) [(0, [])] [(0, .slice script_b script_l script_c), (1, .bool quiet)] w := by kernel_rfl
theorem connlaw_walk.B0_sound {R : Int → Int → World → Prop}  (script_b : Option Addr) (script_l script_c : Nat) (quiet : Bool) (w : World) (h : connlaw_walk.B0 script_b script_l script_c quiet w   R) :
    KW Tryz.prog 7 48 (connlaw_walk.RV R) ([(0, [])].map (toItem (Tryz.f7.body.getD .skip))) [(0, .slice script_b script_l script_c), (1, .bool quiet)] w := by
  exact block_spec Tryz.func7 Tryz.mixed (stops_cons (fun σ w h => by
      obtain ⟨script_b_, script_l_, script_c_, e0, h⟩ := dL_elim h
      obtain ⟨w0_, e1, h⟩ := dP_elim h
      exact (connlaw_walk.B1_sound  script_b_ script_l_ script_c_ w0_ w h).weaken (Sub.cons (Sub.cons (Sub.nil _) e1) e0)) stops_nil) (Eq.mp (connlaw_walk.B0_eq script_b script_l script_c quiet w   R (fun script_b_ script_l_ script_c_ w0_ w => connlaw_walk.B1 script_b_ script_l_ script_c_ w0_ w  R)) h)
theorem connlaw_walk.sound (script_b : Option Addr) (script_l script_c : Nat) (quiet : Bool) (w : World) (R : Int → Int → World → Prop) (h : connlaw_walk.B0 script_b script_l script_c quiet w R) : connlaw_walk.Call script_b script_l script_c quiet w R := by
  have hc := calls_of_block (args := #[.slice script_b script_l script_c, .bool quiet]) Tryz.func7 (body := (Tryz.f7.body.getD .skip)) (by kernel_rfl) (by kernel_rfl) (args_slot _) (connlaw_walk.B0_sound script_b script_l script_c quiet w h)
  exact hc.mono fun e w' he => by
    obtain ⟨v, rfl, hv⟩ := he
    exact connlaw_walk.RV_elim hv
def connlaw_NewWorld.L1b (w0 : Nat) (i : Int) (w : World)  (N1 : Nat → Int → World → Prop) (R : Option Addr → World → Prop) : Prop :=
  Bm (decide (i < (2 : Int))) (
    connlaw_Ground.Call  w fun r13_0 r13_1 w1 =>
    New (.cells #[.pointer none, .pointer none] 40) w1 fun b_ w2 =>
    Sts [.pointer r13_0, .pointer r13_1] ⟨b_, 0, none⟩ 0 w2 fun w3 =>
    LdP ⟨b_, 0, none⟩ w3.drew fun x16_0 =>
    LdP ⟨b_, 1, none⟩ w3.drew fun x16_1 =>
    (0 ≤ i ∧ i < ((2 : Nat) : Int)) ∧
    Sts [.pointer x16_0, .pointer x16_1] (Addr.add ⟨w0, 4, none⟩ (i.toNat * 2)) 0 w3.drew fun w4 =>
    LdP ⟨b_, 0, none⟩ w4.drew fun x23 =>
    LdP ⟨b_, 1, none⟩ w4.drew fun x25 =>
    conn_New.Call x23 x25 w4.drew fun r26 w5 =>
    (0 ≤ i ∧ i < ((2 : Nat) : Int)) ∧
    Sts [.pointer r26] (Addr.add ⟨w0, 0, none⟩ (i.toNat * 1)) 0 w5 fun w6 =>
    connm_New.Call  w6.drew fun r32 w7 =>
    (0 ≤ i ∧ i < ((2 : Nat) : Int)) ∧
    Sts [.pointer r32] (Addr.add ⟨w0, 2, none⟩ (i.toNat * 1)) 0 w7 fun w8 =>
    N1 w0 (IntKind.i64.wrap (i + (1 : Int))) w8) (
    R (some ⟨w0, 0, none⟩) w)
theorem connlaw_NewWorld.L1b_eq (w0 : Nat) (i : Int) (w : World)  (N1 : Nat → Int → World → Prop) (R : Option Addr → World → Prop)  :
    (
  Bm (decide (i < (2 : Int))) (
    connlaw_Ground.Call  w fun r13_0 r13_1 w1 =>
    New (.cells #[.pointer none, .pointer none] 40) w1 fun b_ w2 =>
    Sts [.pointer r13_0, .pointer r13_1] ⟨b_, 0, none⟩ 0 w2 fun w3 =>
    LdP ⟨b_, 0, none⟩ w3.drew fun x16_0 =>
    LdP ⟨b_, 1, none⟩ w3.drew fun x16_1 =>
    (0 ≤ i ∧ i < ((2 : Nat) : Int)) ∧
    Sts [.pointer x16_0, .pointer x16_1] (Addr.add ⟨w0, 4, none⟩ (i.toNat * 2)) 0 w3.drew fun w4 =>
    LdP ⟨b_, 0, none⟩ w4.drew fun x23 =>
    LdP ⟨b_, 1, none⟩ w4.drew fun x25 =>
    conn_New.Call x23 x25 w4.drew fun r26 w5 =>
    (0 ≤ i ∧ i < ((2 : Nat) : Int)) ∧
    Sts [.pointer r26] (Addr.add ⟨w0, 0, none⟩ (i.toNat * 1)) 0 w5 fun w6 =>
    connm_New.Call  w6.drew fun r32 w7 =>
    (0 ≤ i ∧ i < ((2 : Nat) : Int)) ∧
    Sts [.pointer r32] (Addr.add ⟨w0, 2, none⟩ (i.toNat * 1)) 0 w7 fun w8 =>
    N1 w0 (IntKind.i64.wrap (i + (1 : Int))) w8) (
    R (some ⟨w0, 0, none⟩) w)) = kstep Tryz.prog 37 Tryz.f8.results.toList (Tryz.f8.body.getD .skip) (connlaw_NewWorld.RV R) (kvc Tryz.prog 37 Tryz.f8.results.toList (Tryz.f8.body.getD .skip) (connlaw_NewWorld.RV R) [([(0, [1, 1, 0, 1, 0, 0]), (2, [1, 1, 0, 1, 0, 0]), (1, [0]), (0, [1, 1, 1])], fun σ w => dK (slotOf σ 3) fun w0_ => dI .i64 (slotOf σ 4) fun i_ => N1 w0_ i_ w)] 2000) [(0, [1, 1, 0, 1, 0, 0]), (2, [1, 1, 0, 1, 0, 0]), (1, [0]), (0, [1, 1, 1])] [(3, .pointer (some ⟨w0, 0, none⟩)), (4, .int .i64 i)] w := by kernel_rfl
theorem connlaw_NewWorld.L1b_sound {R : Option Addr → World → Prop} {N1 : Nat → Int → World → Prop} (hN1 : ∀ w0 i w, N1 w0 i w → KW Tryz.prog 8 37 (connlaw_NewWorld.RV R) ([(0, [1, 1, 0, 1, 0, 0]), (2, [1, 1, 0, 1, 0, 0]), (1, [0]), (0, [1, 1, 1])].map (toItem (Tryz.f8.body.getD .skip))) [(3, .pointer (some ⟨w0, 0, none⟩)), (4, .int .i64 i)] w) (w0 : Nat) (i : Int) (w : World) (h : connlaw_NewWorld.L1b w0 i w  N1 R) :
    KW Tryz.prog 8 37 (connlaw_NewWorld.RV R) ([(0, [1, 1, 0, 1, 0, 0]), (2, [1, 1, 0, 1, 0, 0]), (1, [0]), (0, [1, 1, 1])].map (toItem (Tryz.f8.body.getD .skip))) [(3, .pointer (some ⟨w0, 0, none⟩)), (4, .int .i64 i)] w := by
  exact block_spec Tryz.func8 Tryz.mixed (stops_cons (fun σ w h => by
      obtain ⟨w0_, e0, h⟩ := dK_elim h
      obtain ⟨i_, e1, h⟩ := dI_elim h
      exact (hN1 w0_ i_ w h).weaken (Sub.cons (Sub.cons (Sub.nil _) e1) e0)) stops_nil) (Eq.mp (connlaw_NewWorld.L1b_eq w0 i w  N1 R ) h)
def connlaw_NewWorld.L1 (w0 : Nat) (i : Int) (w : World)  (R : Option Addr → World → Prop) : Prop :=
  ∃ (I : Nat → Nat → Int → World → Prop) (m : Nat), I m w0 i w ∧ ∀ m w0 i w, I m w0 i w → connlaw_NewWorld.L1b w0 i w  (fun w0' i' w' => ∃ m', m' < m ∧ I m' w0' i' w') R
theorem connlaw_NewWorld.L1_sound {R : Option Addr → World → Prop}  (w0 : Nat) (i : Int) (w : World) (h : connlaw_NewWorld.L1 w0 i w  R) :
    KW Tryz.prog 8 37 (connlaw_NewWorld.RV R) ([(0, [1, 1, 0, 1, 0, 0]), (2, [1, 1, 0, 1, 0, 0]), (1, [0]), (0, [1, 1, 1])].map (toItem (Tryz.f8.body.getD .skip))) [(3, .pointer (some ⟨w0, 0, none⟩)), (4, .int .i64 i)] w := by
  obtain ⟨I, m, hBase, hr⟩ := h
  refine KW.loop (fun m σ w => ∃ (w0 : Nat) (i : Int), σ = [(3, .pointer (some ⟨w0, 0, none⟩)), (4, .int .i64 i)] ∧ I m w0 i w) ?_ m _ w ⟨w0, i, rfl, hBase⟩
  rintro m ih σ w ⟨w0, i, rfl, hI⟩
  exact connlaw_NewWorld.L1b_sound  (N1 := fun w0' i' w' => ∃ m', m' < m ∧ I m' w0' i' w') (fun w0' i' w' hx => by obtain ⟨m', hlt, hI'⟩ := hx; exact ih m' hlt _ w' ⟨w0', i', rfl, hI'⟩) w0 i w (hr m w0 i w hI)
def connlaw_NewWorld.B0 (quiet : Bool) (w : World)   (R : Option Addr → World → Prop) : Prop :=
  New (.cells #[.pointer none, .pointer none, .pointer none, .pointer none, .pointer none, .pointer none, .pointer none, .pointer none, .slice none 0 0, .int .i64 (0 : Int), .int .i64 (0 : Int), .int .i64 (0 : Int), .int .i64 (0 : Int), .int .i64 (0 : Int), .int .i64 (0 : Int), .slice none 0 0, .bool quiet, .slice none 0 0, .slice none 0 0, .slice none 0 0] 50) w fun b8 w1 =>
  connlaw_NewWorld.L1 b8 (0 : Int) w1  R
theorem connlaw_NewWorld.B0_eq (quiet : Bool) (w : World)   (R : Option Addr → World → Prop) (sL1 : Nat → Int → World → Prop) :
    (
  New (.cells #[.pointer none, .pointer none, .pointer none, .pointer none, .pointer none, .pointer none, .pointer none, .pointer none, .slice none 0 0, .int .i64 (0 : Int), .int .i64 (0 : Int), .int .i64 (0 : Int), .int .i64 (0 : Int), .int .i64 (0 : Int), .int .i64 (0 : Int), .slice none 0 0, .bool quiet, .slice none 0 0, .slice none 0 0, .slice none 0 0] 50) w fun b8 w1 =>
  sL1 b8 (0 : Int) w1) = kstep Tryz.prog 37 Tryz.f8.results.toList (Tryz.f8.body.getD .skip) (connlaw_NewWorld.RV R) (kvc Tryz.prog 37 Tryz.f8.results.toList (Tryz.f8.body.getD .skip) (connlaw_NewWorld.RV R) [([(0, [1, 1, 0, 1, 0, 0]), (2, [1, 1, 0, 1, 0, 0]), (1, [0]), (0, [1, 1, 1])], fun σ w => dK (slotOf σ 3) fun w0_ => dI .i64 (slotOf σ 4) fun i_ => sL1 w0_ i_ w)] 2000) [(0, [])] [(0, .bool quiet)] w := by kernel_rfl
theorem connlaw_NewWorld.B0_sound {R : Option Addr → World → Prop}  (quiet : Bool) (w : World) (h : connlaw_NewWorld.B0 quiet w   R) :
    KW Tryz.prog 8 37 (connlaw_NewWorld.RV R) ([(0, [])].map (toItem (Tryz.f8.body.getD .skip))) [(0, .bool quiet)] w := by
  exact block_spec Tryz.func8 Tryz.mixed (stops_cons (fun σ w h => by
      obtain ⟨w0_, e0, h⟩ := dK_elim h
      obtain ⟨i_, e1, h⟩ := dI_elim h
      exact (connlaw_NewWorld.L1_sound  w0_ i_ w h).weaken (Sub.cons (Sub.cons (Sub.nil _) e1) e0)) stops_nil) (Eq.mp (connlaw_NewWorld.B0_eq quiet w   R (fun w0_ i_ w => connlaw_NewWorld.L1 w0_ i_ w  R)) h)
theorem connlaw_NewWorld.sound (quiet : Bool) (w : World) (R : Option Addr → World → Prop) (h : connlaw_NewWorld.B0 quiet w R) : connlaw_NewWorld.Call quiet w R := by
  have hc := calls_of_block (args := #[.bool quiet]) Tryz.func8 (body := (Tryz.f8.body.getD .skip)) (by kernel_rfl) (by kernel_rfl) (args_slot _) (connlaw_NewWorld.B0_sound quiet w h)
  exact hc.mono fun e w' he => by
    obtain ⟨v, rfl, hv⟩ := he
    exact connlaw_NewWorld.RV_elim hv
def connlaw_World_Alike.L1b (w0 : Option Addr) (c : Int) (w : World)  (N1 : Option Addr → Int → World → Prop) (R : Bool → World → Prop) : Prop :=
  Bm (decide (c < (2 : Int))) (
    connlaw_World_LikeInfo.Call w0 c w fun r10 w1 =>
    Bm (!r10) (
      R false w1) (
      connlaw_World_LikePeek.Call w0 c w1 fun r14 w2 =>
      Bm (!r14) (
        R false w2) (
        Pn w0 fun a =>
        (0 ≤ c ∧ c < ((2 : Nat) : Int)) ∧
        LdP (Addr.add a (c.toNat * 1)) w2 fun x21 =>
        conn_Conn_Check.Call x21 w2 fun r22 w3 =>
        Bm (!r22) (
          R false w3) (
          N1 w0 (IntKind.i64.wrap (c + (1 : Int))) w3)))) (
    R true w)
theorem connlaw_World_Alike.L1b_eq (w0 : Option Addr) (c : Int) (w : World)  (N1 : Option Addr → Int → World → Prop) (R : Bool → World → Prop)  :
    (
  Bm (decide (c < (2 : Int))) (
    connlaw_World_LikeInfo.Call w0 c w fun r10 w1 =>
    Bm (!r10) (
      R false w1) (
      connlaw_World_LikePeek.Call w0 c w1 fun r14 w2 =>
      Bm (!r14) (
        R false w2) (
        Pn w0 fun a =>
        (0 ≤ c ∧ c < ((2 : Nat) : Int)) ∧
        LdP (Addr.add a (c.toNat * 1)) w2 fun x21 =>
        conn_Conn_Check.Call x21 w2 fun r22 w3 =>
        Bm (!r22) (
          R false w3) (
          N1 w0 (IntKind.i64.wrap (c + (1 : Int))) w3)))) (
    R true w)) = kstep Tryz.prog 24 Tryz.f9.results.toList (Tryz.f9.body.getD .skip) (connlaw_World_Alike.RV R) (kvc Tryz.prog 24 Tryz.f9.results.toList (Tryz.f9.body.getD .skip) (connlaw_World_Alike.RV R) [([(0, [1, 0, 1, 0, 0]), (2, [1, 0, 1, 0, 0]), (1, [0]), (0, [1, 1])], fun σ w => dP (slotOf σ 0) fun w0_ => dI .i64 (slotOf σ 3) fun c_ => N1 w0_ c_ w)] 2000) [(0, [1, 0, 1, 0, 0]), (2, [1, 0, 1, 0, 0]), (1, [0]), (0, [1, 1])] [(0, .pointer w0), (3, .int .i64 c)] w := by kernel_rfl
theorem connlaw_World_Alike.L1b_sound {R : Bool → World → Prop} {N1 : Option Addr → Int → World → Prop} (hN1 : ∀ w0 c w, N1 w0 c w → KW Tryz.prog 9 24 (connlaw_World_Alike.RV R) ([(0, [1, 0, 1, 0, 0]), (2, [1, 0, 1, 0, 0]), (1, [0]), (0, [1, 1])].map (toItem (Tryz.f9.body.getD .skip))) [(0, .pointer w0), (3, .int .i64 c)] w) (w0 : Option Addr) (c : Int) (w : World) (h : connlaw_World_Alike.L1b w0 c w  N1 R) :
    KW Tryz.prog 9 24 (connlaw_World_Alike.RV R) ([(0, [1, 0, 1, 0, 0]), (2, [1, 0, 1, 0, 0]), (1, [0]), (0, [1, 1])].map (toItem (Tryz.f9.body.getD .skip))) [(0, .pointer w0), (3, .int .i64 c)] w := by
  exact block_spec Tryz.func9 Tryz.mixed (stops_cons (fun σ w h => by
      obtain ⟨w0_, e0, h⟩ := dP_elim h
      obtain ⟨c_, e1, h⟩ := dI_elim h
      exact (hN1 w0_ c_ w h).weaken (Sub.cons (Sub.cons (Sub.nil _) e1) e0)) stops_nil) (Eq.mp (connlaw_World_Alike.L1b_eq w0 c w  N1 R ) h)
def connlaw_World_Alike.L1 (w0 : Option Addr) (c : Int) (w : World)  (R : Bool → World → Prop) : Prop :=
  ∃ (I : Nat → Option Addr → Int → World → Prop) (m : Nat), I m w0 c w ∧ ∀ m w0 c w, I m w0 c w → connlaw_World_Alike.L1b w0 c w  (fun w0' c' w' => ∃ m', m' < m ∧ I m' w0' c' w') R
theorem connlaw_World_Alike.L1_sound {R : Bool → World → Prop}  (w0 : Option Addr) (c : Int) (w : World) (h : connlaw_World_Alike.L1 w0 c w  R) :
    KW Tryz.prog 9 24 (connlaw_World_Alike.RV R) ([(0, [1, 0, 1, 0, 0]), (2, [1, 0, 1, 0, 0]), (1, [0]), (0, [1, 1])].map (toItem (Tryz.f9.body.getD .skip))) [(0, .pointer w0), (3, .int .i64 c)] w := by
  obtain ⟨I, m, hBase, hr⟩ := h
  refine KW.loop (fun m σ w => ∃ (w0 : Option Addr) (c : Int), σ = [(0, .pointer w0), (3, .int .i64 c)] ∧ I m w0 c w) ?_ m _ w ⟨w0, c, rfl, hBase⟩
  rintro m ih σ w ⟨w0, c, rfl, hI⟩
  exact connlaw_World_Alike.L1b_sound  (N1 := fun w0' c' w' => ∃ m', m' < m ∧ I m' w0' c' w') (fun w0' c' w' hx => by obtain ⟨m', hlt, hI'⟩ := hx; exact ih m' hlt _ w' ⟨w0', c', rfl, hI'⟩) w0 c w (hr m w0 c w hI)
def connlaw_World_Alike.B0 (w0 : Option Addr) (w : World)   (R : Bool → World → Prop) : Prop :=
  connlaw_World_Alike.L1 w0 (0 : Int) w  R
theorem connlaw_World_Alike.B0_eq (w0 : Option Addr) (w : World)   (R : Bool → World → Prop) (sL1 : Option Addr → Int → World → Prop) :
    (
  sL1 w0 (0 : Int) w) = kstep Tryz.prog 24 Tryz.f9.results.toList (Tryz.f9.body.getD .skip) (connlaw_World_Alike.RV R) (kvc Tryz.prog 24 Tryz.f9.results.toList (Tryz.f9.body.getD .skip) (connlaw_World_Alike.RV R) [([(0, [1, 0, 1, 0, 0]), (2, [1, 0, 1, 0, 0]), (1, [0]), (0, [1, 1])], fun σ w => dP (slotOf σ 0) fun w0_ => dI .i64 (slotOf σ 3) fun c_ => sL1 w0_ c_ w)] 2000) [(0, [])] [(0, .pointer w0)] w := by kernel_rfl
theorem connlaw_World_Alike.B0_sound {R : Bool → World → Prop}  (w0 : Option Addr) (w : World) (h : connlaw_World_Alike.B0 w0 w   R) :
    KW Tryz.prog 9 24 (connlaw_World_Alike.RV R) ([(0, [])].map (toItem (Tryz.f9.body.getD .skip))) [(0, .pointer w0)] w := by
  exact block_spec Tryz.func9 Tryz.mixed (stops_cons (fun σ w h => by
      obtain ⟨w0_, e0, h⟩ := dP_elim h
      obtain ⟨c_, e1, h⟩ := dI_elim h
      exact (connlaw_World_Alike.L1_sound  w0_ c_ w h).weaken (Sub.cons (Sub.cons (Sub.nil _) e1) e0)) stops_nil) (Eq.mp (connlaw_World_Alike.B0_eq w0 w   R (fun w0_ c_ w => connlaw_World_Alike.L1 w0_ c_ w  R)) h)
theorem connlaw_World_Alike.sound (w0 : Option Addr) (w : World) (R : Bool → World → Prop) (h : connlaw_World_Alike.B0 w0 w R) : connlaw_World_Alike.Call w0 w R := by
  have hc := calls_of_block (args := #[.pointer w0]) Tryz.func9 (body := (Tryz.f9.body.getD .skip)) (by kernel_rfl) (by kernel_rfl) (args_slot _) (connlaw_World_Alike.B0_sound w0 w h)
  exact hc.mono fun e w' he => by
    obtain ⟨v, rfl, hv⟩ := he
    exact connlaw_World_Alike.RV_elim hv
def connlaw_World_Step.L1b (w0 : Option Addr) (c : Int) (w : World)  (N1 : Option Addr → Int → World → Prop) (R : Bool → World → Prop) : Prop :=
  Bm (decide (c < (2 : Int))) (
    connlaw_World_Seam.Call w0 c w fun r16 w1 =>
    Bm (!r16) (
      R false w1) (
      N1 w0 (IntKind.i64.wrap (c + (1 : Int))) w1)) (
    Pn w0 fun a =>
    LdB (a.add 16) w fun x21 =>
    Bm x21 (
      R true w) (
      connlaw_World_Alike.Call w0 w fun r23 w2 =>
      R r23 w2))
theorem connlaw_World_Step.L1b_eq (w0 : Option Addr) (c : Int) (w : World)  (N1 : Option Addr → Int → World → Prop) (R : Bool → World → Prop)  :
    (
  Bm (decide (c < (2 : Int))) (
    connlaw_World_Seam.Call w0 c w fun r16 w1 =>
    Bm (!r16) (
      R false w1) (
      N1 w0 (IntKind.i64.wrap (c + (1 : Int))) w1)) (
    Pn w0 fun a =>
    LdB (a.add 16) w fun x21 =>
    Bm x21 (
      R true w) (
      connlaw_World_Alike.Call w0 w fun r23 w2 =>
      R r23 w2))) = kstep Tryz.prog 24 Tryz.f10.results.toList (Tryz.f10.body.getD .skip) (connlaw_World_Step.RV R) (kvc Tryz.prog 24 Tryz.f10.results.toList (Tryz.f10.body.getD .skip) (connlaw_World_Step.RV R) [([(0, [1, 1, 0, 1, 0, 0]), (2, [1, 1, 0, 1, 0, 0]), (1, [0]), (0, [1, 1, 1])], fun σ w => dP (slotOf σ 0) fun w0_ => dI .i64 (slotOf σ 5) fun c_ => N1 w0_ c_ w)] 2000) [(0, [1, 1, 0, 1, 0, 0]), (2, [1, 1, 0, 1, 0, 0]), (1, [0]), (0, [1, 1, 1])] [(0, .pointer w0), (5, .int .i64 c)] w := by kernel_rfl
theorem connlaw_World_Step.L1b_sound {R : Bool → World → Prop} {N1 : Option Addr → Int → World → Prop} (hN1 : ∀ w0 c w, N1 w0 c w → KW Tryz.prog 10 24 (connlaw_World_Step.RV R) ([(0, [1, 1, 0, 1, 0, 0]), (2, [1, 1, 0, 1, 0, 0]), (1, [0]), (0, [1, 1, 1])].map (toItem (Tryz.f10.body.getD .skip))) [(0, .pointer w0), (5, .int .i64 c)] w) (w0 : Option Addr) (c : Int) (w : World) (h : connlaw_World_Step.L1b w0 c w  N1 R) :
    KW Tryz.prog 10 24 (connlaw_World_Step.RV R) ([(0, [1, 1, 0, 1, 0, 0]), (2, [1, 1, 0, 1, 0, 0]), (1, [0]), (0, [1, 1, 1])].map (toItem (Tryz.f10.body.getD .skip))) [(0, .pointer w0), (5, .int .i64 c)] w := by
  exact block_spec Tryz.func10 Tryz.mixed (stops_cons (fun σ w h => by
      obtain ⟨w0_, e0, h⟩ := dP_elim h
      obtain ⟨c_, e1, h⟩ := dI_elim h
      exact (hN1 w0_ c_ w h).weaken (Sub.cons (Sub.cons (Sub.nil _) e1) e0)) stops_nil) (Eq.mp (connlaw_World_Step.L1b_eq w0 c w  N1 R ) h)
def connlaw_World_Step.L1 (w0 : Option Addr) (c : Int) (w : World)  (R : Bool → World → Prop) : Prop :=
  ∃ (I : Nat → Option Addr → Int → World → Prop) (m : Nat), I m w0 c w ∧ ∀ m w0 c w, I m w0 c w → connlaw_World_Step.L1b w0 c w  (fun w0' c' w' => ∃ m', m' < m ∧ I m' w0' c' w') R
theorem connlaw_World_Step.L1_sound {R : Bool → World → Prop}  (w0 : Option Addr) (c : Int) (w : World) (h : connlaw_World_Step.L1 w0 c w  R) :
    KW Tryz.prog 10 24 (connlaw_World_Step.RV R) ([(0, [1, 1, 0, 1, 0, 0]), (2, [1, 1, 0, 1, 0, 0]), (1, [0]), (0, [1, 1, 1])].map (toItem (Tryz.f10.body.getD .skip))) [(0, .pointer w0), (5, .int .i64 c)] w := by
  obtain ⟨I, m, hBase, hr⟩ := h
  refine KW.loop (fun m σ w => ∃ (w0 : Option Addr) (c : Int), σ = [(0, .pointer w0), (5, .int .i64 c)] ∧ I m w0 c w) ?_ m _ w ⟨w0, c, rfl, hBase⟩
  rintro m ih σ w ⟨w0, c, rfl, hI⟩
  exact connlaw_World_Step.L1b_sound  (N1 := fun w0' c' w' => ∃ m', m' < m ∧ I m' w0' c' w') (fun w0' c' w' hx => by obtain ⟨m', hlt, hI'⟩ := hx; exact ih m' hlt _ w' ⟨w0', c', rfl, hI'⟩) w0 c w (hr m w0 c w hI)
def connlaw_World_Step.B0 (w0 : Option Addr) (o_0 o_1 o_2 o_3 : Int) (o_4 o_5 : ByteArray) (w : World)   (R : Bool → World → Prop) : Prop :=
  New (.cells #[.int .i64 o_0, .int .i64 o_1, .int .i64 o_2, .int .i64 o_3, .string o_4, .string o_5] 32) w fun o_ w1 =>
  LdI .i64 ⟨o_, 0, none⟩ w1 fun x7_0 =>
  LdI .i64 ⟨o_, 1, none⟩ w1 fun x7_1 =>
  LdI .i64 ⟨o_, 2, none⟩ w1 fun x7_2 =>
  LdI .i64 ⟨o_, 3, none⟩ w1 fun x7_3 =>
  LdS ⟨o_, 4, none⟩ w1 fun x7_4 =>
  LdS ⟨o_, 5, none⟩ w1 fun x7_5 =>
  connlaw_World_Play.Call w0 x7_0 x7_1 x7_2 x7_3 x7_4 x7_5 w1 fun r8 w2 =>
  Bm (!r8) (
    R false w2) (
    connlaw_World_Step.L1 w0 (0 : Int) w2  R)
theorem connlaw_World_Step.B0_eq (w0 : Option Addr) (o_0 o_1 o_2 o_3 : Int) (o_4 o_5 : ByteArray) (w : World)   (R : Bool → World → Prop) (sL1 : Option Addr → Int → World → Prop) :
    (
  New (.cells #[.int .i64 o_0, .int .i64 o_1, .int .i64 o_2, .int .i64 o_3, .string o_4, .string o_5] 32) w fun o_ w1 =>
  LdI .i64 ⟨o_, 0, none⟩ w1 fun x7_0 =>
  LdI .i64 ⟨o_, 1, none⟩ w1 fun x7_1 =>
  LdI .i64 ⟨o_, 2, none⟩ w1 fun x7_2 =>
  LdI .i64 ⟨o_, 3, none⟩ w1 fun x7_3 =>
  LdS ⟨o_, 4, none⟩ w1 fun x7_4 =>
  LdS ⟨o_, 5, none⟩ w1 fun x7_5 =>
  connlaw_World_Play.Call w0 x7_0 x7_1 x7_2 x7_3 x7_4 x7_5 w1 fun r8 w2 =>
  Bm (!r8) (
    R false w2) (
    sL1 w0 (0 : Int) w2)) = kstep Tryz.prog 24 Tryz.f10.results.toList (Tryz.f10.body.getD .skip) (connlaw_World_Step.RV R) (kvc Tryz.prog 24 Tryz.f10.results.toList (Tryz.f10.body.getD .skip) (connlaw_World_Step.RV R) [([(0, [1, 1, 0, 1, 0, 0]), (2, [1, 1, 0, 1, 0, 0]), (1, [0]), (0, [1, 1, 1])], fun σ w => dP (slotOf σ 0) fun w0_ => dI .i64 (slotOf σ 5) fun c_ => sL1 w0_ c_ w)] 2000) [(0, [])] [(0, .pointer w0), (1, .agg #[.int .i64 o_0, .int .i64 o_1, .int .i64 o_2, .int .i64 o_3, .string o_4, .string o_5])] w := by kernel_rfl
theorem connlaw_World_Step.B0_sound {R : Bool → World → Prop}  (w0 : Option Addr) (o_0 o_1 o_2 o_3 : Int) (o_4 o_5 : ByteArray) (w : World) (h : connlaw_World_Step.B0 w0 o_0 o_1 o_2 o_3 o_4 o_5 w   R) :
    KW Tryz.prog 10 24 (connlaw_World_Step.RV R) ([(0, [])].map (toItem (Tryz.f10.body.getD .skip))) [(0, .pointer w0), (1, .agg #[.int .i64 o_0, .int .i64 o_1, .int .i64 o_2, .int .i64 o_3, .string o_4, .string o_5])] w := by
  exact block_spec Tryz.func10 Tryz.mixed (stops_cons (fun σ w h => by
      obtain ⟨w0_, e0, h⟩ := dP_elim h
      obtain ⟨c_, e1, h⟩ := dI_elim h
      exact (connlaw_World_Step.L1_sound  w0_ c_ w h).weaken (Sub.cons (Sub.cons (Sub.nil _) e1) e0)) stops_nil) (Eq.mp (connlaw_World_Step.B0_eq w0 o_0 o_1 o_2 o_3 o_4 o_5 w   R (fun w0_ c_ w => connlaw_World_Step.L1 w0_ c_ w  R)) h)
theorem connlaw_World_Step.sound (w0 : Option Addr) (o_0 o_1 o_2 o_3 : Int) (o_4 o_5 : ByteArray) (w : World) (R : Bool → World → Prop) (h : connlaw_World_Step.B0 w0 o_0 o_1 o_2 o_3 o_4 o_5 w R) : connlaw_World_Step.Call w0 o_0 o_1 o_2 o_3 o_4 o_5 w R := by
  have hc := calls_of_block (args := #[.pointer w0, .agg #[.int .i64 o_0, .int .i64 o_1, .int .i64 o_2, .int .i64 o_3, .string o_4, .string o_5]]) Tryz.func10 (body := (Tryz.f10.body.getD .skip)) (by kernel_rfl) (by kernel_rfl) (args_slot _) (connlaw_World_Step.B0_sound w0 o_0 o_1 o_2 o_3 o_4 o_5 w h)
  exact hc.mono fun e w' he => by
    obtain ⟨v, rfl, hv⟩ := he
    exact connlaw_World_Step.RV_elim hv
def connlaw_World_Untouched.B1 (w0 : Option Addr) (j i : Int) (t58 : Bool) (w : World) (N1 : Option Addr → Int → World → Prop) (N2 : Option Addr → Int → Int → World → Prop)  (R : Bool → World → Prop) : Prop :=
  Bm t58 (
    R false w) (
    N2 w0 j (IntKind.i64.wrap (i + (1 : Int))) w)
theorem connlaw_World_Untouched.B1_eq (w0 : Option Addr) (j i : Int) (t58 : Bool) (w : World) (N1 : Option Addr → Int → World → Prop) (N2 : Option Addr → Int → Int → World → Prop)  (R : Bool → World → Prop)  :
    (
  Bm t58 (
    R false w) (
    N2 w0 j (IntKind.i64.wrap (i + (1 : Int))) w)) = kstep Tryz.prog 128 Tryz.f11.results.toList (Tryz.f11.body.getD .skip) (connlaw_World_Untouched.RV R) (kvc Tryz.prog 128 Tryz.f11.results.toList (Tryz.f11.body.getD .skip) (connlaw_World_Untouched.RV R) [([(0, [1, 0, 1, 0, 0, 1, 0, 0, 1, 0, 0]), (2, [1, 0, 1, 0, 0, 1, 0, 0, 1, 0, 0]), (1, [2]), (1, [1]), (0, [1, 0, 1, 0, 0, 1, 1]), (2, [1, 0, 1, 0, 0]), (1, [0]), (0, [1, 1])], fun σ w => dP (slotOf σ 0) fun w0_ => dI .i64 (slotOf σ 3) fun j_ => dI .i64 (slotOf σ 4) fun i_ => N2 w0_ j_ i_ w)] 2000) [(0, [1, 0, 1, 0, 0, 1, 0, 0, 1, 0, 0, 1, 0, 0, 1]), (1, [3]), (0, [1, 0, 1, 0, 0, 1, 0, 0, 1, 0, 0, 1, 1]), (2, [1, 0, 1, 0, 0, 1, 0, 0, 1, 0, 0]), (1, [2]), (1, [1]), (0, [1, 0, 1, 0, 0, 1, 1]), (2, [1, 0, 1, 0, 0]), (1, [0]), (0, [1, 1])] [(0, .pointer w0), (3, .int .i64 j), (4, .int .i64 i), (58, .bool t58)] w := by kernel_rfl
theorem connlaw_World_Untouched.B1_sound {R : Bool → World → Prop} {N1 : Option Addr → Int → World → Prop} (hN1 : ∀ w0 j w, N1 w0 j w → KW Tryz.prog 11 128 (connlaw_World_Untouched.RV R) ([(0, [1, 0, 1, 0, 0]), (2, [1, 0, 1, 0, 0]), (1, [0]), (0, [1, 1])].map (toItem (Tryz.f11.body.getD .skip))) [(0, .pointer w0), (3, .int .i64 j)] w) {N2 : Option Addr → Int → Int → World → Prop} (hN2 : ∀ w0 j i w, N2 w0 j i w → KW Tryz.prog 11 128 (connlaw_World_Untouched.RV R) ([(0, [1, 0, 1, 0, 0, 1, 0, 0, 1, 0, 0]), (2, [1, 0, 1, 0, 0, 1, 0, 0, 1, 0, 0]), (1, [2]), (1, [1]), (0, [1, 0, 1, 0, 0, 1, 1]), (2, [1, 0, 1, 0, 0]), (1, [0]), (0, [1, 1])].map (toItem (Tryz.f11.body.getD .skip))) [(0, .pointer w0), (3, .int .i64 j), (4, .int .i64 i)] w) (w0 : Option Addr) (j i : Int) (t58 : Bool) (w : World) (h : connlaw_World_Untouched.B1 w0 j i t58 w N1 N2  R) :
    KW Tryz.prog 11 128 (connlaw_World_Untouched.RV R) ([(0, [1, 0, 1, 0, 0, 1, 0, 0, 1, 0, 0, 1, 0, 0, 1]), (1, [3]), (0, [1, 0, 1, 0, 0, 1, 0, 0, 1, 0, 0, 1, 1]), (2, [1, 0, 1, 0, 0, 1, 0, 0, 1, 0, 0]), (1, [2]), (1, [1]), (0, [1, 0, 1, 0, 0, 1, 1]), (2, [1, 0, 1, 0, 0]), (1, [0]), (0, [1, 1])].map (toItem (Tryz.f11.body.getD .skip))) [(0, .pointer w0), (3, .int .i64 j), (4, .int .i64 i), (58, .bool t58)] w := by
  exact block_spec Tryz.func11 Tryz.mixed (stops_cons (fun σ w h => by
      obtain ⟨w0_, e0, h⟩ := dP_elim h
      obtain ⟨j_, e1, h⟩ := dI_elim h
      obtain ⟨i_, e2, h⟩ := dI_elim h
      exact (hN2 w0_ j_ i_ w h).weaken (Sub.cons (Sub.cons (Sub.cons (Sub.nil _) e2) e1) e0)) stops_nil) (Eq.mp (connlaw_World_Untouched.B1_eq w0 j i t58 w N1 N2  R ) h)
def connlaw_World_Untouched.L2b (w0 : Option Addr) (j i : Int) (w : World) (N1 : Option Addr → Int → World → Prop) (N2 : Option Addr → Int → Int → World → Prop) (R : Bool → World → Prop) : Prop :=
  Pn w0 fun a =>
  LdL (a.add 19) w fun x22_b x22_l x22_c =>
  Pn x22_b fun a_1 =>
  (0 ≤ j ∧ j < ((x22_l : Nat) : Int)) ∧
  LdL (Addr.add a_1 (j.toNat * 1)) w fun x25_b x25_l x25_c =>
  Bm (decide (i < ((x25_l : Nat) : Int))) (
    Pn w0 fun a_2 =>
    LdL (a_2.add 19) w fun x33_b x33_l x33_c =>
    Pn x33_b fun a_3 =>
    (0 ≤ j ∧ j < ((x33_l : Nat) : Int)) ∧
    LdL (Addr.add a_3 (j.toNat * 1)) w fun x36_b x36_l x36_c =>
    Pn x36_b fun a_4 =>
    (0 ≤ i ∧ i < ((x36_l : Nat) : Int)) ∧
    LdI .i64 ((Addr.add a_4 (i.toNat * 7)).add 2) w fun x40 =>
    Bm (x40 != (IntKind.i64.wrap ((-1 : Int) - j))) (
      connlaw_World_Untouched.B1 w0 j i true w N1 N2 R) (
      Pn w0 fun a_5 =>
      LdL (a_5.add 19) w fun x48_b x48_l x48_c =>
      Pn x48_b fun a_6 =>
      (0 ≤ j ∧ j < ((x48_l : Nat) : Int)) ∧
      LdL (Addr.add a_6 (j.toNat * 1)) w fun x51_b x51_l x51_c =>
      Pn x51_b fun a_7 =>
      (0 ≤ i ∧ i < ((x51_l : Nat) : Int)) ∧
      LdL ((Addr.add a_7 (i.toNat * 7)).add 6) w fun x55_b x55_l x55_c =>
      connlaw_World_Untouched.B1 w0 j i (((x55_l : Nat) : Int) != (0 : Int)) w N1 N2 R)) (
    N1 w0 (IntKind.i64.wrap (j + (1 : Int))) w)
theorem connlaw_World_Untouched.L2b_eq (w0 : Option Addr) (j i : Int) (w : World) (N1 : Option Addr → Int → World → Prop) (N2 : Option Addr → Int → Int → World → Prop) (R : Bool → World → Prop) (sB1 : Option Addr → Int → Int → Bool → World → Prop) :
    (
  Pn w0 fun a =>
  LdL (a.add 19) w fun x22_b x22_l x22_c =>
  Pn x22_b fun a_1 =>
  (0 ≤ j ∧ j < ((x22_l : Nat) : Int)) ∧
  LdL (Addr.add a_1 (j.toNat * 1)) w fun x25_b x25_l x25_c =>
  Bm (decide (i < ((x25_l : Nat) : Int))) (
    Pn w0 fun a_2 =>
    LdL (a_2.add 19) w fun x33_b x33_l x33_c =>
    Pn x33_b fun a_3 =>
    (0 ≤ j ∧ j < ((x33_l : Nat) : Int)) ∧
    LdL (Addr.add a_3 (j.toNat * 1)) w fun x36_b x36_l x36_c =>
    Pn x36_b fun a_4 =>
    (0 ≤ i ∧ i < ((x36_l : Nat) : Int)) ∧
    LdI .i64 ((Addr.add a_4 (i.toNat * 7)).add 2) w fun x40 =>
    Bm (x40 != (IntKind.i64.wrap ((-1 : Int) - j))) (
      sB1 w0 j i true w) (
      Pn w0 fun a_5 =>
      LdL (a_5.add 19) w fun x48_b x48_l x48_c =>
      Pn x48_b fun a_6 =>
      (0 ≤ j ∧ j < ((x48_l : Nat) : Int)) ∧
      LdL (Addr.add a_6 (j.toNat * 1)) w fun x51_b x51_l x51_c =>
      Pn x51_b fun a_7 =>
      (0 ≤ i ∧ i < ((x51_l : Nat) : Int)) ∧
      LdL ((Addr.add a_7 (i.toNat * 7)).add 6) w fun x55_b x55_l x55_c =>
      sB1 w0 j i (((x55_l : Nat) : Int) != (0 : Int)) w)) (
    N1 w0 (IntKind.i64.wrap (j + (1 : Int))) w)) = kstep Tryz.prog 128 Tryz.f11.results.toList (Tryz.f11.body.getD .skip) (connlaw_World_Untouched.RV R) (kvc Tryz.prog 128 Tryz.f11.results.toList (Tryz.f11.body.getD .skip) (connlaw_World_Untouched.RV R) [([(0, [1, 0, 1, 0, 0, 1, 0, 0, 1, 0, 0, 1, 0, 0, 1]), (1, [3]), (0, [1, 0, 1, 0, 0, 1, 0, 0, 1, 0, 0, 1, 1]), (2, [1, 0, 1, 0, 0, 1, 0, 0, 1, 0, 0]), (1, [2]), (1, [1]), (0, [1, 0, 1, 0, 0, 1, 1]), (2, [1, 0, 1, 0, 0]), (1, [0]), (0, [1, 1])], fun σ w => dP (slotOf σ 0) fun w0_ => dI .i64 (slotOf σ 3) fun j_ => dI .i64 (slotOf σ 4) fun i_ => dB (slotOf σ 58) fun t58_ => sB1 w0_ j_ i_ t58_ w),
    ([(0, [1, 0, 1, 0, 0]), (2, [1, 0, 1, 0, 0]), (1, [0]), (0, [1, 1])], fun σ w => dP (slotOf σ 0) fun w0_ => dI .i64 (slotOf σ 3) fun j_ => N1 w0_ j_ w)] 2000) [(0, [1, 0, 1, 0, 0, 1, 0, 0, 1, 0, 0]), (2, [1, 0, 1, 0, 0, 1, 0, 0, 1, 0, 0]), (1, [2]), (1, [1]), (0, [1, 0, 1, 0, 0, 1, 1]), (2, [1, 0, 1, 0, 0]), (1, [0]), (0, [1, 1])] [(0, .pointer w0), (3, .int .i64 j), (4, .int .i64 i)] w := by kernel_rfl
theorem connlaw_World_Untouched.L2b_sound {R : Bool → World → Prop} {N1 : Option Addr → Int → World → Prop} (hN1 : ∀ w0 j w, N1 w0 j w → KW Tryz.prog 11 128 (connlaw_World_Untouched.RV R) ([(0, [1, 0, 1, 0, 0]), (2, [1, 0, 1, 0, 0]), (1, [0]), (0, [1, 1])].map (toItem (Tryz.f11.body.getD .skip))) [(0, .pointer w0), (3, .int .i64 j)] w) {N2 : Option Addr → Int → Int → World → Prop} (hN2 : ∀ w0 j i w, N2 w0 j i w → KW Tryz.prog 11 128 (connlaw_World_Untouched.RV R) ([(0, [1, 0, 1, 0, 0, 1, 0, 0, 1, 0, 0]), (2, [1, 0, 1, 0, 0, 1, 0, 0, 1, 0, 0]), (1, [2]), (1, [1]), (0, [1, 0, 1, 0, 0, 1, 1]), (2, [1, 0, 1, 0, 0]), (1, [0]), (0, [1, 1])].map (toItem (Tryz.f11.body.getD .skip))) [(0, .pointer w0), (3, .int .i64 j), (4, .int .i64 i)] w) (w0 : Option Addr) (j i : Int) (w : World) (h : connlaw_World_Untouched.L2b w0 j i w N1 N2 R) :
    KW Tryz.prog 11 128 (connlaw_World_Untouched.RV R) ([(0, [1, 0, 1, 0, 0, 1, 0, 0, 1, 0, 0]), (2, [1, 0, 1, 0, 0, 1, 0, 0, 1, 0, 0]), (1, [2]), (1, [1]), (0, [1, 0, 1, 0, 0, 1, 1]), (2, [1, 0, 1, 0, 0]), (1, [0]), (0, [1, 1])].map (toItem (Tryz.f11.body.getD .skip))) [(0, .pointer w0), (3, .int .i64 j), (4, .int .i64 i)] w := by
  exact block_spec Tryz.func11 Tryz.mixed (stops_cons (fun σ w h => by
      obtain ⟨w0_, e0, h⟩ := dP_elim h
      obtain ⟨j_, e1, h⟩ := dI_elim h
      obtain ⟨i_, e2, h⟩ := dI_elim h
      obtain ⟨t58_, e3, h⟩ := dB_elim h
      exact (connlaw_World_Untouched.B1_sound hN1 hN2 w0_ j_ i_ t58_ w h).weaken (Sub.cons (Sub.cons (Sub.cons (Sub.cons (Sub.nil _) e3) e2) e1) e0)) (stops_cons (fun σ w h => by
      obtain ⟨w0_, e0, h⟩ := dP_elim h
      obtain ⟨j_, e1, h⟩ := dI_elim h
      exact (hN1 w0_ j_ w h).weaken (Sub.cons (Sub.cons (Sub.nil _) e1) e0)) stops_nil)) (Eq.mp (connlaw_World_Untouched.L2b_eq w0 j i w N1 N2 R (fun w0_ j_ i_ t58_ w => connlaw_World_Untouched.B1 w0_ j_ i_ t58_ w N1 N2 R)) h)
def connlaw_World_Untouched.L2 (w0 : Option Addr) (j i : Int) (w : World) (N1 : Option Addr → Int → World → Prop) (R : Bool → World → Prop) : Prop :=
  ∃ (I : Nat → Option Addr → Int → Int → World → Prop) (m : Nat), I m w0 j i w ∧ ∀ m w0 j i w, I m w0 j i w → connlaw_World_Untouched.L2b w0 j i w N1 (fun w0' j' i' w' => ∃ m', m' < m ∧ I m' w0' j' i' w') R
theorem connlaw_World_Untouched.L2_sound {R : Bool → World → Prop} {N1 : Option Addr → Int → World → Prop} (hN1 : ∀ w0 j w, N1 w0 j w → KW Tryz.prog 11 128 (connlaw_World_Untouched.RV R) ([(0, [1, 0, 1, 0, 0]), (2, [1, 0, 1, 0, 0]), (1, [0]), (0, [1, 1])].map (toItem (Tryz.f11.body.getD .skip))) [(0, .pointer w0), (3, .int .i64 j)] w) (w0 : Option Addr) (j i : Int) (w : World) (h : connlaw_World_Untouched.L2 w0 j i w N1 R) :
    KW Tryz.prog 11 128 (connlaw_World_Untouched.RV R) ([(0, [1, 0, 1, 0, 0, 1, 0, 0, 1, 0, 0]), (2, [1, 0, 1, 0, 0, 1, 0, 0, 1, 0, 0]), (1, [2]), (1, [1]), (0, [1, 0, 1, 0, 0, 1, 1]), (2, [1, 0, 1, 0, 0]), (1, [0]), (0, [1, 1])].map (toItem (Tryz.f11.body.getD .skip))) [(0, .pointer w0), (3, .int .i64 j), (4, .int .i64 i)] w := by
  obtain ⟨I, m, hBase, hr⟩ := h
  refine KW.loop (fun m σ w => ∃ (w0 : Option Addr) (j i : Int), σ = [(0, .pointer w0), (3, .int .i64 j), (4, .int .i64 i)] ∧ I m w0 j i w) ?_ m _ w ⟨w0, j, i, rfl, hBase⟩
  rintro m ih σ w ⟨w0, j, i, rfl, hI⟩
  exact connlaw_World_Untouched.L2b_sound hN1 (N2 := fun w0' j' i' w' => ∃ m', m' < m ∧ I m' w0' j' i' w') (fun w0' j' i' w' hx => by obtain ⟨m', hlt, hI'⟩ := hx; exact ih m' hlt _ w' ⟨w0', j', i', rfl, hI'⟩) w0 j i w (hr m w0 j i w hI)
def connlaw_World_Untouched.L4b (w0 : Option Addr) (j i : Int) (w : World) (N3 : Option Addr → Int → World → Prop) (N4 : Option Addr → Int → Int → World → Prop) (R : Bool → World → Prop) : Prop :=
  Pn w0 fun a =>
  LdL (a.add 18) w fun x72_b x72_l x72_c =>
  Pn x72_b fun a_1 =>
  (0 ≤ j ∧ j < ((x72_l : Nat) : Int)) ∧
  LdL (Addr.add a_1 (j.toNat * 1)) w fun x75_b x75_l x75_c =>
  Bm (decide (i < ((x75_l : Nat) : Int))) (
    Pn w0 fun a_2 =>
    LdL (a_2.add 18) w fun x83_b x83_l x83_c =>
    Pn x83_b fun a_3 =>
    (0 ≤ j ∧ j < ((x83_l : Nat) : Int)) ∧
    LdL (Addr.add a_3 (j.toNat * 1)) w fun x86_b x86_l x86_c =>
    Pn x86_b fun a_4 =>
    (0 ≤ i ∧ i < ((x86_l : Nat) : Int)) ∧
    LdI .i64 (Addr.add a_4 (i.toNat * 1)) w fun x89 =>
    Bm (x89 != (IntKind.i64.wrap ((-1 : Int) - j))) (
      R false w) (
      N4 w0 j (IntKind.i64.wrap (i + (1 : Int))) w)) (
    N3 w0 (IntKind.i64.wrap (j + (1 : Int))) w)
theorem connlaw_World_Untouched.L4b_eq (w0 : Option Addr) (j i : Int) (w : World) (N3 : Option Addr → Int → World → Prop) (N4 : Option Addr → Int → Int → World → Prop) (R : Bool → World → Prop)  :
    (
  Pn w0 fun a =>
  LdL (a.add 18) w fun x72_b x72_l x72_c =>
  Pn x72_b fun a_1 =>
  (0 ≤ j ∧ j < ((x72_l : Nat) : Int)) ∧
  LdL (Addr.add a_1 (j.toNat * 1)) w fun x75_b x75_l x75_c =>
  Bm (decide (i < ((x75_l : Nat) : Int))) (
    Pn w0 fun a_2 =>
    LdL (a_2.add 18) w fun x83_b x83_l x83_c =>
    Pn x83_b fun a_3 =>
    (0 ≤ j ∧ j < ((x83_l : Nat) : Int)) ∧
    LdL (Addr.add a_3 (j.toNat * 1)) w fun x86_b x86_l x86_c =>
    Pn x86_b fun a_4 =>
    (0 ≤ i ∧ i < ((x86_l : Nat) : Int)) ∧
    LdI .i64 (Addr.add a_4 (i.toNat * 1)) w fun x89 =>
    Bm (x89 != (IntKind.i64.wrap ((-1 : Int) - j))) (
      R false w) (
      N4 w0 j (IntKind.i64.wrap (i + (1 : Int))) w)) (
    N3 w0 (IntKind.i64.wrap (j + (1 : Int))) w)) = kstep Tryz.prog 128 Tryz.f11.results.toList (Tryz.f11.body.getD .skip) (connlaw_World_Untouched.RV R) (kvc Tryz.prog 128 Tryz.f11.results.toList (Tryz.f11.body.getD .skip) (connlaw_World_Untouched.RV R) [([(0, [1, 1, 0, 1, 0, 0, 1, 0, 0, 1, 0, 0]), (2, [1, 1, 0, 1, 0, 0, 1, 0, 0, 1, 0, 0]), (1, [6]), (1, [5]), (0, [1, 1, 0, 1, 0, 0, 1, 1]), (2, [1, 1, 0, 1, 0, 0]), (1, [4]), (0, [1, 1, 1])], fun σ w => dP (slotOf σ 0) fun w0_ => dI .i64 (slotOf σ 5) fun j_ => dI .i64 (slotOf σ 6) fun i_ => N4 w0_ j_ i_ w),
    ([(0, [1, 1, 0, 1, 0, 0]), (2, [1, 1, 0, 1, 0, 0]), (1, [4]), (0, [1, 1, 1])], fun σ w => dP (slotOf σ 0) fun w0_ => dI .i64 (slotOf σ 5) fun j_ => N3 w0_ j_ w)] 2000) [(0, [1, 1, 0, 1, 0, 0, 1, 0, 0, 1, 0, 0]), (2, [1, 1, 0, 1, 0, 0, 1, 0, 0, 1, 0, 0]), (1, [6]), (1, [5]), (0, [1, 1, 0, 1, 0, 0, 1, 1]), (2, [1, 1, 0, 1, 0, 0]), (1, [4]), (0, [1, 1, 1])] [(0, .pointer w0), (5, .int .i64 j), (6, .int .i64 i)] w := by kernel_rfl
theorem connlaw_World_Untouched.L4b_sound {R : Bool → World → Prop} {N3 : Option Addr → Int → World → Prop} (hN3 : ∀ w0 j w, N3 w0 j w → KW Tryz.prog 11 128 (connlaw_World_Untouched.RV R) ([(0, [1, 1, 0, 1, 0, 0]), (2, [1, 1, 0, 1, 0, 0]), (1, [4]), (0, [1, 1, 1])].map (toItem (Tryz.f11.body.getD .skip))) [(0, .pointer w0), (5, .int .i64 j)] w) {N4 : Option Addr → Int → Int → World → Prop} (hN4 : ∀ w0 j i w, N4 w0 j i w → KW Tryz.prog 11 128 (connlaw_World_Untouched.RV R) ([(0, [1, 1, 0, 1, 0, 0, 1, 0, 0, 1, 0, 0]), (2, [1, 1, 0, 1, 0, 0, 1, 0, 0, 1, 0, 0]), (1, [6]), (1, [5]), (0, [1, 1, 0, 1, 0, 0, 1, 1]), (2, [1, 1, 0, 1, 0, 0]), (1, [4]), (0, [1, 1, 1])].map (toItem (Tryz.f11.body.getD .skip))) [(0, .pointer w0), (5, .int .i64 j), (6, .int .i64 i)] w) (w0 : Option Addr) (j i : Int) (w : World) (h : connlaw_World_Untouched.L4b w0 j i w N3 N4 R) :
    KW Tryz.prog 11 128 (connlaw_World_Untouched.RV R) ([(0, [1, 1, 0, 1, 0, 0, 1, 0, 0, 1, 0, 0]), (2, [1, 1, 0, 1, 0, 0, 1, 0, 0, 1, 0, 0]), (1, [6]), (1, [5]), (0, [1, 1, 0, 1, 0, 0, 1, 1]), (2, [1, 1, 0, 1, 0, 0]), (1, [4]), (0, [1, 1, 1])].map (toItem (Tryz.f11.body.getD .skip))) [(0, .pointer w0), (5, .int .i64 j), (6, .int .i64 i)] w := by
  exact block_spec Tryz.func11 Tryz.mixed (stops_cons (fun σ w h => by
      obtain ⟨w0_, e0, h⟩ := dP_elim h
      obtain ⟨j_, e1, h⟩ := dI_elim h
      obtain ⟨i_, e2, h⟩ := dI_elim h
      exact (hN4 w0_ j_ i_ w h).weaken (Sub.cons (Sub.cons (Sub.cons (Sub.nil _) e2) e1) e0)) (stops_cons (fun σ w h => by
      obtain ⟨w0_, e0, h⟩ := dP_elim h
      obtain ⟨j_, e1, h⟩ := dI_elim h
      exact (hN3 w0_ j_ w h).weaken (Sub.cons (Sub.cons (Sub.nil _) e1) e0)) stops_nil)) (Eq.mp (connlaw_World_Untouched.L4b_eq w0 j i w N3 N4 R ) h)
def connlaw_World_Untouched.L4 (w0 : Option Addr) (j i : Int) (w : World) (N3 : Option Addr → Int → World → Prop) (R : Bool → World → Prop) : Prop :=
  ∃ (I : Nat → Option Addr → Int → Int → World → Prop) (m : Nat), I m w0 j i w ∧ ∀ m w0 j i w, I m w0 j i w → connlaw_World_Untouched.L4b w0 j i w N3 (fun w0' j' i' w' => ∃ m', m' < m ∧ I m' w0' j' i' w') R
theorem connlaw_World_Untouched.L4_sound {R : Bool → World → Prop} {N3 : Option Addr → Int → World → Prop} (hN3 : ∀ w0 j w, N3 w0 j w → KW Tryz.prog 11 128 (connlaw_World_Untouched.RV R) ([(0, [1, 1, 0, 1, 0, 0]), (2, [1, 1, 0, 1, 0, 0]), (1, [4]), (0, [1, 1, 1])].map (toItem (Tryz.f11.body.getD .skip))) [(0, .pointer w0), (5, .int .i64 j)] w) (w0 : Option Addr) (j i : Int) (w : World) (h : connlaw_World_Untouched.L4 w0 j i w N3 R) :
    KW Tryz.prog 11 128 (connlaw_World_Untouched.RV R) ([(0, [1, 1, 0, 1, 0, 0, 1, 0, 0, 1, 0, 0]), (2, [1, 1, 0, 1, 0, 0, 1, 0, 0, 1, 0, 0]), (1, [6]), (1, [5]), (0, [1, 1, 0, 1, 0, 0, 1, 1]), (2, [1, 1, 0, 1, 0, 0]), (1, [4]), (0, [1, 1, 1])].map (toItem (Tryz.f11.body.getD .skip))) [(0, .pointer w0), (5, .int .i64 j), (6, .int .i64 i)] w := by
  obtain ⟨I, m, hBase, hr⟩ := h
  refine KW.loop (fun m σ w => ∃ (w0 : Option Addr) (j i : Int), σ = [(0, .pointer w0), (5, .int .i64 j), (6, .int .i64 i)] ∧ I m w0 j i w) ?_ m _ w ⟨w0, j, i, rfl, hBase⟩
  rintro m ih σ w ⟨w0, j, i, rfl, hI⟩
  exact connlaw_World_Untouched.L4b_sound hN3 (N4 := fun w0' j' i' w' => ∃ m', m' < m ∧ I m' w0' j' i' w') (fun w0' j' i' w' hx => by obtain ⟨m', hlt, hI'⟩ := hx; exact ih m' hlt _ w' ⟨w0', j', i', rfl, hI'⟩) w0 j i w (hr m w0 j i w hI)
def connlaw_World_Untouched.L6b (w0 : Option Addr) (j i : Int) (w : World) (N5 : Option Addr → Int → World → Prop) (N6 : Option Addr → Int → Int → World → Prop) (R : Bool → World → Prop) : Prop :=
  Pn w0 fun a =>
  LdL (a.add 17) w fun x106_b x106_l x106_c =>
  Pn x106_b fun a_1 =>
  (0 ≤ j ∧ j < ((x106_l : Nat) : Int)) ∧
  LdL (Addr.add a_1 (j.toNat * 1)) w fun x109_b x109_l x109_c =>
  Bm (decide (i < ((x109_l : Nat) : Int))) (
    Pn w0 fun a_2 =>
    LdL (a_2.add 17) w.drew fun x117_b x117_l x117_c =>
    Pn x117_b fun a_3 =>
    (0 ≤ j ∧ j < ((x117_l : Nat) : Int)) ∧
    LdL (Addr.add a_3 (j.toNat * 1)) w.drew fun x120_b x120_l x120_c =>
    Pn x120_b fun a_4 =>
    (0 ≤ i ∧ i < ((x120_l : Nat) : Int)) ∧
    LdI .u8 (Addr.add a_4 (i.toNat * 1)) w.drew fun x123 =>
    connlaw_Stamp.Call j i w.drew fun r126 w1 =>
    w1.cell? (Addr.add a_4 (i.toNat * 1)) = some (.int .u8 x123) ∧
    w1.cell? (Addr.add a_3 (j.toNat * 1)) = some (.slice x120_b x120_l x120_c) ∧
    w1.cell? (a_2.add 17) = some (.slice x117_b x117_l x117_c) ∧
    Bm (x123 != r126) (
      R false w1) (
      N6 w0 j (IntKind.i64.wrap (i + (1 : Int))) w1)) (
    N5 w0 (IntKind.i64.wrap (j + (1 : Int))) w)
theorem connlaw_World_Untouched.L6b_eq (w0 : Option Addr) (j i : Int) (w : World) (N5 : Option Addr → Int → World → Prop) (N6 : Option Addr → Int → Int → World → Prop) (R : Bool → World → Prop)  :
    (
  Pn w0 fun a =>
  LdL (a.add 17) w fun x106_b x106_l x106_c =>
  Pn x106_b fun a_1 =>
  (0 ≤ j ∧ j < ((x106_l : Nat) : Int)) ∧
  LdL (Addr.add a_1 (j.toNat * 1)) w fun x109_b x109_l x109_c =>
  Bm (decide (i < ((x109_l : Nat) : Int))) (
    Pn w0 fun a_2 =>
    LdL (a_2.add 17) w.drew fun x117_b x117_l x117_c =>
    Pn x117_b fun a_3 =>
    (0 ≤ j ∧ j < ((x117_l : Nat) : Int)) ∧
    LdL (Addr.add a_3 (j.toNat * 1)) w.drew fun x120_b x120_l x120_c =>
    Pn x120_b fun a_4 =>
    (0 ≤ i ∧ i < ((x120_l : Nat) : Int)) ∧
    LdI .u8 (Addr.add a_4 (i.toNat * 1)) w.drew fun x123 =>
    connlaw_Stamp.Call j i w.drew fun r126 w1 =>
    w1.cell? (Addr.add a_4 (i.toNat * 1)) = some (.int .u8 x123) ∧
    w1.cell? (Addr.add a_3 (j.toNat * 1)) = some (.slice x120_b x120_l x120_c) ∧
    w1.cell? (a_2.add 17) = some (.slice x117_b x117_l x117_c) ∧
    Bm (x123 != r126) (
      R false w1) (
      N6 w0 j (IntKind.i64.wrap (i + (1 : Int))) w1)) (
    N5 w0 (IntKind.i64.wrap (j + (1 : Int))) w)) = kstep Tryz.prog 128 Tryz.f11.results.toList (Tryz.f11.body.getD .skip) (connlaw_World_Untouched.RV R) (kvc Tryz.prog 128 Tryz.f11.results.toList (Tryz.f11.body.getD .skip) (connlaw_World_Untouched.RV R) [([(0, [1, 1, 1, 0, 1, 0, 0, 1, 0, 0, 1, 0, 0]), (2, [1, 1, 1, 0, 1, 0, 0, 1, 0, 0, 1, 0, 0]), (1, [10]), (1, [9]), (0, [1, 1, 1, 0, 1, 0, 0, 1, 1]), (2, [1, 1, 1, 0, 1, 0, 0]), (1, [8]), (0, [1, 1, 1, 1])], fun σ w => dP (slotOf σ 0) fun w0_ => dI .i64 (slotOf σ 7) fun j_ => dI .i64 (slotOf σ 8) fun i_ => N6 w0_ j_ i_ w),
    ([(0, [1, 1, 1, 0, 1, 0, 0]), (2, [1, 1, 1, 0, 1, 0, 0]), (1, [8]), (0, [1, 1, 1, 1])], fun σ w => dP (slotOf σ 0) fun w0_ => dI .i64 (slotOf σ 7) fun j_ => N5 w0_ j_ w)] 2000) [(0, [1, 1, 1, 0, 1, 0, 0, 1, 0, 0, 1, 0, 0]), (2, [1, 1, 1, 0, 1, 0, 0, 1, 0, 0, 1, 0, 0]), (1, [10]), (1, [9]), (0, [1, 1, 1, 0, 1, 0, 0, 1, 1]), (2, [1, 1, 1, 0, 1, 0, 0]), (1, [8]), (0, [1, 1, 1, 1])] [(0, .pointer w0), (7, .int .i64 j), (8, .int .i64 i)] w := by kernel_rfl
theorem connlaw_World_Untouched.L6b_sound {R : Bool → World → Prop} {N5 : Option Addr → Int → World → Prop} (hN5 : ∀ w0 j w, N5 w0 j w → KW Tryz.prog 11 128 (connlaw_World_Untouched.RV R) ([(0, [1, 1, 1, 0, 1, 0, 0]), (2, [1, 1, 1, 0, 1, 0, 0]), (1, [8]), (0, [1, 1, 1, 1])].map (toItem (Tryz.f11.body.getD .skip))) [(0, .pointer w0), (7, .int .i64 j)] w) {N6 : Option Addr → Int → Int → World → Prop} (hN6 : ∀ w0 j i w, N6 w0 j i w → KW Tryz.prog 11 128 (connlaw_World_Untouched.RV R) ([(0, [1, 1, 1, 0, 1, 0, 0, 1, 0, 0, 1, 0, 0]), (2, [1, 1, 1, 0, 1, 0, 0, 1, 0, 0, 1, 0, 0]), (1, [10]), (1, [9]), (0, [1, 1, 1, 0, 1, 0, 0, 1, 1]), (2, [1, 1, 1, 0, 1, 0, 0]), (1, [8]), (0, [1, 1, 1, 1])].map (toItem (Tryz.f11.body.getD .skip))) [(0, .pointer w0), (7, .int .i64 j), (8, .int .i64 i)] w) (w0 : Option Addr) (j i : Int) (w : World) (h : connlaw_World_Untouched.L6b w0 j i w N5 N6 R) :
    KW Tryz.prog 11 128 (connlaw_World_Untouched.RV R) ([(0, [1, 1, 1, 0, 1, 0, 0, 1, 0, 0, 1, 0, 0]), (2, [1, 1, 1, 0, 1, 0, 0, 1, 0, 0, 1, 0, 0]), (1, [10]), (1, [9]), (0, [1, 1, 1, 0, 1, 0, 0, 1, 1]), (2, [1, 1, 1, 0, 1, 0, 0]), (1, [8]), (0, [1, 1, 1, 1])].map (toItem (Tryz.f11.body.getD .skip))) [(0, .pointer w0), (7, .int .i64 j), (8, .int .i64 i)] w := by
  exact block_spec Tryz.func11 Tryz.mixed (stops_cons (fun σ w h => by
      obtain ⟨w0_, e0, h⟩ := dP_elim h
      obtain ⟨j_, e1, h⟩ := dI_elim h
      obtain ⟨i_, e2, h⟩ := dI_elim h
      exact (hN6 w0_ j_ i_ w h).weaken (Sub.cons (Sub.cons (Sub.cons (Sub.nil _) e2) e1) e0)) (stops_cons (fun σ w h => by
      obtain ⟨w0_, e0, h⟩ := dP_elim h
      obtain ⟨j_, e1, h⟩ := dI_elim h
      exact (hN5 w0_ j_ w h).weaken (Sub.cons (Sub.cons (Sub.nil _) e1) e0)) stops_nil)) (Eq.mp (connlaw_World_Untouched.L6b_eq w0 j i w N5 N6 R ) h)
def connlaw_World_Untouched.L6 (w0 : Option Addr) (j i : Int) (w : World) (N5 : Option Addr → Int → World → Prop) (R : Bool → World → Prop) : Prop :=
  ∃ (I : Nat → Option Addr → Int → Int → World → Prop) (m : Nat), I m w0 j i w ∧ ∀ m w0 j i w, I m w0 j i w → connlaw_World_Untouched.L6b w0 j i w N5 (fun w0' j' i' w' => ∃ m', m' < m ∧ I m' w0' j' i' w') R
theorem connlaw_World_Untouched.L6_sound {R : Bool → World → Prop} {N5 : Option Addr → Int → World → Prop} (hN5 : ∀ w0 j w, N5 w0 j w → KW Tryz.prog 11 128 (connlaw_World_Untouched.RV R) ([(0, [1, 1, 1, 0, 1, 0, 0]), (2, [1, 1, 1, 0, 1, 0, 0]), (1, [8]), (0, [1, 1, 1, 1])].map (toItem (Tryz.f11.body.getD .skip))) [(0, .pointer w0), (7, .int .i64 j)] w) (w0 : Option Addr) (j i : Int) (w : World) (h : connlaw_World_Untouched.L6 w0 j i w N5 R) :
    KW Tryz.prog 11 128 (connlaw_World_Untouched.RV R) ([(0, [1, 1, 1, 0, 1, 0, 0, 1, 0, 0, 1, 0, 0]), (2, [1, 1, 1, 0, 1, 0, 0, 1, 0, 0, 1, 0, 0]), (1, [10]), (1, [9]), (0, [1, 1, 1, 0, 1, 0, 0, 1, 1]), (2, [1, 1, 1, 0, 1, 0, 0]), (1, [8]), (0, [1, 1, 1, 1])].map (toItem (Tryz.f11.body.getD .skip))) [(0, .pointer w0), (7, .int .i64 j), (8, .int .i64 i)] w := by
  obtain ⟨I, m, hBase, hr⟩ := h
  refine KW.loop (fun m σ w => ∃ (w0 : Option Addr) (j i : Int), σ = [(0, .pointer w0), (7, .int .i64 j), (8, .int .i64 i)] ∧ I m w0 j i w) ?_ m _ w ⟨w0, j, i, rfl, hBase⟩
  rintro m ih σ w ⟨w0, j, i, rfl, hI⟩
  exact connlaw_World_Untouched.L6b_sound hN5 (N6 := fun w0' j' i' w' => ∃ m', m' < m ∧ I m' w0' j' i' w') (fun w0' j' i' w' hx => by obtain ⟨m', hlt, hI'⟩ := hx; exact ih m' hlt _ w' ⟨w0', j', i', rfl, hI'⟩) w0 j i w (hr m w0 j i w hI)
def connlaw_World_Untouched.L5b (w0 : Option Addr) (j : Int) (w : World)  (N5 : Option Addr → Int → World → Prop) (R : Bool → World → Prop) : Prop :=
  Pn w0 fun a =>
  LdL (a.add 17) w fun x97_b x97_l x97_c =>
  Bm (decide (j < ((x97_l : Nat) : Int))) (
    connlaw_World_Untouched.L6 w0 j (0 : Int) w N5 R) (
    R true w)
theorem connlaw_World_Untouched.L5b_eq (w0 : Option Addr) (j : Int) (w : World)  (N5 : Option Addr → Int → World → Prop) (R : Bool → World → Prop) (sL6 : Option Addr → Int → Int → World → Prop) :
    (
  Pn w0 fun a =>
  LdL (a.add 17) w fun x97_b x97_l x97_c =>
  Bm (decide (j < ((x97_l : Nat) : Int))) (
    sL6 w0 j (0 : Int) w) (
    R true w)) = kstep Tryz.prog 128 Tryz.f11.results.toList (Tryz.f11.body.getD .skip) (connlaw_World_Untouched.RV R) (kvc Tryz.prog 128 Tryz.f11.results.toList (Tryz.f11.body.getD .skip) (connlaw_World_Untouched.RV R) [([(0, [1, 1, 1, 0, 1, 0, 0, 1, 0, 0, 1, 0, 0]), (2, [1, 1, 1, 0, 1, 0, 0, 1, 0, 0, 1, 0, 0]), (1, [10]), (1, [9]), (0, [1, 1, 1, 0, 1, 0, 0, 1, 1]), (2, [1, 1, 1, 0, 1, 0, 0]), (1, [8]), (0, [1, 1, 1, 1])], fun σ w => dP (slotOf σ 0) fun w0_ => dI .i64 (slotOf σ 7) fun j_ => dI .i64 (slotOf σ 8) fun i_ => sL6 w0_ j_ i_ w)] 2000) [(0, [1, 1, 1, 0, 1, 0, 0]), (2, [1, 1, 1, 0, 1, 0, 0]), (1, [8]), (0, [1, 1, 1, 1])] [(0, .pointer w0), (7, .int .i64 j)] w := by kernel_rfl
theorem connlaw_World_Untouched.L5b_sound {R : Bool → World → Prop} {N5 : Option Addr → Int → World → Prop} (hN5 : ∀ w0 j w, N5 w0 j w → KW Tryz.prog 11 128 (connlaw_World_Untouched.RV R) ([(0, [1, 1, 1, 0, 1, 0, 0]), (2, [1, 1, 1, 0, 1, 0, 0]), (1, [8]), (0, [1, 1, 1, 1])].map (toItem (Tryz.f11.body.getD .skip))) [(0, .pointer w0), (7, .int .i64 j)] w) (w0 : Option Addr) (j : Int) (w : World) (h : connlaw_World_Untouched.L5b w0 j w  N5 R) :
    KW Tryz.prog 11 128 (connlaw_World_Untouched.RV R) ([(0, [1, 1, 1, 0, 1, 0, 0]), (2, [1, 1, 1, 0, 1, 0, 0]), (1, [8]), (0, [1, 1, 1, 1])].map (toItem (Tryz.f11.body.getD .skip))) [(0, .pointer w0), (7, .int .i64 j)] w := by
  exact block_spec Tryz.func11 Tryz.mixed (stops_cons (fun σ w h => by
      obtain ⟨w0_, e0, h⟩ := dP_elim h
      obtain ⟨j_, e1, h⟩ := dI_elim h
      obtain ⟨i_, e2, h⟩ := dI_elim h
      exact (connlaw_World_Untouched.L6_sound hN5 w0_ j_ i_ w h).weaken (Sub.cons (Sub.cons (Sub.cons (Sub.nil _) e2) e1) e0)) stops_nil) (Eq.mp (connlaw_World_Untouched.L5b_eq w0 j w  N5 R (fun w0_ j_ i_ w => connlaw_World_Untouched.L6 w0_ j_ i_ w N5 R)) h)
def connlaw_World_Untouched.L5 (w0 : Option Addr) (j : Int) (w : World)  (R : Bool → World → Prop) : Prop :=
  ∃ (I : Nat → Option Addr → Int → World → Prop) (m : Nat), I m w0 j w ∧ ∀ m w0 j w, I m w0 j w → connlaw_World_Untouched.L5b w0 j w  (fun w0' j' w' => ∃ m', m' < m ∧ I m' w0' j' w') R
theorem connlaw_World_Untouched.L5_sound {R : Bool → World → Prop}  (w0 : Option Addr) (j : Int) (w : World) (h : connlaw_World_Untouched.L5 w0 j w  R) :
    KW Tryz.prog 11 128 (connlaw_World_Untouched.RV R) ([(0, [1, 1, 1, 0, 1, 0, 0]), (2, [1, 1, 1, 0, 1, 0, 0]), (1, [8]), (0, [1, 1, 1, 1])].map (toItem (Tryz.f11.body.getD .skip))) [(0, .pointer w0), (7, .int .i64 j)] w := by
  obtain ⟨I, m, hBase, hr⟩ := h
  refine KW.loop (fun m σ w => ∃ (w0 : Option Addr) (j : Int), σ = [(0, .pointer w0), (7, .int .i64 j)] ∧ I m w0 j w) ?_ m _ w ⟨w0, j, rfl, hBase⟩
  rintro m ih σ w ⟨w0, j, rfl, hI⟩
  exact connlaw_World_Untouched.L5b_sound  (N5 := fun w0' j' w' => ∃ m', m' < m ∧ I m' w0' j' w') (fun w0' j' w' hx => by obtain ⟨m', hlt, hI'⟩ := hx; exact ih m' hlt _ w' ⟨w0', j', rfl, hI'⟩) w0 j w (hr m w0 j w hI)
def connlaw_World_Untouched.L3b (w0 : Option Addr) (j : Int) (w : World)  (N3 : Option Addr → Int → World → Prop) (R : Bool → World → Prop) : Prop :=
  Pn w0 fun a =>
  LdL (a.add 18) w fun x63_b x63_l x63_c =>
  Bm (decide (j < ((x63_l : Nat) : Int))) (
    connlaw_World_Untouched.L4 w0 j (0 : Int) w N3 R) (
    connlaw_World_Untouched.L5 w0 (0 : Int) w  R)
theorem connlaw_World_Untouched.L3b_eq (w0 : Option Addr) (j : Int) (w : World)  (N3 : Option Addr → Int → World → Prop) (R : Bool → World → Prop) (sL4 : Option Addr → Int → Int → World → Prop) (sL5 : Option Addr → Int → World → Prop) :
    (
  Pn w0 fun a =>
  LdL (a.add 18) w fun x63_b x63_l x63_c =>
  Bm (decide (j < ((x63_l : Nat) : Int))) (
    sL4 w0 j (0 : Int) w) (
    sL5 w0 (0 : Int) w)) = kstep Tryz.prog 128 Tryz.f11.results.toList (Tryz.f11.body.getD .skip) (connlaw_World_Untouched.RV R) (kvc Tryz.prog 128 Tryz.f11.results.toList (Tryz.f11.body.getD .skip) (connlaw_World_Untouched.RV R) [([(0, [1, 1, 0, 1, 0, 0, 1, 0, 0, 1, 0, 0]), (2, [1, 1, 0, 1, 0, 0, 1, 0, 0, 1, 0, 0]), (1, [6]), (1, [5]), (0, [1, 1, 0, 1, 0, 0, 1, 1]), (2, [1, 1, 0, 1, 0, 0]), (1, [4]), (0, [1, 1, 1])], fun σ w => dP (slotOf σ 0) fun w0_ => dI .i64 (slotOf σ 5) fun j_ => dI .i64 (slotOf σ 6) fun i_ => sL4 w0_ j_ i_ w),
    ([(0, [1, 1, 1, 0, 1, 0, 0]), (2, [1, 1, 1, 0, 1, 0, 0]), (1, [8]), (0, [1, 1, 1, 1])], fun σ w => dP (slotOf σ 0) fun w0_ => dI .i64 (slotOf σ 7) fun j_ => sL5 w0_ j_ w)] 2000) [(0, [1, 1, 0, 1, 0, 0]), (2, [1, 1, 0, 1, 0, 0]), (1, [4]), (0, [1, 1, 1])] [(0, .pointer w0), (5, .int .i64 j)] w := by kernel_rfl
theorem connlaw_World_Untouched.L3b_sound {R : Bool → World → Prop} {N3 : Option Addr → Int → World → Prop} (hN3 : ∀ w0 j w, N3 w0 j w → KW Tryz.prog 11 128 (connlaw_World_Untouched.RV R) ([(0, [1, 1, 0, 1, 0, 0]), (2, [1, 1, 0, 1, 0, 0]), (1, [4]), (0, [1, 1, 1])].map (toItem (Tryz.f11.body.getD .skip))) [(0, .pointer w0), (5, .int .i64 j)] w) (w0 : Option Addr) (j : Int) (w : World) (h : connlaw_World_Untouched.L3b w0 j w  N3 R) :
    KW Tryz.prog 11 128 (connlaw_World_Untouched.RV R) ([(0, [1, 1, 0, 1, 0, 0]), (2, [1, 1, 0, 1, 0, 0]), (1, [4]), (0, [1, 1, 1])].map (toItem (Tryz.f11.body.getD .skip))) [(0, .pointer w0), (5, .int .i64 j)] w := by
  exact block_spec Tryz.func11 Tryz.mixed (stops_cons (fun σ w h => by
      obtain ⟨w0_, e0, h⟩ := dP_elim h
      obtain ⟨j_, e1, h⟩ := dI_elim h
      obtain ⟨i_, e2, h⟩ := dI_elim h
      exact (connlaw_World_Untouched.L4_sound hN3 w0_ j_ i_ w h).weaken (Sub.cons (Sub.cons (Sub.cons (Sub.nil _) e2) e1) e0)) (stops_cons (fun σ w h => by
      obtain ⟨w0_, e0, h⟩ := dP_elim h
      obtain ⟨j_, e1, h⟩ := dI_elim h
      exact (connlaw_World_Untouched.L5_sound  w0_ j_ w h).weaken (Sub.cons (Sub.cons (Sub.nil _) e1) e0)) stops_nil)) (Eq.mp (connlaw_World_Untouched.L3b_eq w0 j w  N3 R (fun w0_ j_ i_ w => connlaw_World_Untouched.L4 w0_ j_ i_ w N3 R) (fun w0_ j_ w => connlaw_World_Untouched.L5 w0_ j_ w  R)) h)
def connlaw_World_Untouched.L3 (w0 : Option Addr) (j : Int) (w : World)  (R : Bool → World → Prop) : Prop :=
  ∃ (I : Nat → Option Addr → Int → World → Prop) (m : Nat), I m w0 j w ∧ ∀ m w0 j w, I m w0 j w → connlaw_World_Untouched.L3b w0 j w  (fun w0' j' w' => ∃ m', m' < m ∧ I m' w0' j' w') R
theorem connlaw_World_Untouched.L3_sound {R : Bool → World → Prop}  (w0 : Option Addr) (j : Int) (w : World) (h : connlaw_World_Untouched.L3 w0 j w  R) :
    KW Tryz.prog 11 128 (connlaw_World_Untouched.RV R) ([(0, [1, 1, 0, 1, 0, 0]), (2, [1, 1, 0, 1, 0, 0]), (1, [4]), (0, [1, 1, 1])].map (toItem (Tryz.f11.body.getD .skip))) [(0, .pointer w0), (5, .int .i64 j)] w := by
  obtain ⟨I, m, hBase, hr⟩ := h
  refine KW.loop (fun m σ w => ∃ (w0 : Option Addr) (j : Int), σ = [(0, .pointer w0), (5, .int .i64 j)] ∧ I m w0 j w) ?_ m _ w ⟨w0, j, rfl, hBase⟩
  rintro m ih σ w ⟨w0, j, rfl, hI⟩
  exact connlaw_World_Untouched.L3b_sound  (N3 := fun w0' j' w' => ∃ m', m' < m ∧ I m' w0' j' w') (fun w0' j' w' hx => by obtain ⟨m', hlt, hI'⟩ := hx; exact ih m' hlt _ w' ⟨w0', j', rfl, hI'⟩) w0 j w (hr m w0 j w hI)
def connlaw_World_Untouched.L1b (w0 : Option Addr) (j : Int) (w : World)  (N1 : Option Addr → Int → World → Prop) (R : Bool → World → Prop) : Prop :=
  Pn w0 fun a =>
  LdL (a.add 19) w fun x13_b x13_l x13_c =>
  Bm (decide (j < ((x13_l : Nat) : Int))) (
    connlaw_World_Untouched.L2 w0 j (0 : Int) w N1 R) (
    connlaw_World_Untouched.L3 w0 (0 : Int) w  R)
theorem connlaw_World_Untouched.L1b_eq (w0 : Option Addr) (j : Int) (w : World)  (N1 : Option Addr → Int → World → Prop) (R : Bool → World → Prop) (sL2 : Option Addr → Int → Int → World → Prop) (sL3 : Option Addr → Int → World → Prop) :
    (
  Pn w0 fun a =>
  LdL (a.add 19) w fun x13_b x13_l x13_c =>
  Bm (decide (j < ((x13_l : Nat) : Int))) (
    sL2 w0 j (0 : Int) w) (
    sL3 w0 (0 : Int) w)) = kstep Tryz.prog 128 Tryz.f11.results.toList (Tryz.f11.body.getD .skip) (connlaw_World_Untouched.RV R) (kvc Tryz.prog 128 Tryz.f11.results.toList (Tryz.f11.body.getD .skip) (connlaw_World_Untouched.RV R) [([(0, [1, 0, 1, 0, 0, 1, 0, 0, 1, 0, 0]), (2, [1, 0, 1, 0, 0, 1, 0, 0, 1, 0, 0]), (1, [2]), (1, [1]), (0, [1, 0, 1, 0, 0, 1, 1]), (2, [1, 0, 1, 0, 0]), (1, [0]), (0, [1, 1])], fun σ w => dP (slotOf σ 0) fun w0_ => dI .i64 (slotOf σ 3) fun j_ => dI .i64 (slotOf σ 4) fun i_ => sL2 w0_ j_ i_ w),
    ([(0, [1, 1, 0, 1, 0, 0]), (2, [1, 1, 0, 1, 0, 0]), (1, [4]), (0, [1, 1, 1])], fun σ w => dP (slotOf σ 0) fun w0_ => dI .i64 (slotOf σ 5) fun j_ => sL3 w0_ j_ w)] 2000) [(0, [1, 0, 1, 0, 0]), (2, [1, 0, 1, 0, 0]), (1, [0]), (0, [1, 1])] [(0, .pointer w0), (3, .int .i64 j)] w := by kernel_rfl
theorem connlaw_World_Untouched.L1b_sound {R : Bool → World → Prop} {N1 : Option Addr → Int → World → Prop} (hN1 : ∀ w0 j w, N1 w0 j w → KW Tryz.prog 11 128 (connlaw_World_Untouched.RV R) ([(0, [1, 0, 1, 0, 0]), (2, [1, 0, 1, 0, 0]), (1, [0]), (0, [1, 1])].map (toItem (Tryz.f11.body.getD .skip))) [(0, .pointer w0), (3, .int .i64 j)] w) (w0 : Option Addr) (j : Int) (w : World) (h : connlaw_World_Untouched.L1b w0 j w  N1 R) :
    KW Tryz.prog 11 128 (connlaw_World_Untouched.RV R) ([(0, [1, 0, 1, 0, 0]), (2, [1, 0, 1, 0, 0]), (1, [0]), (0, [1, 1])].map (toItem (Tryz.f11.body.getD .skip))) [(0, .pointer w0), (3, .int .i64 j)] w := by
  exact block_spec Tryz.func11 Tryz.mixed (stops_cons (fun σ w h => by
      obtain ⟨w0_, e0, h⟩ := dP_elim h
      obtain ⟨j_, e1, h⟩ := dI_elim h
      obtain ⟨i_, e2, h⟩ := dI_elim h
      exact (connlaw_World_Untouched.L2_sound hN1 w0_ j_ i_ w h).weaken (Sub.cons (Sub.cons (Sub.cons (Sub.nil _) e2) e1) e0)) (stops_cons (fun σ w h => by
      obtain ⟨w0_, e0, h⟩ := dP_elim h
      obtain ⟨j_, e1, h⟩ := dI_elim h
      exact (connlaw_World_Untouched.L3_sound  w0_ j_ w h).weaken (Sub.cons (Sub.cons (Sub.nil _) e1) e0)) stops_nil)) (Eq.mp (connlaw_World_Untouched.L1b_eq w0 j w  N1 R (fun w0_ j_ i_ w => connlaw_World_Untouched.L2 w0_ j_ i_ w N1 R) (fun w0_ j_ w => connlaw_World_Untouched.L3 w0_ j_ w  R)) h)
def connlaw_World_Untouched.L1 (w0 : Option Addr) (j : Int) (w : World)  (R : Bool → World → Prop) : Prop :=
  ∃ (I : Nat → Option Addr → Int → World → Prop) (m : Nat), I m w0 j w ∧ ∀ m w0 j w, I m w0 j w → connlaw_World_Untouched.L1b w0 j w  (fun w0' j' w' => ∃ m', m' < m ∧ I m' w0' j' w') R
theorem connlaw_World_Untouched.L1_sound {R : Bool → World → Prop}  (w0 : Option Addr) (j : Int) (w : World) (h : connlaw_World_Untouched.L1 w0 j w  R) :
    KW Tryz.prog 11 128 (connlaw_World_Untouched.RV R) ([(0, [1, 0, 1, 0, 0]), (2, [1, 0, 1, 0, 0]), (1, [0]), (0, [1, 1])].map (toItem (Tryz.f11.body.getD .skip))) [(0, .pointer w0), (3, .int .i64 j)] w := by
  obtain ⟨I, m, hBase, hr⟩ := h
  refine KW.loop (fun m σ w => ∃ (w0 : Option Addr) (j : Int), σ = [(0, .pointer w0), (3, .int .i64 j)] ∧ I m w0 j w) ?_ m _ w ⟨w0, j, rfl, hBase⟩
  rintro m ih σ w ⟨w0, j, rfl, hI⟩
  exact connlaw_World_Untouched.L1b_sound  (N1 := fun w0' j' w' => ∃ m', m' < m ∧ I m' w0' j' w') (fun w0' j' w' hx => by obtain ⟨m', hlt, hI'⟩ := hx; exact ih m' hlt _ w' ⟨w0', j', rfl, hI'⟩) w0 j w (hr m w0 j w hI)
def connlaw_World_Untouched.B0 (w0 : Option Addr) (w : World)   (R : Bool → World → Prop) : Prop :=
  connlaw_World_Untouched.L1 w0 (0 : Int) w  R
theorem connlaw_World_Untouched.B0_eq (w0 : Option Addr) (w : World)   (R : Bool → World → Prop) (sL1 : Option Addr → Int → World → Prop) :
    (
  sL1 w0 (0 : Int) w) = kstep Tryz.prog 128 Tryz.f11.results.toList (Tryz.f11.body.getD .skip) (connlaw_World_Untouched.RV R) (kvc Tryz.prog 128 Tryz.f11.results.toList (Tryz.f11.body.getD .skip) (connlaw_World_Untouched.RV R) [([(0, [1, 0, 1, 0, 0]), (2, [1, 0, 1, 0, 0]), (1, [0]), (0, [1, 1])], fun σ w => dP (slotOf σ 0) fun w0_ => dI .i64 (slotOf σ 3) fun j_ => sL1 w0_ j_ w)] 2000) [(0, [])] [(0, .pointer w0)] w := by kernel_rfl
theorem connlaw_World_Untouched.B0_sound {R : Bool → World → Prop}  (w0 : Option Addr) (w : World) (h : connlaw_World_Untouched.B0 w0 w   R) :
    KW Tryz.prog 11 128 (connlaw_World_Untouched.RV R) ([(0, [])].map (toItem (Tryz.f11.body.getD .skip))) [(0, .pointer w0)] w := by
  exact block_spec Tryz.func11 Tryz.mixed (stops_cons (fun σ w h => by
      obtain ⟨w0_, e0, h⟩ := dP_elim h
      obtain ⟨j_, e1, h⟩ := dI_elim h
      exact (connlaw_World_Untouched.L1_sound  w0_ j_ w h).weaken (Sub.cons (Sub.cons (Sub.nil _) e1) e0)) stops_nil) (Eq.mp (connlaw_World_Untouched.B0_eq w0 w   R (fun w0_ j_ w => connlaw_World_Untouched.L1 w0_ j_ w  R)) h)
theorem connlaw_World_Untouched.sound (w0 : Option Addr) (w : World) (R : Bool → World → Prop) (h : connlaw_World_Untouched.B0 w0 w R) : connlaw_World_Untouched.Call w0 w R := by
  have hc := calls_of_block (args := #[.pointer w0]) Tryz.func11 (body := (Tryz.f11.body.getD .skip)) (by kernel_rfl) (by kernel_rfl) (args_slot _) (connlaw_World_Untouched.B0_sound w0 w h)
  exact hc.mono fun e w' he => by
    obtain ⟨v, rfl, hv⟩ := he
    exact connlaw_World_Untouched.RV_elim hv
end Go.Proofs.Qxb6500422aGreat
