import Derived.Test.Qxb6500423aSig
set_option maxRecDepth 100000
set_option linter.unusedVariables false
open Go.Vc
namespace Go.Proofs.Qxb6500423a
def framelaw_Refines.B0 (script_b : Option Addr) (script_l script_c : Nat) (w : World)   (R : Bool → World → Prop) : Prop :=
  framelaw_RefinesUpTo.Call script_b script_l script_c w fun r4 w1 =>
  R (r4 == (-1 : Int)) w1
theorem framelaw_Refines.B0_eq (script_b : Option Addr) (script_l script_c : Nat) (w : World)   (R : Bool → World → Prop)  :
    (
  framelaw_RefinesUpTo.Call script_b script_l script_c w fun r4 w1 =>
  R (r4 == (-1 : Int)) w1) = kstep Try.prog 6 Try.f3.results.toList (Try.f3.body.getD .skip) (framelaw_Refines.RV R) (kvc Try.prog 6 Try.f3.results.toList (Try.f3.body.getD .skip) (framelaw_Refines.RV R) [] 2000) [(0, [])] [(0, .slice script_b script_l script_c)] w := by kernel_rfl
theorem framelaw_Refines.B0_sound {R : Bool → World → Prop}  (script_b : Option Addr) (script_l script_c : Nat) (w : World) (h : framelaw_Refines.B0 script_b script_l script_c w   R) :
    KW Try.prog 3 6 (framelaw_Refines.RV R) ([(0, [])].map (toItem (Try.f3.body.getD .skip))) [(0, .slice script_b script_l script_c)] w := by
  exact block_spec Try.func3 Try.mixed stops_nil (Eq.mp (framelaw_Refines.B0_eq script_b script_l script_c w   R ) h)
theorem framelaw_Refines.sound (script_b : Option Addr) (script_l script_c : Nat) (w : World) (R : Bool → World → Prop) (h : framelaw_Refines.B0 script_b script_l script_c w R) : framelaw_Refines.Call script_b script_l script_c w R := by
  have hc := calls_of_block (args := #[.slice script_b script_l script_c]) Try.func3 (body := (Try.f3.body.getD .skip)) (by kernel_rfl) (by kernel_rfl) (args_slot _) (framelaw_Refines.B0_sound script_b script_l script_c w h)
  exact hc.mono fun e w' he => by
    obtain ⟨v, rfl, hv⟩ := he
    exact framelaw_Refines.RV_elim hv
def framelaw_RefinesQuiet.B0 (script_b : Option Addr) (script_l script_c : Nat) (w : World)   (R : Bool → World → Prop) : Prop :=
  framelaw_walk.Call script_b script_l script_c true w fun r7_0 r7_1 w1 =>
  R (r7_0 == (-1 : Int)) w1
theorem framelaw_RefinesQuiet.B0_eq (script_b : Option Addr) (script_l script_c : Nat) (w : World)   (R : Bool → World → Prop)  :
    (
  framelaw_walk.Call script_b script_l script_c true w fun r7_0 r7_1 w1 =>
  R (r7_0 == (-1 : Int)) w1) = kstep Try.prog 12 Try.f4.results.toList (Try.f4.body.getD .skip) (framelaw_RefinesQuiet.RV R) (kvc Try.prog 12 Try.f4.results.toList (Try.f4.body.getD .skip) (framelaw_RefinesQuiet.RV R) [] 2000) [(0, [])] [(0, .slice script_b script_l script_c)] w := by kernel_rfl
theorem framelaw_RefinesQuiet.B0_sound {R : Bool → World → Prop}  (script_b : Option Addr) (script_l script_c : Nat) (w : World) (h : framelaw_RefinesQuiet.B0 script_b script_l script_c w   R) :
    KW Try.prog 4 12 (framelaw_RefinesQuiet.RV R) ([(0, [])].map (toItem (Try.f4.body.getD .skip))) [(0, .slice script_b script_l script_c)] w := by
  exact block_spec Try.func4 Try.mixed stops_nil (Eq.mp (framelaw_RefinesQuiet.B0_eq script_b script_l script_c w   R ) h)
theorem framelaw_RefinesQuiet.sound (script_b : Option Addr) (script_l script_c : Nat) (w : World) (R : Bool → World → Prop) (h : framelaw_RefinesQuiet.B0 script_b script_l script_c w R) : framelaw_RefinesQuiet.Call script_b script_l script_c w R := by
  have hc := calls_of_block (args := #[.slice script_b script_l script_c]) Try.func4 (body := (Try.f4.body.getD .skip)) (by kernel_rfl) (by kernel_rfl) (args_slot _) (framelaw_RefinesQuiet.B0_sound script_b script_l script_c w h)
  exact hc.mono fun e w' he => by
    obtain ⟨v, rfl, hv⟩ := he
    exact framelaw_RefinesQuiet.RV_elim hv
def framelaw_RefinesUpTo.B0 (script_b : Option Addr) (script_l script_c : Nat) (w : World)   (R : Int → World → Prop) : Prop :=
  framelaw_walk.Call script_b script_l script_c false w fun r7_0 r7_1 w1 =>
  R r7_0 w1
theorem framelaw_RefinesUpTo.B0_eq (script_b : Option Addr) (script_l script_c : Nat) (w : World)   (R : Int → World → Prop)  :
    (
  framelaw_walk.Call script_b script_l script_c false w fun r7_0 r7_1 w1 =>
  R r7_0 w1) = kstep Try.prog 11 Try.f5.results.toList (Try.f5.body.getD .skip) (framelaw_RefinesUpTo.RV R) (kvc Try.prog 11 Try.f5.results.toList (Try.f5.body.getD .skip) (framelaw_RefinesUpTo.RV R) [] 2000) [(0, [])] [(0, .slice script_b script_l script_c)] w := by kernel_rfl
theorem framelaw_RefinesUpTo.B0_sound {R : Int → World → Prop}  (script_b : Option Addr) (script_l script_c : Nat) (w : World) (h : framelaw_RefinesUpTo.B0 script_b script_l script_c w   R) :
    KW Try.prog 5 11 (framelaw_RefinesUpTo.RV R) ([(0, [])].map (toItem (Try.f5.body.getD .skip))) [(0, .slice script_b script_l script_c)] w := by
  exact block_spec Try.func5 Try.mixed stops_nil (Eq.mp (framelaw_RefinesUpTo.B0_eq script_b script_l script_c w   R ) h)
theorem framelaw_RefinesUpTo.sound (script_b : Option Addr) (script_l script_c : Nat) (w : World) (R : Int → World → Prop) (h : framelaw_RefinesUpTo.B0 script_b script_l script_c w R) : framelaw_RefinesUpTo.Call script_b script_l script_c w R := by
  have hc := calls_of_block (args := #[.slice script_b script_l script_c]) Try.func5 (body := (Try.f5.body.getD .skip)) (by kernel_rfl) (by kernel_rfl) (args_slot _) (framelaw_RefinesUpTo.B0_sound script_b script_l script_c w h)
  exact hc.mono fun e w' he => by
    obtain ⟨v, rfl, hv⟩ := he
    exact framelaw_RefinesUpTo.RV_elim hv
def framelaw_walk.B3 (script_b : Option Addr) (script_l script_c : Nat) (quiet : Bool) (w0 : Nat) (i : Int) (t64 : Bool) (w : World) (N2 : Option Addr → Nat → Nat → Bool → Nat → Int → World → Prop)  (R : Int → Int → World → Prop) : Prop :=
  Bm t64 (
    R i i w) (
    N2 script_b script_l script_c quiet w0 (IntKind.i64.wrap (i + (1 : Int))) w)
theorem framelaw_walk.B3_eq (script_b : Option Addr) (script_l script_c : Nat) (quiet : Bool) (w0 : Nat) (i : Int) (t64 : Bool) (w : World) (N2 : Option Addr → Nat → Nat → Bool → Nat → Int → World → Prop)  (R : Int → Int → World → Prop)  :
    (
  Bm t64 (
    R i i w) (
    N2 script_b script_l script_c quiet w0 (IntKind.i64.wrap (i + (1 : Int))) w)) = kstep Try.prog 80 Try.f6.results.toList (Try.f6.body.getD .skip) (framelaw_walk.RV R) (kvc Try.prog 80 Try.f6.results.toList (Try.f6.body.getD .skip) (framelaw_walk.RV R) [([(0, [1, 1, 1, 1, 0, 1, 0, 0]), (2, [1, 1, 1, 1, 0, 1, 0, 0]), (1, [2]), (0, [1, 1, 1, 1, 1])], fun σ w => dL (slotOf σ 0) fun script_b_ script_l_ script_c_ => dB (slotOf σ 1) fun quiet_ => dK (slotOf σ 6) fun w0_ => dI .i64 (slotOf σ 8) fun i_ => N2 script_b_ script_l_ script_c_ quiet_ w0_ i_ w)] 2000) [(0, [1, 1, 1, 1, 0, 1, 0, 0, 1, 0, 0, 1, 1]), (1, [3]), (0, [1, 1, 1, 1, 0, 1, 0, 0, 1, 1]), (2, [1, 1, 1, 1, 0, 1, 0, 0]), (1, [2]), (0, [1, 1, 1, 1, 1])] [(0, .slice script_b script_l script_c), (1, .bool quiet), (6, .pointer (some ⟨w0, 0, none⟩)), (8, .int .i64 i), (64, .bool t64)] w := by kernel_rfl
theorem framelaw_walk.B3_sound {R : Int → Int → World → Prop} {N2 : Option Addr → Nat → Nat → Bool → Nat → Int → World → Prop} (hN2 : ∀ script_b script_l script_c quiet w0 i w, N2 script_b script_l script_c quiet w0 i w → KW Try.prog 6 80 (framelaw_walk.RV R) ([(0, [1, 1, 1, 1, 0, 1, 0, 0]), (2, [1, 1, 1, 1, 0, 1, 0, 0]), (1, [2]), (0, [1, 1, 1, 1, 1])].map (toItem (Try.f6.body.getD .skip))) [(0, .slice script_b script_l script_c), (1, .bool quiet), (6, .pointer (some ⟨w0, 0, none⟩)), (8, .int .i64 i)] w) (script_b : Option Addr) (script_l script_c : Nat) (quiet : Bool) (w0 : Nat) (i : Int) (t64 : Bool) (w : World) (h : framelaw_walk.B3 script_b script_l script_c quiet w0 i t64 w N2  R) :
    KW Try.prog 6 80 (framelaw_walk.RV R) ([(0, [1, 1, 1, 1, 0, 1, 0, 0, 1, 0, 0, 1, 1]), (1, [3]), (0, [1, 1, 1, 1, 0, 1, 0, 0, 1, 1]), (2, [1, 1, 1, 1, 0, 1, 0, 0]), (1, [2]), (0, [1, 1, 1, 1, 1])].map (toItem (Try.f6.body.getD .skip))) [(0, .slice script_b script_l script_c), (1, .bool quiet), (6, .pointer (some ⟨w0, 0, none⟩)), (8, .int .i64 i), (64, .bool t64)] w := by
  exact block_spec Try.func6 Try.mixed (stops_cons (fun σ w h => by
      obtain ⟨script_b_, script_l_, script_c_, e0, h⟩ := dL_elim h
      obtain ⟨quiet_, e1, h⟩ := dB_elim h
      obtain ⟨w0_, e2, h⟩ := dK_elim h
      obtain ⟨i_, e3, h⟩ := dI_elim h
      exact (hN2 script_b_ script_l_ script_c_ quiet_ w0_ i_ w h).weaken (Sub.cons (Sub.cons (Sub.cons (Sub.cons (Sub.nil _) e3) e2) e1) e0)) stops_nil) (Eq.mp (framelaw_walk.B3_eq script_b script_l script_c quiet w0 i t64 w N2  R ) h)
def framelaw_walk.B4 (w0 : Nat) (n : Int) (w : World)   (R : Int → Int → World → Prop) : Prop :=
  framelaw_Untouched.Call (some ⟨w0, 0, none⟩) w fun r72 w1 =>
  Bm (!r72) (
    Bm (n == (0 : Int)) (
      R (0 : Int) (0 : Int) w1) (
      R (IntKind.i64.wrap (n - (1 : Int))) n w1)) (
    R (-1 : Int) n w1)
theorem framelaw_walk.B4_eq (w0 : Nat) (n : Int) (w : World)   (R : Int → Int → World → Prop)  :
    (
  framelaw_Untouched.Call (some ⟨w0, 0, none⟩) w fun r72 w1 =>
  Bm (!r72) (
    Bm (n == (0 : Int)) (
      R (0 : Int) (0 : Int) w1) (
      R (IntKind.i64.wrap (n - (1 : Int))) n w1)) (
    R (-1 : Int) n w1)) = kstep Try.prog 80 Try.f6.results.toList (Try.f6.body.getD .skip) (framelaw_walk.RV R) (kvc Try.prog 80 Try.f6.results.toList (Try.f6.body.getD .skip) (framelaw_walk.RV R) [] 2000) [(0, [1, 1, 1, 1, 1, 1, 1])] [(6, .pointer (some ⟨w0, 0, none⟩)), (9, .int .i64 n)] w := by kernel_rfl
theorem framelaw_walk.B4_sound {R : Int → Int → World → Prop}  (w0 : Nat) (n : Int) (w : World) (h : framelaw_walk.B4 w0 n w   R) :
    KW Try.prog 6 80 (framelaw_walk.RV R) ([(0, [1, 1, 1, 1, 1, 1, 1])].map (toItem (Try.f6.body.getD .skip))) [(6, .pointer (some ⟨w0, 0, none⟩)), (9, .int .i64 n)] w := by
  exact block_spec Try.func6 Try.mixed stops_nil (Eq.mp (framelaw_walk.B4_eq w0 n w   R ) h)
def framelaw_walk.B2 (script_b : Option Addr) (script_l script_c : Nat) (quiet : Bool) (w0 : Nat) (i : Int) (t46 : Bool) (w : World) (N2 : Option Addr → Nat → Nat → Bool → Nat → Int → World → Prop)  (R : Int → Int → World → Prop) : Prop :=
  Bm t46 (
    Pn script_b fun a =>
    (0 ≤ i ∧ i < ((script_l : Nat) : Int)) ∧
    LdI .i64 (Addr.add a (i.toNat * 6)) w fun x53_0 =>
    LdI .i64 ((Addr.add a (i.toNat * 6)).add 1) w fun x53_1 =>
    LdI .i64 ((Addr.add a (i.toNat * 6)).add 2) w fun x53_2 =>
    LdI .i64 ((Addr.add a (i.toNat * 6)).add 3) w fun x53_3 =>
    LdS ((Addr.add a (i.toNat * 6)).add 4) w fun x53_4 =>
    LdS ((Addr.add a (i.toNat * 6)).add 5) w fun x53_5 =>
    framelaw_Play.Call (some ⟨w0, 0, none⟩) x53_0 x53_1 x53_2 x53_3 x53_4 x53_5 w fun r54 w1 =>
    Bm (!r54) (
      R i i w1) (
      Bm (!quiet) (
        framelaw_AllAlike.Call (some ⟨w0, 0, none⟩) w1 fun r62 w2 =>
        framelaw_walk.B3 script_b script_l script_c quiet w0 i (!r62) w2 N2 R) (
        framelaw_walk.B3 script_b script_l script_c quiet w0 i false w1 N2 R))) (
    Bm (decide (((script_l : Nat) : Int) > (1048576 : Int))) (
      framelaw_walk.B4 w0 (1048576 : Int) w  R) (
      framelaw_walk.B4 w0 ((script_l : Nat) : Int) w  R))
theorem framelaw_walk.B2_eq (script_b : Option Addr) (script_l script_c : Nat) (quiet : Bool) (w0 : Nat) (i : Int) (t46 : Bool) (w : World) (N2 : Option Addr → Nat → Nat → Bool → Nat → Int → World → Prop)  (R : Int → Int → World → Prop) (sB3 : Option Addr → Nat → Nat → Bool → Nat → Int → Bool → World → Prop) (sB4 : Nat → Int → World → Prop) :
    (
  Bm t46 (
    Pn script_b fun a =>
    (0 ≤ i ∧ i < ((script_l : Nat) : Int)) ∧
    LdI .i64 (Addr.add a (i.toNat * 6)) w fun x53_0 =>
    LdI .i64 ((Addr.add a (i.toNat * 6)).add 1) w fun x53_1 =>
    LdI .i64 ((Addr.add a (i.toNat * 6)).add 2) w fun x53_2 =>
    LdI .i64 ((Addr.add a (i.toNat * 6)).add 3) w fun x53_3 =>
    LdS ((Addr.add a (i.toNat * 6)).add 4) w fun x53_4 =>
    LdS ((Addr.add a (i.toNat * 6)).add 5) w fun x53_5 =>
    framelaw_Play.Call (some ⟨w0, 0, none⟩) x53_0 x53_1 x53_2 x53_3 x53_4 x53_5 w fun r54 w1 =>
    Bm (!r54) (
      R i i w1) (
      Bm (!quiet) (
        framelaw_AllAlike.Call (some ⟨w0, 0, none⟩) w1 fun r62 w2 =>
        sB3 script_b script_l script_c quiet w0 i (!r62) w2) (
        sB3 script_b script_l script_c quiet w0 i false w1))) (
    Bm (decide (((script_l : Nat) : Int) > (1048576 : Int))) (
      sB4 w0 (1048576 : Int) w) (
      sB4 w0 ((script_l : Nat) : Int) w))) = kstep Try.prog 80 Try.f6.results.toList (Try.f6.body.getD .skip) (framelaw_walk.RV R) (kvc Try.prog 80 Try.f6.results.toList (Try.f6.body.getD .skip) (framelaw_walk.RV R) [([(0, [1, 1, 1, 1, 0, 1, 0, 0, 1, 0, 0, 1, 1]), (1, [3]), (0, [1, 1, 1, 1, 0, 1, 0, 0, 1, 1]), (2, [1, 1, 1, 1, 0, 1, 0, 0]), (1, [2]), (0, [1, 1, 1, 1, 1])], fun σ w => dL (slotOf σ 0) fun script_b_ script_l_ script_c_ => dB (slotOf σ 1) fun quiet_ => dK (slotOf σ 6) fun w0_ => dI .i64 (slotOf σ 8) fun i_ => dB (slotOf σ 64) fun t64_ => sB3 script_b_ script_l_ script_c_ quiet_ w0_ i_ t64_ w),
    ([(0, [1, 1, 1, 1, 1, 1, 1])], fun σ w => dK (slotOf σ 6) fun w0_ => dI .i64 (slotOf σ 9) fun n_ => sB4 w0_ n_ w)] 2000) [(0, [1, 1, 1, 1, 0, 1, 0, 0, 0, 1]), (0, [1, 1, 1, 1, 0, 1, 0, 0, 1]), (2, [1, 1, 1, 1, 0, 1, 0, 0]), (1, [2]), (0, [1, 1, 1, 1, 1])] [(0, .slice script_b script_l script_c), (1, .bool quiet), (6, .pointer (some ⟨w0, 0, none⟩)), (8, .int .i64 i), (46, .bool t46)] w := by kernel_rfl
theorem framelaw_walk.B2_sound {R : Int → Int → World → Prop} {N2 : Option Addr → Nat → Nat → Bool → Nat → Int → World → Prop} (hN2 : ∀ script_b script_l script_c quiet w0 i w, N2 script_b script_l script_c quiet w0 i w → KW Try.prog 6 80 (framelaw_walk.RV R) ([(0, [1, 1, 1, 1, 0, 1, 0, 0]), (2, [1, 1, 1, 1, 0, 1, 0, 0]), (1, [2]), (0, [1, 1, 1, 1, 1])].map (toItem (Try.f6.body.getD .skip))) [(0, .slice script_b script_l script_c), (1, .bool quiet), (6, .pointer (some ⟨w0, 0, none⟩)), (8, .int .i64 i)] w) (script_b : Option Addr) (script_l script_c : Nat) (quiet : Bool) (w0 : Nat) (i : Int) (t46 : Bool) (w : World) (h : framelaw_walk.B2 script_b script_l script_c quiet w0 i t46 w N2  R) :
    KW Try.prog 6 80 (framelaw_walk.RV R) ([(0, [1, 1, 1, 1, 0, 1, 0, 0, 0, 1]), (0, [1, 1, 1, 1, 0, 1, 0, 0, 1]), (2, [1, 1, 1, 1, 0, 1, 0, 0]), (1, [2]), (0, [1, 1, 1, 1, 1])].map (toItem (Try.f6.body.getD .skip))) [(0, .slice script_b script_l script_c), (1, .bool quiet), (6, .pointer (some ⟨w0, 0, none⟩)), (8, .int .i64 i), (46, .bool t46)] w := by
  exact block_spec Try.func6 Try.mixed (stops_cons (fun σ w h => by
      obtain ⟨script_b_, script_l_, script_c_, e0, h⟩ := dL_elim h
      obtain ⟨quiet_, e1, h⟩ := dB_elim h
      obtain ⟨w0_, e2, h⟩ := dK_elim h
      obtain ⟨i_, e3, h⟩ := dI_elim h
      obtain ⟨t64_, e4, h⟩ := dB_elim h
      exact (framelaw_walk.B3_sound hN2 script_b_ script_l_ script_c_ quiet_ w0_ i_ t64_ w h).weaken (Sub.cons (Sub.cons (Sub.cons (Sub.cons (Sub.cons (Sub.nil _) e4) e3) e2) e1) e0)) (stops_cons (fun σ w h => by
      obtain ⟨w0_, e0, h⟩ := dK_elim h
      obtain ⟨n_, e1, h⟩ := dI_elim h
      exact (framelaw_walk.B4_sound  w0_ n_ w h).weaken (Sub.cons (Sub.cons (Sub.nil _) e1) e0)) stops_nil)) (Eq.mp (framelaw_walk.B2_eq script_b script_l script_c quiet w0 i t46 w N2  R (fun script_b_ script_l_ script_c_ quiet_ w0_ i_ t64_ w => framelaw_walk.B3 script_b_ script_l_ script_c_ quiet_ w0_ i_ t64_ w N2 R) (fun w0_ n_ w => framelaw_walk.B4 w0_ n_ w  R)) h)
def framelaw_walk.L2b (script_b : Option Addr) (script_l script_c : Nat) (quiet : Bool) (w0 : Nat) (i : Int) (w : World)  (N2 : Option Addr → Nat → Nat → Bool → Nat → Int → World → Prop) (R : Int → Int → World → Prop) : Prop :=
  Bm (decide (i < ((script_l : Nat) : Int))) (
    framelaw_walk.B2 script_b script_l script_c quiet w0 i (decide (i < (1048576 : Int))) w N2 R) (
    framelaw_walk.B2 script_b script_l script_c quiet w0 i false w N2 R)
theorem framelaw_walk.L2b_eq (script_b : Option Addr) (script_l script_c : Nat) (quiet : Bool) (w0 : Nat) (i : Int) (w : World)  (N2 : Option Addr → Nat → Nat → Bool → Nat → Int → World → Prop) (R : Int → Int → World → Prop) (sB2 : Option Addr → Nat → Nat → Bool → Nat → Int → Bool → World → Prop) :
    (
  Bm (decide (i < ((script_l : Nat) : Int))) (
    sB2 script_b script_l script_c quiet w0 i (decide (i < (1048576 : Int))) w) (
    sB2 script_b script_l script_c quiet w0 i false w)) = kstep Try.prog 80 Try.f6.results.toList (Try.f6.body.getD .skip) (framelaw_walk.RV R) (kvc Try.prog 80 Try.f6.results.toList (Try.f6.body.getD .skip) (framelaw_walk.RV R) [([(0, [1, 1, 1, 1, 0, 1, 0, 0, 0, 1]), (0, [1, 1, 1, 1, 0, 1, 0, 0, 1]), (2, [1, 1, 1, 1, 0, 1, 0, 0]), (1, [2]), (0, [1, 1, 1, 1, 1])], fun σ w => dL (slotOf σ 0) fun script_b_ script_l_ script_c_ => dB (slotOf σ 1) fun quiet_ => dK (slotOf σ 6) fun w0_ => dI .i64 (slotOf σ 8) fun i_ => dB (slotOf σ 46) fun t46_ => sB2 script_b_ script_l_ script_c_ quiet_ w0_ i_ t46_ w)] 2000) [(0, [1, 1, 1, 1, 0, 1, 0, 0]), (2, [1, 1, 1, 1, 0, 1, 0, 0]), (1, [2]), (0, [1, 1, 1, 1, 1])] [(0, .slice script_b script_l script_c), (1, .bool quiet), (6, .pointer (some ⟨w0, 0, none⟩)), (8, .int .i64 i)] w := by kernel_rfl
theorem framelaw_walk.L2b_sound {R : Int → Int → World → Prop} {N2 : Option Addr → Nat → Nat → Bool → Nat → Int → World → Prop} (hN2 : ∀ script_b script_l script_c quiet w0 i w, N2 script_b script_l script_c quiet w0 i w → KW Try.prog 6 80 (framelaw_walk.RV R) ([(0, [1, 1, 1, 1, 0, 1, 0, 0]), (2, [1, 1, 1, 1, 0, 1, 0, 0]), (1, [2]), (0, [1, 1, 1, 1, 1])].map (toItem (Try.f6.body.getD .skip))) [(0, .slice script_b script_l script_c), (1, .bool quiet), (6, .pointer (some ⟨w0, 0, none⟩)), (8, .int .i64 i)] w) (script_b : Option Addr) (script_l script_c : Nat) (quiet : Bool) (w0 : Nat) (i : Int) (w : World) (h : framelaw_walk.L2b script_b script_l script_c quiet w0 i w  N2 R) :
    KW Try.prog 6 80 (framelaw_walk.RV R) ([(0, [1, 1, 1, 1, 0, 1, 0, 0]), (2, [1, 1, 1, 1, 0, 1, 0, 0]), (1, [2]), (0, [1, 1, 1, 1, 1])].map (toItem (Try.f6.body.getD .skip))) [(0, .slice script_b script_l script_c), (1, .bool quiet), (6, .pointer (some ⟨w0, 0, none⟩)), (8, .int .i64 i)] w := by
  exact block_spec Try.func6 Try.mixed (stops_cons (fun σ w h => by
      obtain ⟨script_b_, script_l_, script_c_, e0, h⟩ := dL_elim h
      obtain ⟨quiet_, e1, h⟩ := dB_elim h
      obtain ⟨w0_, e2, h⟩ := dK_elim h
      obtain ⟨i_, e3, h⟩ := dI_elim h
      obtain ⟨t46_, e4, h⟩ := dB_elim h
      exact (framelaw_walk.B2_sound hN2 script_b_ script_l_ script_c_ quiet_ w0_ i_ t46_ w h).weaken (Sub.cons (Sub.cons (Sub.cons (Sub.cons (Sub.cons (Sub.nil _) e4) e3) e2) e1) e0)) stops_nil) (Eq.mp (framelaw_walk.L2b_eq script_b script_l script_c quiet w0 i w  N2 R (fun script_b_ script_l_ script_c_ quiet_ w0_ i_ t46_ w => framelaw_walk.B2 script_b_ script_l_ script_c_ quiet_ w0_ i_ t46_ w N2 R)) h)
def framelaw_walk.L2 (script_b : Option Addr) (script_l script_c : Nat) (quiet : Bool) (w0 : Nat) (i : Int) (w : World)  (R : Int → Int → World → Prop) : Prop :=
  ∃ (I : Nat → Option Addr → Nat → Nat → Bool → Nat → Int → World → Prop) (m : Nat), I m script_b script_l script_c quiet w0 i w ∧ ∀ m script_b script_l script_c quiet w0 i w, I m script_b script_l script_c quiet w0 i w → framelaw_walk.L2b script_b script_l script_c quiet w0 i w  (fun script_b' script_l' script_c' quiet' w0' i' w' => ∃ m', m' < m ∧ I m' script_b' script_l' script_c' quiet' w0' i' w') R
theorem framelaw_walk.L2_sound {R : Int → Int → World → Prop}  (script_b : Option Addr) (script_l script_c : Nat) (quiet : Bool) (w0 : Nat) (i : Int) (w : World) (h : framelaw_walk.L2 script_b script_l script_c quiet w0 i w  R) :
    KW Try.prog 6 80 (framelaw_walk.RV R) ([(0, [1, 1, 1, 1, 0, 1, 0, 0]), (2, [1, 1, 1, 1, 0, 1, 0, 0]), (1, [2]), (0, [1, 1, 1, 1, 1])].map (toItem (Try.f6.body.getD .skip))) [(0, .slice script_b script_l script_c), (1, .bool quiet), (6, .pointer (some ⟨w0, 0, none⟩)), (8, .int .i64 i)] w := by
  obtain ⟨I, m, h0, hr⟩ := h
  refine KW.loop (fun m σ w => ∃ (script_b : Option Addr) (script_l script_c : Nat) (quiet : Bool) (w0 : Nat) (i : Int), σ = [(0, .slice script_b script_l script_c), (1, .bool quiet), (6, .pointer (some ⟨w0, 0, none⟩)), (8, .int .i64 i)] ∧ I m script_b script_l script_c quiet w0 i w) ?_ m _ w ⟨script_b, script_l, script_c, quiet, w0, i, rfl, h0⟩
  rintro m ih σ w ⟨script_b, script_l, script_c, quiet, w0, i, rfl, hI⟩
  exact framelaw_walk.L2b_sound  (N2 := fun script_b' script_l' script_c' quiet' w0' i' w' => ∃ m', m' < m ∧ I m' script_b' script_l' script_c' quiet' w0' i' w') (fun script_b' script_l' script_c' quiet' w0' i' w' hx => by obtain ⟨m', hlt, hI'⟩ := hx; exact ih m' hlt _ w' ⟨script_b', script_l', script_c', quiet', w0', i', rfl, hI'⟩) script_b script_l script_c quiet w0 i w (hr m script_b script_l script_c quiet w0 i w hI)
def framelaw_walk.B1 (script_b : Option Addr) (script_l script_c : Nat) (quiet : Bool) (w0 : Nat) (t38 : Bool) (w : World)   (R : Int → Int → World → Prop) : Prop :=
  Bm t38 (
    R (0 : Int) (0 : Int) w) (
    framelaw_walk.L2 script_b script_l script_c quiet w0 (0 : Int) w  R)
theorem framelaw_walk.B1_eq (script_b : Option Addr) (script_l script_c : Nat) (quiet : Bool) (w0 : Nat) (t38 : Bool) (w : World)   (R : Int → Int → World → Prop) (sL2 : Option Addr → Nat → Nat → Bool → Nat → Int → World → Prop) :
    (
  Bm t38 (
    R (0 : Int) (0 : Int) w) (
    sL2 script_b script_l script_c quiet w0 (0 : Int) w)) = kstep Try.prog 80 Try.f6.results.toList (Try.f6.body.getD .skip) (framelaw_walk.RV R) (kvc Try.prog 80 Try.f6.results.toList (Try.f6.body.getD .skip) (framelaw_walk.RV R) [([(0, [1, 1, 1, 1, 0, 1, 0, 0]), (2, [1, 1, 1, 1, 0, 1, 0, 0]), (1, [2]), (0, [1, 1, 1, 1, 1])], fun σ w => dL (slotOf σ 0) fun script_b_ script_l_ script_c_ => dB (slotOf σ 1) fun quiet_ => dK (slotOf σ 6) fun w0_ => dI .i64 (slotOf σ 8) fun i_ => sL2 script_b_ script_l_ script_c_ quiet_ w0_ i_ w)] 2000) [(0, [1, 1, 1, 0, 1]), (0, [1, 1, 1, 1])] [(0, .slice script_b script_l script_c), (1, .bool quiet), (6, .pointer (some ⟨w0, 0, none⟩)), (38, .bool t38)] w := by kernel_rfl
theorem framelaw_walk.B1_sound {R : Int → Int → World → Prop}  (script_b : Option Addr) (script_l script_c : Nat) (quiet : Bool) (w0 : Nat) (t38 : Bool) (w : World) (h : framelaw_walk.B1 script_b script_l script_c quiet w0 t38 w   R) :
    KW Try.prog 6 80 (framelaw_walk.RV R) ([(0, [1, 1, 1, 0, 1]), (0, [1, 1, 1, 1])].map (toItem (Try.f6.body.getD .skip))) [(0, .slice script_b script_l script_c), (1, .bool quiet), (6, .pointer (some ⟨w0, 0, none⟩)), (38, .bool t38)] w := by
  exact block_spec Try.func6 Try.mixed (stops_cons (fun σ w h => by
      obtain ⟨script_b_, script_l_, script_c_, e0, h⟩ := dL_elim h
      obtain ⟨quiet_, e1, h⟩ := dB_elim h
      obtain ⟨w0_, e2, h⟩ := dK_elim h
      obtain ⟨i_, e3, h⟩ := dI_elim h
      exact (framelaw_walk.L2_sound  script_b_ script_l_ script_c_ quiet_ w0_ i_ w h).weaken (Sub.cons (Sub.cons (Sub.cons (Sub.cons (Sub.nil _) e3) e2) e1) e0)) stops_nil) (Eq.mp (framelaw_walk.B1_eq script_b script_l script_c quiet w0 t38 w   R (fun script_b_ script_l_ script_c_ quiet_ w0_ i_ w => framelaw_walk.L2 script_b_ script_l_ script_c_ quiet_ w0_ i_ w  R)) h)
def framelaw_walk.L1b (script_b : Option Addr) (script_l script_c : Nat) (quiet : Bool) (w0 : Nat) (c : Int) (w : World)  (N1 : Option Addr → Nat → Nat → Bool → Nat → Int → World → Prop) (R : Int → Int → World → Prop) : Prop :=
  Bm (decide (c < (2 : Int))) (
    frame_New.Call (IntKind.i64.wrap (c + (1 : Int))) w.drew fun r20 w1 =>
    (0 ≤ c ∧ c < ((2 : Nat) : Int)) ∧
    Sts [.pointer r20] (Addr.add ⟨w0, 0, none⟩ (c.toNat * 1)) 0 w1 fun w2 =>
    framem_New.Call (IntKind.i64.wrap (c + (1 : Int))) w2.drew fun r28 w3 =>
    (0 ≤ c ∧ c < ((2 : Nat) : Int)) ∧
    Sts [.pointer r28] (Addr.add ⟨w0, 2, none⟩ (c.toNat * 1)) 0 w3 fun w4 =>
    N1 script_b script_l script_c quiet w0 (IntKind.i64.wrap (c + (1 : Int))) w4) (
    Bm (!quiet) (
      framelaw_AllAlike.Call (some ⟨w0, 0, none⟩) w fun r36 w5 =>
      framelaw_walk.B1 script_b script_l script_c quiet w0 (!r36) w5  R) (
      framelaw_walk.B1 script_b script_l script_c quiet w0 false w  R))
theorem framelaw_walk.L1b_eq (script_b : Option Addr) (script_l script_c : Nat) (quiet : Bool) (w0 : Nat) (c : Int) (w : World)  (N1 : Option Addr → Nat → Nat → Bool → Nat → Int → World → Prop) (R : Int → Int → World → Prop) (sB1 : Option Addr → Nat → Nat → Bool → Nat → Bool → World → Prop) :
    (
  Bm (decide (c < (2 : Int))) (
    frame_New.Call (IntKind.i64.wrap (c + (1 : Int))) w.drew fun r20 w1 =>
    (0 ≤ c ∧ c < ((2 : Nat) : Int)) ∧
    Sts [.pointer r20] (Addr.add ⟨w0, 0, none⟩ (c.toNat * 1)) 0 w1 fun w2 =>
    framem_New.Call (IntKind.i64.wrap (c + (1 : Int))) w2.drew fun r28 w3 =>
    (0 ≤ c ∧ c < ((2 : Nat) : Int)) ∧
    Sts [.pointer r28] (Addr.add ⟨w0, 2, none⟩ (c.toNat * 1)) 0 w3 fun w4 =>
    N1 script_b script_l script_c quiet w0 (IntKind.i64.wrap (c + (1 : Int))) w4) (
    Bm (!quiet) (
      framelaw_AllAlike.Call (some ⟨w0, 0, none⟩) w fun r36 w5 =>
      sB1 script_b script_l script_c quiet w0 (!r36) w5) (
      sB1 script_b script_l script_c quiet w0 false w))) = kstep Try.prog 80 Try.f6.results.toList (Try.f6.body.getD .skip) (framelaw_walk.RV R) (kvc Try.prog 80 Try.f6.results.toList (Try.f6.body.getD .skip) (framelaw_walk.RV R) [([(0, [1, 1, 0, 1, 0, 0]), (2, [1, 1, 0, 1, 0, 0]), (1, [0]), (0, [1, 1, 1])], fun σ w => dL (slotOf σ 0) fun script_b_ script_l_ script_c_ => dB (slotOf σ 1) fun quiet_ => dK (slotOf σ 6) fun w0_ => dI .i64 (slotOf σ 7) fun c_ => N1 script_b_ script_l_ script_c_ quiet_ w0_ c_ w),
    ([(0, [1, 1, 1, 0, 1]), (0, [1, 1, 1, 1])], fun σ w => dL (slotOf σ 0) fun script_b_ script_l_ script_c_ => dB (slotOf σ 1) fun quiet_ => dK (slotOf σ 6) fun w0_ => dB (slotOf σ 38) fun t38_ => sB1 script_b_ script_l_ script_c_ quiet_ w0_ t38_ w)] 2000) [(0, [1, 1, 0, 1, 0, 0]), (2, [1, 1, 0, 1, 0, 0]), (1, [0]), (0, [1, 1, 1])] [(0, .slice script_b script_l script_c), (1, .bool quiet), (6, .pointer (some ⟨w0, 0, none⟩)), (7, .int .i64 c)] w := by kernel_rfl
theorem framelaw_walk.L1b_sound {R : Int → Int → World → Prop} {N1 : Option Addr → Nat → Nat → Bool → Nat → Int → World → Prop} (hN1 : ∀ script_b script_l script_c quiet w0 c w, N1 script_b script_l script_c quiet w0 c w → KW Try.prog 6 80 (framelaw_walk.RV R) ([(0, [1, 1, 0, 1, 0, 0]), (2, [1, 1, 0, 1, 0, 0]), (1, [0]), (0, [1, 1, 1])].map (toItem (Try.f6.body.getD .skip))) [(0, .slice script_b script_l script_c), (1, .bool quiet), (6, .pointer (some ⟨w0, 0, none⟩)), (7, .int .i64 c)] w) (script_b : Option Addr) (script_l script_c : Nat) (quiet : Bool) (w0 : Nat) (c : Int) (w : World) (h : framelaw_walk.L1b script_b script_l script_c quiet w0 c w  N1 R) :
    KW Try.prog 6 80 (framelaw_walk.RV R) ([(0, [1, 1, 0, 1, 0, 0]), (2, [1, 1, 0, 1, 0, 0]), (1, [0]), (0, [1, 1, 1])].map (toItem (Try.f6.body.getD .skip))) [(0, .slice script_b script_l script_c), (1, .bool quiet), (6, .pointer (some ⟨w0, 0, none⟩)), (7, .int .i64 c)] w := by
  exact block_spec Try.func6 Try.mixed (stops_cons (fun σ w h => by
      obtain ⟨script_b_, script_l_, script_c_, e0, h⟩ := dL_elim h
      obtain ⟨quiet_, e1, h⟩ := dB_elim h
      obtain ⟨w0_, e2, h⟩ := dK_elim h
      obtain ⟨c_, e3, h⟩ := dI_elim h
      exact (hN1 script_b_ script_l_ script_c_ quiet_ w0_ c_ w h).weaken (Sub.cons (Sub.cons (Sub.cons (Sub.cons (Sub.nil _) e3) e2) e1) e0)) (stops_cons (fun σ w h => by
      obtain ⟨script_b_, script_l_, script_c_, e0, h⟩ := dL_elim h
      obtain ⟨quiet_, e1, h⟩ := dB_elim h
      obtain ⟨w0_, e2, h⟩ := dK_elim h
      obtain ⟨t38_, e3, h⟩ := dB_elim h
      exact (framelaw_walk.B1_sound  script_b_ script_l_ script_c_ quiet_ w0_ t38_ w h).weaken (Sub.cons (Sub.cons (Sub.cons (Sub.cons (Sub.nil _) e3) e2) e1) e0)) stops_nil)) (Eq.mp (framelaw_walk.L1b_eq script_b script_l script_c quiet w0 c w  N1 R (fun script_b_ script_l_ script_c_ quiet_ w0_ t38_ w => framelaw_walk.B1 script_b_ script_l_ script_c_ quiet_ w0_ t38_ w  R)) h)
def framelaw_walk.L1 (script_b : Option Addr) (script_l script_c : Nat) (quiet : Bool) (w0 : Nat) (c : Int) (w : World)  (R : Int → Int → World → Prop) : Prop :=
  ∃ (I : Nat → Option Addr → Nat → Nat → Bool → Nat → Int → World → Prop) (m : Nat), I m script_b script_l script_c quiet w0 c w ∧ ∀ m script_b script_l script_c quiet w0 c w, I m script_b script_l script_c quiet w0 c w → framelaw_walk.L1b script_b script_l script_c quiet w0 c w  (fun script_b' script_l' script_c' quiet' w0' c' w' => ∃ m', m' < m ∧ I m' script_b' script_l' script_c' quiet' w0' c' w') R
theorem framelaw_walk.L1_sound {R : Int → Int → World → Prop}  (script_b : Option Addr) (script_l script_c : Nat) (quiet : Bool) (w0 : Nat) (c : Int) (w : World) (h : framelaw_walk.L1 script_b script_l script_c quiet w0 c w  R) :
    KW Try.prog 6 80 (framelaw_walk.RV R) ([(0, [1, 1, 0, 1, 0, 0]), (2, [1, 1, 0, 1, 0, 0]), (1, [0]), (0, [1, 1, 1])].map (toItem (Try.f6.body.getD .skip))) [(0, .slice script_b script_l script_c), (1, .bool quiet), (6, .pointer (some ⟨w0, 0, none⟩)), (7, .int .i64 c)] w := by
  obtain ⟨I, m, h0, hr⟩ := h
  refine KW.loop (fun m σ w => ∃ (script_b : Option Addr) (script_l script_c : Nat) (quiet : Bool) (w0 : Nat) (c : Int), σ = [(0, .slice script_b script_l script_c), (1, .bool quiet), (6, .pointer (some ⟨w0, 0, none⟩)), (7, .int .i64 c)] ∧ I m script_b script_l script_c quiet w0 c w) ?_ m _ w ⟨script_b, script_l, script_c, quiet, w0, c, rfl, h0⟩
  rintro m ih σ w ⟨script_b, script_l, script_c, quiet, w0, c, rfl, hI⟩
  exact framelaw_walk.L1b_sound  (N1 := fun script_b' script_l' script_c' quiet' w0' c' w' => ∃ m', m' < m ∧ I m' script_b' script_l' script_c' quiet' w0' c' w') (fun script_b' script_l' script_c' quiet' w0' c' w' hx => by obtain ⟨m', hlt, hI'⟩ := hx; exact ih m' hlt _ w' ⟨script_b', script_l', script_c', quiet', w0', c', rfl, hI'⟩) script_b script_l script_c quiet w0 c w (hr m script_b script_l script_c quiet w0 c w hI)
def framelaw_walk.B0 (script_b : Option Addr) (script_l script_c : Nat) (quiet : Bool) (w : World)   (R : Int → Int → World → Prop) : Prop :=
  New (.cells #[.pointer none, .pointer none, .pointer none, .pointer none, .slice none 0 0, .int .i64 (0 : Int), .int .i64 (0 : Int), .int .i64 (0 : Int), .slice none 0 0, .slice none 0 0, .slice none 0 0] 37) w fun b11 w1 =>
  framelaw_walk.L1 script_b script_l script_c quiet b11 (0 : Int) w1  R
theorem framelaw_walk.B0_eq (script_b : Option Addr) (script_l script_c : Nat) (quiet : Bool) (w : World)   (R : Int → Int → World → Prop) (sL1 : Option Addr → Nat → Nat → Bool → Nat → Int → World → Prop) :
    (
  New (.cells #[.pointer none, .pointer none, .pointer none, .pointer none, .slice none 0 0, .int .i64 (0 : Int), .int .i64 (0 : Int), .int .i64 (0 : Int), .slice none 0 0, .slice none 0 0, .slice none 0 0] 37) w fun b11 w1 =>
  sL1 script_b script_l script_c quiet b11 (0 : Int) w1) = kstep Try.prog 80 Try.f6.results.toList (Try.f6.body.getD .skip) (framelaw_walk.RV R) (kvc Try.prog 80 Try.f6.results.toList (Try.f6.body.getD .skip) (framelaw_walk.RV R) [([(0, [1, 1, 0, 1, 0, 0]), (2, [1, 1, 0, 1, 0, 0]), (1, [0]), (0, [1, 1, 1])], fun σ w => dL (slotOf σ 0) fun script_b_ script_l_ script_c_ => dB (slotOf σ 1) fun quiet_ => dK (slotOf σ 6) fun w0_ => dI .i64 (slotOf σ 7) fun c_ => sL1 script_b_ script_l_ script_c_ quiet_ w0_ c_ w)] 2000) [(0, [])] [(0, .slice script_b script_l script_c), (1, .bool quiet)] w := by kernel_rfl
theorem framelaw_walk.B0_sound {R : Int → Int → World → Prop}  (script_b : Option Addr) (script_l script_c : Nat) (quiet : Bool) (w : World) (h : framelaw_walk.B0 script_b script_l script_c quiet w   R) :
    KW Try.prog 6 80 (framelaw_walk.RV R) ([(0, [])].map (toItem (Try.f6.body.getD .skip))) [(0, .slice script_b script_l script_c), (1, .bool quiet)] w := by
  exact block_spec Try.func6 Try.mixed (stops_cons (fun σ w h => by
      obtain ⟨script_b_, script_l_, script_c_, e0, h⟩ := dL_elim h
      obtain ⟨quiet_, e1, h⟩ := dB_elim h
      obtain ⟨w0_, e2, h⟩ := dK_elim h
      obtain ⟨c_, e3, h⟩ := dI_elim h
      exact (framelaw_walk.L1_sound  script_b_ script_l_ script_c_ quiet_ w0_ c_ w h).weaken (Sub.cons (Sub.cons (Sub.cons (Sub.cons (Sub.nil _) e3) e2) e1) e0)) stops_nil) (Eq.mp (framelaw_walk.B0_eq script_b script_l script_c quiet w   R (fun script_b_ script_l_ script_c_ quiet_ w0_ c_ w => framelaw_walk.L1 script_b_ script_l_ script_c_ quiet_ w0_ c_ w  R)) h)
theorem framelaw_walk.sound (script_b : Option Addr) (script_l script_c : Nat) (quiet : Bool) (w : World) (R : Int → Int → World → Prop) (h : framelaw_walk.B0 script_b script_l script_c quiet w R) : framelaw_walk.Call script_b script_l script_c quiet w R := by
  have hc := calls_of_block (args := #[.slice script_b script_l script_c, .bool quiet]) Try.func6 (body := (Try.f6.body.getD .skip)) (by kernel_rfl) (by kernel_rfl) (args_slot _) (framelaw_walk.B0_sound script_b script_l script_c quiet w h)
  exact hc.mono fun e w' he => by
    obtain ⟨v, rfl, hv⟩ := he
    exact framelaw_walk.RV_elim hv
def frame_New.B0 (addr : Int) (w : World)   (R : Option Addr → World → Prop) : Prop :=
  New (.cells #[.int .u8 (IntKind.u8.wrap (IntKind.i64.wrap (BitVec.ofInt IntKind.i64.bits addr &&& BitVec.ofInt IntKind.i64.bits (255 : Int)).toNat)), .int .i64 (0 : Int), .int .i64 (0 : Int), .int .i64 (0 : Int), .int .i64 (0 : Int), .int .i64 (0 : Int)] 46) w fun b7 w1 =>
  R (some ⟨b7, 0, none⟩) w1
theorem frame_New.B0_eq (addr : Int) (w : World)   (R : Option Addr → World → Prop)  :
    (
  New (.cells #[.int .u8 (IntKind.u8.wrap (IntKind.i64.wrap (BitVec.ofInt IntKind.i64.bits addr &&& BitVec.ofInt IntKind.i64.bits (255 : Int)).toNat)), .int .i64 (0 : Int), .int .i64 (0 : Int), .int .i64 (0 : Int), .int .i64 (0 : Int), .int .i64 (0 : Int)] 46) w fun b7 w1 =>
  R (some ⟨b7, 0, none⟩) w1) = kstep Try.prog 8 Try.f7.results.toList (Try.f7.body.getD .skip) (frame_New.RV R) (kvc Try.prog 8 Try.f7.results.toList (Try.f7.body.getD .skip) (frame_New.RV R) [] 2000) [(0, [])] [(0, .int .i64 addr)] w := by kernel_rfl
theorem frame_New.B0_sound {R : Option Addr → World → Prop}  (addr : Int) (w : World) (h : frame_New.B0 addr w   R) :
    KW Try.prog 7 8 (frame_New.RV R) ([(0, [])].map (toItem (Try.f7.body.getD .skip))) [(0, .int .i64 addr)] w := by
  exact block_spec Try.func7 Try.mixed stops_nil (Eq.mp (frame_New.B0_eq addr w   R ) h)
theorem frame_New.sound (addr : Int) (w : World) (R : Option Addr → World → Prop) (h : frame_New.B0 addr w R) : frame_New.Call addr w R := by
  have hc := calls_of_block (args := #[.int .i64 addr]) Try.func7 (body := (Try.f7.body.getD .skip)) (by kernel_rfl) (by kernel_rfl) (args_slot _) (frame_New.B0_sound addr w h)
  exact hc.mono fun e w' he => by
    obtain ⟨v, rfl, hv⟩ := he
    exact frame_New.RV_elim hv
def framem_New.B0 (addr : Int) (w : World)   (R : Option Addr → World → Prop) : Prop :=
  New (.cells #[.int .i64 (IntKind.i64.wrap (BitVec.ofInt IntKind.i64.bits addr &&& BitVec.ofInt IntKind.i64.bits (255 : Int)).toNat), .int .i64 (0 : Int), .int .i64 (0 : Int), .int .i64 (0 : Int), .int .i64 (0 : Int)] 50) w fun b6 w1 =>
  R (some ⟨b6, 0, none⟩) w1
theorem framem_New.B0_eq (addr : Int) (w : World)   (R : Option Addr → World → Prop)  :
    (
  New (.cells #[.int .i64 (IntKind.i64.wrap (BitVec.ofInt IntKind.i64.bits addr &&& BitVec.ofInt IntKind.i64.bits (255 : Int)).toNat), .int .i64 (0 : Int), .int .i64 (0 : Int), .int .i64 (0 : Int), .int .i64 (0 : Int)] 50) w fun b6 w1 =>
  R (some ⟨b6, 0, none⟩) w1) = kstep Try.prog 7 Try.f8.results.toList (Try.f8.body.getD .skip) (framem_New.RV R) (kvc Try.prog 7 Try.f8.results.toList (Try.f8.body.getD .skip) (framem_New.RV R) [] 2000) [(0, [])] [(0, .int .i64 addr)] w := by kernel_rfl
theorem framem_New.B0_sound {R : Option Addr → World → Prop}  (addr : Int) (w : World) (h : framem_New.B0 addr w   R) :
    KW Try.prog 8 7 (framem_New.RV R) ([(0, [])].map (toItem (Try.f8.body.getD .skip))) [(0, .int .i64 addr)] w := by
  exact block_spec Try.func8 Try.mixed stops_nil (Eq.mp (framem_New.B0_eq addr w   R ) h)
theorem framem_New.sound (addr : Int) (w : World) (R : Option Addr → World → Prop) (h : framem_New.B0 addr w R) : framem_New.Call addr w R := by
  have hc := calls_of_block (args := #[.int .i64 addr]) Try.func8 (body := (Try.f8.body.getD .skip)) (by kernel_rfl) (by kernel_rfl) (args_slot _) (framem_New.B0_sound addr w h)
  exact hc.mono fun e w' he => by
    obtain ⟨v, rfl, hv⟩ := he
    exact framem_New.RV_elim hv
def framelaw_AllAlike.L1b (w0 : Option Addr) (c : Int) (w : World)  (N1 : Option Addr → Int → World → Prop) (R : Bool → World → Prop) : Prop :=
  Bm (decide (c < (2 : Int))) (
    Pn w0 fun a =>
    (0 ≤ c ∧ c < ((2 : Nat) : Int)) ∧
    LdP (Addr.add a (c.toNat * 1)) w.drew fun x13 =>
    Pn w0 fun a_1 =>
    (0 ≤ c ∧ c < ((2 : Nat) : Int)) ∧
    LdP (Addr.add (a_1.add 2) (c.toNat * 1)) w.drew fun x19 =>
    framelaw_Alike.Call x13 x19 w.drew fun r20 w1 =>
    Bm (!r20) (
      R false w1) (
      N1 w0 (IntKind.i64.wrap (c + (1 : Int))) w1)) (
    R true w)
theorem framelaw_AllAlike.L1b_eq (w0 : Option Addr) (c : Int) (w : World)  (N1 : Option Addr → Int → World → Prop) (R : Bool → World → Prop)  :
    (
  Bm (decide (c < (2 : Int))) (
    Pn w0 fun a =>
    (0 ≤ c ∧ c < ((2 : Nat) : Int)) ∧
    LdP (Addr.add a (c.toNat * 1)) w.drew fun x13 =>
    Pn w0 fun a_1 =>
    (0 ≤ c ∧ c < ((2 : Nat) : Int)) ∧
    LdP (Addr.add (a_1.add 2) (c.toNat * 1)) w.drew fun x19 =>
    framelaw_Alike.Call x13 x19 w.drew fun r20 w1 =>
    Bm (!r20) (
      R false w1) (
      N1 w0 (IntKind.i64.wrap (c + (1 : Int))) w1)) (
    R true w)) = kstep Try.prog 22 Try.f9.results.toList (Try.f9.body.getD .skip) (framelaw_AllAlike.RV R) (kvc Try.prog 22 Try.f9.results.toList (Try.f9.body.getD .skip) (framelaw_AllAlike.RV R) [([(0, [1, 0, 1, 0, 0]), (2, [1, 0, 1, 0, 0]), (1, [0]), (0, [1, 1])], fun σ w => dP (slotOf σ 0) fun w0_ => dI .i64 (slotOf σ 3) fun c_ => N1 w0_ c_ w)] 2000) [(0, [1, 0, 1, 0, 0]), (2, [1, 0, 1, 0, 0]), (1, [0]), (0, [1, 1])] [(0, .pointer w0), (3, .int .i64 c)] w := by kernel_rfl
theorem framelaw_AllAlike.L1b_sound {R : Bool → World → Prop} {N1 : Option Addr → Int → World → Prop} (hN1 : ∀ w0 c w, N1 w0 c w → KW Try.prog 9 22 (framelaw_AllAlike.RV R) ([(0, [1, 0, 1, 0, 0]), (2, [1, 0, 1, 0, 0]), (1, [0]), (0, [1, 1])].map (toItem (Try.f9.body.getD .skip))) [(0, .pointer w0), (3, .int .i64 c)] w) (w0 : Option Addr) (c : Int) (w : World) (h : framelaw_AllAlike.L1b w0 c w  N1 R) :
    KW Try.prog 9 22 (framelaw_AllAlike.RV R) ([(0, [1, 0, 1, 0, 0]), (2, [1, 0, 1, 0, 0]), (1, [0]), (0, [1, 1])].map (toItem (Try.f9.body.getD .skip))) [(0, .pointer w0), (3, .int .i64 c)] w := by
  exact block_spec Try.func9 Try.mixed (stops_cons (fun σ w h => by
      obtain ⟨w0_, e0, h⟩ := dP_elim h
      obtain ⟨c_, e1, h⟩ := dI_elim h
      exact (hN1 w0_ c_ w h).weaken (Sub.cons (Sub.cons (Sub.nil _) e1) e0)) stops_nil) (Eq.mp (framelaw_AllAlike.L1b_eq w0 c w  N1 R ) h)
def framelaw_AllAlike.L1 (w0 : Option Addr) (c : Int) (w : World)  (R : Bool → World → Prop) : Prop :=
  ∃ (I : Nat → Option Addr → Int → World → Prop) (m : Nat), I m w0 c w ∧ ∀ m w0 c w, I m w0 c w → framelaw_AllAlike.L1b w0 c w  (fun w0' c' w' => ∃ m', m' < m ∧ I m' w0' c' w') R
theorem framelaw_AllAlike.L1_sound {R : Bool → World → Prop}  (w0 : Option Addr) (c : Int) (w : World) (h : framelaw_AllAlike.L1 w0 c w  R) :
    KW Try.prog 9 22 (framelaw_AllAlike.RV R) ([(0, [1, 0, 1, 0, 0]), (2, [1, 0, 1, 0, 0]), (1, [0]), (0, [1, 1])].map (toItem (Try.f9.body.getD .skip))) [(0, .pointer w0), (3, .int .i64 c)] w := by
  obtain ⟨I, m, h0, hr⟩ := h
  refine KW.loop (fun m σ w => ∃ (w0 : Option Addr) (c : Int), σ = [(0, .pointer w0), (3, .int .i64 c)] ∧ I m w0 c w) ?_ m _ w ⟨w0, c, rfl, h0⟩
  rintro m ih σ w ⟨w0, c, rfl, hI⟩
  exact framelaw_AllAlike.L1b_sound  (N1 := fun w0' c' w' => ∃ m', m' < m ∧ I m' w0' c' w') (fun w0' c' w' hx => by obtain ⟨m', hlt, hI'⟩ := hx; exact ih m' hlt _ w' ⟨w0', c', rfl, hI'⟩) w0 c w (hr m w0 c w hI)
def framelaw_AllAlike.B0 (w0 : Option Addr) (w : World)   (R : Bool → World → Prop) : Prop :=
  framelaw_AllAlike.L1 w0 (0 : Int) w  R
theorem framelaw_AllAlike.B0_eq (w0 : Option Addr) (w : World)   (R : Bool → World → Prop) (sL1 : Option Addr → Int → World → Prop) :
    (
  sL1 w0 (0 : Int) w) = kstep Try.prog 22 Try.f9.results.toList (Try.f9.body.getD .skip) (framelaw_AllAlike.RV R) (kvc Try.prog 22 Try.f9.results.toList (Try.f9.body.getD .skip) (framelaw_AllAlike.RV R) [([(0, [1, 0, 1, 0, 0]), (2, [1, 0, 1, 0, 0]), (1, [0]), (0, [1, 1])], fun σ w => dP (slotOf σ 0) fun w0_ => dI .i64 (slotOf σ 3) fun c_ => sL1 w0_ c_ w)] 2000) [(0, [])] [(0, .pointer w0)] w := by kernel_rfl
theorem framelaw_AllAlike.B0_sound {R : Bool → World → Prop}  (w0 : Option Addr) (w : World) (h : framelaw_AllAlike.B0 w0 w   R) :
    KW Try.prog 9 22 (framelaw_AllAlike.RV R) ([(0, [])].map (toItem (Try.f9.body.getD .skip))) [(0, .pointer w0)] w := by
  exact block_spec Try.func9 Try.mixed (stops_cons (fun σ w h => by
      obtain ⟨w0_, e0, h⟩ := dP_elim h
      obtain ⟨c_, e1, h⟩ := dI_elim h
      exact (framelaw_AllAlike.L1_sound  w0_ c_ w h).weaken (Sub.cons (Sub.cons (Sub.nil _) e1) e0)) stops_nil) (Eq.mp (framelaw_AllAlike.B0_eq w0 w   R (fun w0_ c_ w => framelaw_AllAlike.L1 w0_ c_ w  R)) h)
theorem framelaw_AllAlike.sound (w0 : Option Addr) (w : World) (R : Bool → World → Prop) (h : framelaw_AllAlike.B0 w0 w R) : framelaw_AllAlike.Call w0 w R := by
  have hc := calls_of_block (args := #[.pointer w0]) Try.func9 (body := (Try.f9.body.getD .skip)) (by kernel_rfl) (by kernel_rfl) (args_slot _) (framelaw_AllAlike.B0_sound w0 w h)
  exact hc.mono fun e w' he => by
    obtain ⟨v, rfl, hv⟩ := he
    exact framelaw_AllAlike.RV_elim hv
def framelaw_Play.B1 (w0 : Option Addr) (o : Nat) (c : Int) (t16 : Bool) (w : World)   (R : Bool → World → Prop) : Prop :=
  Bm t16 (
    R true w) (
    LdI .i64 ⟨o, 0, none⟩ w fun x18 =>
    Bm (x18 == (1 : Int)) (
      LdI .i64 ⟨o, 1, none⟩ w fun x24 =>
      LdI .i64 ⟨o, 2, none⟩ w fun x26 =>
      LdS ⟨o, 4, none⟩ w fun x28 =>
      framelaw_Encode.Call w0 c x24 x26 x28 w fun r29 w1 =>
      R r29 w1) (
      Bm (x18 == (2 : Int)) (
        LdS ⟨o, 4, none⟩ w fun x36 =>
        ToBytes 5 x36 w fun b37 c37 w2 =>
        framelaw_Decode.Call w0 c (some ⟨b37, 0, none⟩) x36.size c37 w2 fun r38_0 r38_1_0 r38_1_1 r38_1_2 r38_1_3_b r38_1_3_l r38_1_3_c r38_2 w3 =>
        New (.cells #[.int .i64 (0 : Int), .int .i64 (0 : Int), .int .i64 (0 : Int), .slice none 0 0] 34) w3 fun v__ w4 =>
        Sts [.int .i64 r38_1_0, .int .i64 r38_1_1, .int .i64 r38_1_2, .slice r38_1_3_b r38_1_3_l r38_1_3_c] ⟨v__, 0, none⟩ 0 w4 fun w5 =>
        R r38_0 w5) (
        Bm (x18 == (3 : Int)) (
          framelaw_Round.Call w0 c w fun r47 w6 =>
          R r47 w6) (
          Bm (x18 == (4 : Int)) (
            LdI .i64 ⟨o, 1, none⟩ w fun x53 =>
            framelaw_Flip.Call w0 c x53 w fun r54 w7 =>
            R r54 w7) (
            Bm (x18 == (5 : Int)) (
              LdI .i64 ⟨o, 1, none⟩ w.drew fun x60 =>
              Pn w0 fun a =>
              frame_New.Call x60 w.drew fun r61 w8 =>
              (0 ≤ c ∧ c < ((2 : Nat) : Int)) ∧
              Sts [.pointer r61] (Addr.add a (c.toNat * 1)) 0 w8 fun w9 =>
              LdI .i64 ⟨o, 1, none⟩ w9.drew fun x68 =>
              Pn w0 fun a_1 =>
              framem_New.Call x68 w9.drew fun r69 w10 =>
              (0 ≤ c ∧ c < ((2 : Nat) : Int)) ∧
              Sts [.pointer r69] (Addr.add (a_1.add 2) (c.toNat * 1)) 0 w10 fun w11 =>
              R true w11) (
              Bm (x18 == (6 : Int)) (
                Pn w0 fun a_2 =>
                (0 ≤ c ∧ c < ((2 : Nat) : Int)) ∧
                LdP (Addr.add a_2 (c.toNat * 1)) w.drew fun x80 =>
                Pn w0 fun a_3 =>
                (0 ≤ c ∧ c < ((2 : Nat) : Int)) ∧
                LdP (Addr.add (a_3.add 2) (c.toNat * 1)) w.drew fun x86 =>
                framelaw_SameAddr.Call x80 x86 w.drew fun r87 w12 =>
                R r87 w12) (
                Bm (x18 == (7 : Int)) (
                  Pn w0 fun a_4 =>
                  (0 ≤ c ∧ c < ((2 : Nat) : Int)) ∧
                  LdP (Addr.add a_4 (c.toNat * 1)) w.drew fun x95 =>
                  Pn w0 fun a_5 =>
                  (0 ≤ c ∧ c < ((2 : Nat) : Int)) ∧
                  LdP (Addr.add (a_5.add 2) (c.toNat * 1)) w.drew fun x101 =>
                  framelaw_SameStats.Call x95 x101 w.drew fun r102 w13 =>
                  R r102 w13) (
                  Bm (x18 == (8 : Int)) (
                    Pn w0 fun a_6 =>
                    (0 ≤ c ∧ c < ((2 : Nat) : Int)) ∧
                    LdP (Addr.add a_6 (c.toNat * 1)) w fun x110 =>
                    frame_Link_Check.Call x110 w fun r111 w14 =>
                    R r111 w14) (
                    R true w)))))))))
theorem framelaw_Play.B1_eq (w0 : Option Addr) (o : Nat) (c : Int) (t16 : Bool) (w : World)   (R : Bool → World → Prop)  :
    (
  Bm t16 (
    R true w) (
    LdI .i64 ⟨o, 0, none⟩ w fun x18 =>
    Bm (x18 == (1 : Int)) (
      LdI .i64 ⟨o, 1, none⟩ w fun x24 =>
      LdI .i64 ⟨o, 2, none⟩ w fun x26 =>
      LdS ⟨o, 4, none⟩ w fun x28 =>
      framelaw_Encode.Call w0 c x24 x26 x28 w fun r29 w1 =>
      R r29 w1) (
      Bm (x18 == (2 : Int)) (
        LdS ⟨o, 4, none⟩ w fun x36 =>
        ToBytes 5 x36 w fun b37 c37 w2 =>
        framelaw_Decode.Call w0 c (some ⟨b37, 0, none⟩) x36.size c37 w2 fun r38_0 r38_1_0 r38_1_1 r38_1_2 r38_1_3_b r38_1_3_l r38_1_3_c r38_2 w3 =>
        New (.cells #[.int .i64 (0 : Int), .int .i64 (0 : Int), .int .i64 (0 : Int), .slice none 0 0] 34) w3 fun v__ w4 =>
        Sts [.int .i64 r38_1_0, .int .i64 r38_1_1, .int .i64 r38_1_2, .slice r38_1_3_b r38_1_3_l r38_1_3_c] ⟨v__, 0, none⟩ 0 w4 fun w5 =>
        R r38_0 w5) (
        Bm (x18 == (3 : Int)) (
          framelaw_Round.Call w0 c w fun r47 w6 =>
          R r47 w6) (
          Bm (x18 == (4 : Int)) (
            LdI .i64 ⟨o, 1, none⟩ w fun x53 =>
            framelaw_Flip.Call w0 c x53 w fun r54 w7 =>
            R r54 w7) (
            Bm (x18 == (5 : Int)) (
              LdI .i64 ⟨o, 1, none⟩ w.drew fun x60 =>
              Pn w0 fun a =>
              frame_New.Call x60 w.drew fun r61 w8 =>
              (0 ≤ c ∧ c < ((2 : Nat) : Int)) ∧
              Sts [.pointer r61] (Addr.add a (c.toNat * 1)) 0 w8 fun w9 =>
              LdI .i64 ⟨o, 1, none⟩ w9.drew fun x68 =>
              Pn w0 fun a_1 =>
              framem_New.Call x68 w9.drew fun r69 w10 =>
              (0 ≤ c ∧ c < ((2 : Nat) : Int)) ∧
              Sts [.pointer r69] (Addr.add (a_1.add 2) (c.toNat * 1)) 0 w10 fun w11 =>
              R true w11) (
              Bm (x18 == (6 : Int)) (
                Pn w0 fun a_2 =>
                (0 ≤ c ∧ c < ((2 : Nat) : Int)) ∧
                LdP (Addr.add a_2 (c.toNat * 1)) w.drew fun x80 =>
                Pn w0 fun a_3 =>
                (0 ≤ c ∧ c < ((2 : Nat) : Int)) ∧
                LdP (Addr.add (a_3.add 2) (c.toNat * 1)) w.drew fun x86 =>
                framelaw_SameAddr.Call x80 x86 w.drew fun r87 w12 =>
                R r87 w12) (
                Bm (x18 == (7 : Int)) (
                  Pn w0 fun a_4 =>
                  (0 ≤ c ∧ c < ((2 : Nat) : Int)) ∧
                  LdP (Addr.add a_4 (c.toNat * 1)) w.drew fun x95 =>
                  Pn w0 fun a_5 =>
                  (0 ≤ c ∧ c < ((2 : Nat) : Int)) ∧
                  LdP (Addr.add (a_5.add 2) (c.toNat * 1)) w.drew fun x101 =>
                  framelaw_SameStats.Call x95 x101 w.drew fun r102 w13 =>
                  R r102 w13) (
                  Bm (x18 == (8 : Int)) (
                    Pn w0 fun a_6 =>
                    (0 ≤ c ∧ c < ((2 : Nat) : Int)) ∧
                    LdP (Addr.add a_6 (c.toNat * 1)) w fun x110 =>
                    frame_Link_Check.Call x110 w fun r111 w14 =>
                    R r111 w14) (
                    R true w)))))))))) = kstep Try.prog 112 Try.f10.results.toList (Try.f10.body.getD .skip) (framelaw_Play.RV R) (kvc Try.prog 112 Try.f10.results.toList (Try.f10.body.getD .skip) (framelaw_Play.RV R) [] 2000) [(0, [1, 1, 0, 1]), (0, [1, 1, 1])] [(0, .pointer w0), (3, .pointer (some ⟨o, 0, none⟩)), (5, .int .i64 c), (16, .bool t16)] w := by kernel_rfl
theorem framelaw_Play.B1_sound {R : Bool → World → Prop}  (w0 : Option Addr) (o : Nat) (c : Int) (t16 : Bool) (w : World) (h : framelaw_Play.B1 w0 o c t16 w   R) :
    KW Try.prog 10 112 (framelaw_Play.RV R) ([(0, [1, 1, 0, 1]), (0, [1, 1, 1])].map (toItem (Try.f10.body.getD .skip))) [(0, .pointer w0), (3, .pointer (some ⟨o, 0, none⟩)), (5, .int .i64 c), (16, .bool t16)] w := by
  exact block_spec Try.func10 Try.mixed stops_nil (Eq.mp (framelaw_Play.B1_eq w0 o c t16 w   R ) h)
def framelaw_Play.B0 (w0 : Option Addr) (o_0 o_1 o_2 o_3 : Int) (o_4 o_5 : ByteArray) (w : World)   (R : Bool → World → Prop) : Prop :=
  New (.cells #[.int .i64 o_0, .int .i64 o_1, .int .i64 o_2, .int .i64 o_3, .string o_4, .string o_5] 43) w fun o_ w1 =>
  LdI .i64 ⟨o_, 3, none⟩ w1 fun x10 =>
  Bm (decide (x10 < (0 : Int))) (
    framelaw_Play.B1 w0 o_ x10 true w1  R) (
    framelaw_Play.B1 w0 o_ x10 (decide (x10 ≥ (2 : Int))) w1  R)
theorem framelaw_Play.B0_eq (w0 : Option Addr) (o_0 o_1 o_2 o_3 : Int) (o_4 o_5 : ByteArray) (w : World)   (R : Bool → World → Prop) (sB1 : Option Addr → Nat → Int → Bool → World → Prop) :
    (
  New (.cells #[.int .i64 o_0, .int .i64 o_1, .int .i64 o_2, .int .i64 o_3, .string o_4, .string o_5] 43) w fun o_ w1 =>
  LdI .i64 ⟨o_, 3, none⟩ w1 fun x10 =>
  Bm (decide (x10 < (0 : Int))) (
    sB1 w0 o_ x10 true w1) (
    sB1 w0 o_ x10 (decide (x10 ≥ (2 : Int))) w1)) = kstep Try.prog 112 Try.f10.results.toList (Try.f10.body.getD .skip) (framelaw_Play.RV R) (kvc Try.prog 112 Try.f10.results.toList (Try.f10.body.getD .skip) (framelaw_Play.RV R) [([(0, [1, 1, 0, 1]), (0, [1, 1, 1])], fun σ w => dP (slotOf σ 0) fun w0_ => dK (slotOf σ 3) fun o_ => dI .i64 (slotOf σ 5) fun c_ => dB (slotOf σ 16) fun t16_ => sB1 w0_ o_ c_ t16_ w)] 2000) [(0, [])] [(0, .pointer w0), (1, .agg #[.int .i64 o_0, .int .i64 o_1, .int .i64 o_2, .int .i64 o_3, .string o_4, .string o_5])] w := by kernel_rfl
theorem framelaw_Play.B0_sound {R : Bool → World → Prop}  (w0 : Option Addr) (o_0 o_1 o_2 o_3 : Int) (o_4 o_5 : ByteArray) (w : World) (h : framelaw_Play.B0 w0 o_0 o_1 o_2 o_3 o_4 o_5 w   R) :
    KW Try.prog 10 112 (framelaw_Play.RV R) ([(0, [])].map (toItem (Try.f10.body.getD .skip))) [(0, .pointer w0), (1, .agg #[.int .i64 o_0, .int .i64 o_1, .int .i64 o_2, .int .i64 o_3, .string o_4, .string o_5])] w := by
  exact block_spec Try.func10 Try.mixed (stops_cons (fun σ w h => by
      obtain ⟨w0_, e0, h⟩ := dP_elim h
      obtain ⟨o_, e1, h⟩ := dK_elim h
      obtain ⟨c_, e2, h⟩ := dI_elim h
      obtain ⟨t16_, e3, h⟩ := dB_elim h
      exact (framelaw_Play.B1_sound  w0_ o_ c_ t16_ w h).weaken (Sub.cons (Sub.cons (Sub.cons (Sub.cons (Sub.nil _) e3) e2) e1) e0)) stops_nil) (Eq.mp (framelaw_Play.B0_eq w0 o_0 o_1 o_2 o_3 o_4 o_5 w   R (fun w0_ o_ c_ t16_ w => framelaw_Play.B1 w0_ o_ c_ t16_ w  R)) h)
theorem framelaw_Play.sound (w0 : Option Addr) (o_0 o_1 o_2 o_3 : Int) (o_4 o_5 : ByteArray) (w : World) (R : Bool → World → Prop) (h : framelaw_Play.B0 w0 o_0 o_1 o_2 o_3 o_4 o_5 w R) : framelaw_Play.Call w0 o_0 o_1 o_2 o_3 o_4 o_5 w R := by
  have hc := calls_of_block (args := #[.pointer w0, .agg #[.int .i64 o_0, .int .i64 o_1, .int .i64 o_2, .int .i64 o_3, .string o_4, .string o_5]]) Try.func10 (body := (Try.f10.body.getD .skip)) (by kernel_rfl) (by kernel_rfl) (args_slot _) (framelaw_Play.B0_sound w0 o_0 o_1 o_2 o_3 o_4 o_5 w h)
  exact hc.mono fun e w' he => by
    obtain ⟨v, rfl, hv⟩ := he
    exact framelaw_Play.RV_elim hv
def framelaw_Untouched.L1b (w0 : Option Addr) (j : Int) (w : World)  (N1 : Option Addr → Int → World → Prop) (R : Bool → World → Prop) : Prop :=
  Pn w0 fun a =>
  LdL (a.add 9) w fun x8_b x8_l x8_c =>
  Bm (decide (j < ((x8_l : Nat) : Int))) (
    Pn w0 fun a_1 =>
    LdL (a_1.add 9) w.drew fun x16_b x16_l x16_c =>
    Pn x16_b fun a_2 =>
    (0 ≤ j ∧ j < ((x16_l : Nat) : Int)) ∧
    LdL (Addr.add a_2 (j.toNat * 1)) w.drew fun x19_b x19_l x19_c =>
    Pn w0 fun a_3 =>
    LdL (a_3.add 10) w.drew fun x23_b x23_l x23_c =>
    Pn x23_b fun a_4 =>
    (0 ≤ j ∧ j < ((x23_l : Nat) : Int)) ∧
    LdL (Addr.add a_4 (j.toNat * 1)) w.drew fun x26_b x26_l x26_c =>
    api_SameBytes.Call x19_b x19_l x19_c x26_b x26_l x26_c w.drew fun r27 w1 =>
    Bm (!r27) (
      R false w1) (
      N1 w0 (IntKind.i64.wrap (j + (1 : Int))) w1)) (
    R true w)
theorem framelaw_Untouched.L1b_eq (w0 : Option Addr) (j : Int) (w : World)  (N1 : Option Addr → Int → World → Prop) (R : Bool → World → Prop)  :
    (
  Pn w0 fun a =>
  LdL (a.add 9) w fun x8_b x8_l x8_c =>
  Bm (decide (j < ((x8_l : Nat) : Int))) (
    Pn w0 fun a_1 =>
    LdL (a_1.add 9) w.drew fun x16_b x16_l x16_c =>
    Pn x16_b fun a_2 =>
    (0 ≤ j ∧ j < ((x16_l : Nat) : Int)) ∧
    LdL (Addr.add a_2 (j.toNat * 1)) w.drew fun x19_b x19_l x19_c =>
    Pn w0 fun a_3 =>
    LdL (a_3.add 10) w.drew fun x23_b x23_l x23_c =>
    Pn x23_b fun a_4 =>
    (0 ≤ j ∧ j < ((x23_l : Nat) : Int)) ∧
    LdL (Addr.add a_4 (j.toNat * 1)) w.drew fun x26_b x26_l x26_c =>
    api_SameBytes.Call x19_b x19_l x19_c x26_b x26_l x26_c w.drew fun r27 w1 =>
    Bm (!r27) (
      R false w1) (
      N1 w0 (IntKind.i64.wrap (j + (1 : Int))) w1)) (
    R true w)) = kstep Try.prog 29 Try.f11.results.toList (Try.f11.body.getD .skip) (framelaw_Untouched.RV R) (kvc Try.prog 29 Try.f11.results.toList (Try.f11.body.getD .skip) (framelaw_Untouched.RV R) [([(0, [1, 0, 1, 0, 0]), (2, [1, 0, 1, 0, 0]), (1, [0]), (0, [1, 1])], fun σ w => dP (slotOf σ 0) fun w0_ => dI .i64 (slotOf σ 3) fun j_ => N1 w0_ j_ w)] 2000) [(0, [1, 0, 1, 0, 0]), (2, [1, 0, 1, 0, 0]), (1, [0]), (0, [1, 1])] [(0, .pointer w0), (3, .int .i64 j)] w := by kernel_rfl
theorem framelaw_Untouched.L1b_sound {R : Bool → World → Prop} {N1 : Option Addr → Int → World → Prop} (hN1 : ∀ w0 j w, N1 w0 j w → KW Try.prog 11 29 (framelaw_Untouched.RV R) ([(0, [1, 0, 1, 0, 0]), (2, [1, 0, 1, 0, 0]), (1, [0]), (0, [1, 1])].map (toItem (Try.f11.body.getD .skip))) [(0, .pointer w0), (3, .int .i64 j)] w) (w0 : Option Addr) (j : Int) (w : World) (h : framelaw_Untouched.L1b w0 j w  N1 R) :
    KW Try.prog 11 29 (framelaw_Untouched.RV R) ([(0, [1, 0, 1, 0, 0]), (2, [1, 0, 1, 0, 0]), (1, [0]), (0, [1, 1])].map (toItem (Try.f11.body.getD .skip))) [(0, .pointer w0), (3, .int .i64 j)] w := by
  exact block_spec Try.func11 Try.mixed (stops_cons (fun σ w h => by
      obtain ⟨w0_, e0, h⟩ := dP_elim h
      obtain ⟨j_, e1, h⟩ := dI_elim h
      exact (hN1 w0_ j_ w h).weaken (Sub.cons (Sub.cons (Sub.nil _) e1) e0)) stops_nil) (Eq.mp (framelaw_Untouched.L1b_eq w0 j w  N1 R ) h)
def framelaw_Untouched.L1 (w0 : Option Addr) (j : Int) (w : World)  (R : Bool → World → Prop) : Prop :=
  ∃ (I : Nat → Option Addr → Int → World → Prop) (m : Nat), I m w0 j w ∧ ∀ m w0 j w, I m w0 j w → framelaw_Untouched.L1b w0 j w  (fun w0' j' w' => ∃ m', m' < m ∧ I m' w0' j' w') R
theorem framelaw_Untouched.L1_sound {R : Bool → World → Prop}  (w0 : Option Addr) (j : Int) (w : World) (h : framelaw_Untouched.L1 w0 j w  R) :
    KW Try.prog 11 29 (framelaw_Untouched.RV R) ([(0, [1, 0, 1, 0, 0]), (2, [1, 0, 1, 0, 0]), (1, [0]), (0, [1, 1])].map (toItem (Try.f11.body.getD .skip))) [(0, .pointer w0), (3, .int .i64 j)] w := by
  obtain ⟨I, m, h0, hr⟩ := h
  refine KW.loop (fun m σ w => ∃ (w0 : Option Addr) (j : Int), σ = [(0, .pointer w0), (3, .int .i64 j)] ∧ I m w0 j w) ?_ m _ w ⟨w0, j, rfl, h0⟩
  rintro m ih σ w ⟨w0, j, rfl, hI⟩
  exact framelaw_Untouched.L1b_sound  (N1 := fun w0' j' w' => ∃ m', m' < m ∧ I m' w0' j' w') (fun w0' j' w' hx => by obtain ⟨m', hlt, hI'⟩ := hx; exact ih m' hlt _ w' ⟨w0', j', rfl, hI'⟩) w0 j w (hr m w0 j w hI)
def framelaw_Untouched.B0 (w0 : Option Addr) (w : World)   (R : Bool → World → Prop) : Prop :=
  framelaw_Untouched.L1 w0 (0 : Int) w  R
theorem framelaw_Untouched.B0_eq (w0 : Option Addr) (w : World)   (R : Bool → World → Prop) (sL1 : Option Addr → Int → World → Prop) :
    (
  sL1 w0 (0 : Int) w) = kstep Try.prog 29 Try.f11.results.toList (Try.f11.body.getD .skip) (framelaw_Untouched.RV R) (kvc Try.prog 29 Try.f11.results.toList (Try.f11.body.getD .skip) (framelaw_Untouched.RV R) [([(0, [1, 0, 1, 0, 0]), (2, [1, 0, 1, 0, 0]), (1, [0]), (0, [1, 1])], fun σ w => dP (slotOf σ 0) fun w0_ => dI .i64 (slotOf σ 3) fun j_ => sL1 w0_ j_ w)] 2000) [(0, [])] [(0, .pointer w0)] w := by kernel_rfl
theorem framelaw_Untouched.B0_sound {R : Bool → World → Prop}  (w0 : Option Addr) (w : World) (h : framelaw_Untouched.B0 w0 w   R) :
    KW Try.prog 11 29 (framelaw_Untouched.RV R) ([(0, [])].map (toItem (Try.f11.body.getD .skip))) [(0, .pointer w0)] w := by
  exact block_spec Try.func11 Try.mixed (stops_cons (fun σ w h => by
      obtain ⟨w0_, e0, h⟩ := dP_elim h
      obtain ⟨j_, e1, h⟩ := dI_elim h
      exact (framelaw_Untouched.L1_sound  w0_ j_ w h).weaken (Sub.cons (Sub.cons (Sub.nil _) e1) e0)) stops_nil) (Eq.mp (framelaw_Untouched.B0_eq w0 w   R (fun w0_ j_ w => framelaw_Untouched.L1 w0_ j_ w  R)) h)
theorem framelaw_Untouched.sound (w0 : Option Addr) (w : World) (R : Bool → World → Prop) (h : framelaw_Untouched.B0 w0 w R) : framelaw_Untouched.Call w0 w R := by
  have hc := calls_of_block (args := #[.pointer w0]) Try.func11 (body := (Try.f11.body.getD .skip)) (by kernel_rfl) (by kernel_rfl) (args_slot _) (framelaw_Untouched.B0_sound w0 w h)
  exact hc.mono fun e w' he => by
    obtain ⟨v, rfl, hv⟩ := he
    exact framelaw_Untouched.RV_elim hv
def framelaw_Alike.B0 (x m0 : Option Addr) (w : World)   (R : Bool → World → Prop) : Prop :=
  framelaw_SameAddr.Call x m0 w fun r7 w1 =>
  Bm (!r7) (
    R false w1) (
    framelaw_SameStats.Call x m0 w1 fun r11 w2 =>
    Bm (!r11) (
      R false w2) (
      frame_Link_Check.Call x w2 fun r14 w3 =>
      R r14 w3))
theorem framelaw_Alike.B0_eq (x m0 : Option Addr) (w : World)   (R : Bool → World → Prop)  :
    (
  framelaw_SameAddr.Call x m0 w fun r7 w1 =>
  Bm (!r7) (
    R false w1) (
    framelaw_SameStats.Call x m0 w1 fun r11 w2 =>
    Bm (!r11) (
      R false w2) (
      frame_Link_Check.Call x w2 fun r14 w3 =>
      R r14 w3))) = kstep Try.prog 15 Try.f12.results.toList (Try.f12.body.getD .skip) (framelaw_Alike.RV R) (kvc Try.prog 15 Try.f12.results.toList (Try.f12.body.getD .skip) (framelaw_Alike.RV R) [] 2000) [(0, [])] [(0, .pointer x), (1, .pointer m0)] w := by kernel_rfl
theorem framelaw_Alike.B0_sound {R : Bool → World → Prop}  (x m0 : Option Addr) (w : World) (h : framelaw_Alike.B0 x m0 w   R) :
    KW Try.prog 12 15 (framelaw_Alike.RV R) ([(0, [])].map (toItem (Try.f12.body.getD .skip))) [(0, .pointer x), (1, .pointer m0)] w := by
  exact block_spec Try.func12 Try.mixed stops_nil (Eq.mp (framelaw_Alike.B0_eq x m0 w   R ) h)
theorem framelaw_Alike.sound (x m0 : Option Addr) (w : World) (R : Bool → World → Prop) (h : framelaw_Alike.B0 x m0 w R) : framelaw_Alike.Call x m0 w R := by
  have hc := calls_of_block (args := #[.pointer x, .pointer m0]) Try.func12 (body := (Try.f12.body.getD .skip)) (by kernel_rfl) (by kernel_rfl) (args_slot _) (framelaw_Alike.B0_sound x m0 w h)
  exact hc.mono fun e w' he => by
    obtain ⟨v, rfl, hv⟩ := he
    exact framelaw_Alike.RV_elim hv
def framelaw_Encode.B1 (w0 : Option Addr) (c dst typ : Int) (payload : ByteArray) (r_b : Option Addr) (r_l r_c : Nat) (e : Int) (q_b : Option Addr) (q_l q_c : Nat) (t56 : Bool) (w : World)   (R : Bool → World → Prop) : Prop :=
  Bm t56 (
    R false w) (
    Bm (e == (0 : Int)) (
      Pn w0 fun a =>
      (0 ≤ c ∧ c < ((2 : Nat) : Int)) ∧
      LdP (Addr.add (a.add 2) (c.toNat * 1)) w fun x64 =>
      framem_Link_Addr.Call x64 w fun r65 w1 =>
      api_CopyBytes.Call q_b q_l q_c w1 fun r68_b r68_l r68_c w2 =>
      Pn w0 fun a_1 =>
      Sts [.slice r68_b r68_l r68_c] (a_1.add 4) 0 w2 fun w3 =>
      ToBytes 5 payload w3 fun b76 c76 w4 =>
      Pn w0 fun a_2 =>
      Sts [.int .i64 dst, .int .i64 r65, .int .i64 typ, .slice (some ⟨b76, 0, none⟩) payload.size c76] (a_2.add 5) 0 w4 fun w5 =>
      framelaw_Keep.Call w0 r_b r_l r_c w5 fun w6 =>
      R true w6) (
      R true w))
theorem framelaw_Encode.B1_eq (w0 : Option Addr) (c dst typ : Int) (payload : ByteArray) (r_b : Option Addr) (r_l r_c : Nat) (e : Int) (q_b : Option Addr) (q_l q_c : Nat) (t56 : Bool) (w : World)   (R : Bool → World → Prop)  :
    (
  Bm t56 (
    R false w) (
    Bm (e == (0 : Int)) (
      Pn w0 fun a =>
      (0 ≤ c ∧ c < ((2 : Nat) : Int)) ∧
      LdP (Addr.add (a.add 2) (c.toNat * 1)) w fun x64 =>
      framem_Link_Addr.Call x64 w fun r65 w1 =>
      api_CopyBytes.Call q_b q_l q_c w1 fun r68_b r68_l r68_c w2 =>
      Pn w0 fun a_1 =>
      Sts [.slice r68_b r68_l r68_c] (a_1.add 4) 0 w2 fun w3 =>
      ToBytes 5 payload w3 fun b76 c76 w4 =>
      Pn w0 fun a_2 =>
      Sts [.int .i64 dst, .int .i64 r65, .int .i64 typ, .slice (some ⟨b76, 0, none⟩) payload.size c76] (a_2.add 5) 0 w4 fun w5 =>
      framelaw_Keep.Call w0 r_b r_l r_c w5 fun w6 =>
      R true w6) (
      R true w))) = kstep Try.prog 83 Try.f13.results.toList (Try.f13.body.getD .skip) (framelaw_Encode.RV R) (kvc Try.prog 83 Try.f13.results.toList (Try.f13.body.getD .skip) (framelaw_Encode.RV R) [] 2000) [(0, [1, 1, 1, 1, 1, 0, 1]), (0, [1, 1, 1, 1, 1, 1])] [(0, .pointer w0), (1, .int .i64 c), (2, .int .i64 dst), (3, .int .i64 typ), (4, .string payload), (12, .slice r_b r_l r_c), (13, .int .i64 e), (14, .slice q_b q_l q_c), (56, .bool t56)] w := by kernel_rfl
theorem framelaw_Encode.B1_sound {R : Bool → World → Prop}  (w0 : Option Addr) (c dst typ : Int) (payload : ByteArray) (r_b : Option Addr) (r_l r_c : Nat) (e : Int) (q_b : Option Addr) (q_l q_c : Nat) (t56 : Bool) (w : World) (h : framelaw_Encode.B1 w0 c dst typ payload r_b r_l r_c e q_b q_l q_c t56 w   R) :
    KW Try.prog 13 83 (framelaw_Encode.RV R) ([(0, [1, 1, 1, 1, 1, 0, 1]), (0, [1, 1, 1, 1, 1, 1])].map (toItem (Try.f13.body.getD .skip))) [(0, .pointer w0), (1, .int .i64 c), (2, .int .i64 dst), (3, .int .i64 typ), (4, .string payload), (12, .slice r_b r_l r_c), (13, .int .i64 e), (14, .slice q_b q_l q_c), (56, .bool t56)] w := by
  exact block_spec Try.func13 Try.mixed stops_nil (Eq.mp (framelaw_Encode.B1_eq w0 c dst typ payload r_b r_l r_c e q_b q_l q_c t56 w   R ) h)
def framelaw_Encode.B0 (w0 : Option Addr) (c dst typ : Int) (payload : ByteArray) (w : World)   (R : Bool → World → Prop) : Prop :=
  ToBytes 5 payload w fun b18 c18 w1 =>
  Pn w0 fun a =>
  (0 ≤ c ∧ c < ((2 : Nat) : Int)) ∧
  LdP (Addr.add a (c.toNat * 1)) w1 fun x25 =>
  frame_Link_Encode.Call x25 dst typ (some ⟨b18, 0, none⟩) payload.size c18 w1 fun r29_0_b r29_0_l r29_0_c r29_1 w2 =>
  framelaw_Spoil.Call (some ⟨b18, 0, none⟩) payload.size c18 w2 fun w3 =>
  Pn w0 fun a_1 =>
  (0 ≤ c ∧ c < ((2 : Nat) : Int)) ∧
  LdP (Addr.add (a_1.add 2) (c.toNat * 1)) w3 fun x40 =>
  ToBytes 5 payload w3 fun b44 c44 w4 =>
  framem_Link_Encode.Call x40 dst typ (some ⟨b44, 0, none⟩) payload.size c44 w4 fun r45_0_b r45_0_l r45_0_c r45_1 w5 =>
  Bm (r29_1 != r45_1) (
    framelaw_Encode.B1 w0 c dst typ payload r29_0_b r29_0_l r29_0_c r29_1 r45_0_b r45_0_l r45_0_c true w5  R) (
    api_SameBytes.Call r29_0_b r29_0_l r29_0_c r45_0_b r45_0_l r45_0_c w5 fun r54 w6 =>
    framelaw_Encode.B1 w0 c dst typ payload r29_0_b r29_0_l r29_0_c r29_1 r45_0_b r45_0_l r45_0_c (!r54) w6  R)
theorem framelaw_Encode.B0_eq (w0 : Option Addr) (c dst typ : Int) (payload : ByteArray) (w : World)   (R : Bool → World → Prop) (sB1 : Option Addr → Int → Int → Int → ByteArray → Option Addr → Nat → Nat → Int → Option Addr → Nat → Nat → Bool → World → Prop) :
    (
  ToBytes 5 payload w fun b18 c18 w1 =>
  Pn w0 fun a =>
  (0 ≤ c ∧ c < ((2 : Nat) : Int)) ∧
  LdP (Addr.add a (c.toNat * 1)) w1 fun x25 =>
  frame_Link_Encode.Call x25 dst typ (some ⟨b18, 0, none⟩) payload.size c18 w1 fun r29_0_b r29_0_l r29_0_c r29_1 w2 =>
  framelaw_Spoil.Call (some ⟨b18, 0, none⟩) payload.size c18 w2 fun w3 =>
  Pn w0 fun a_1 =>
  (0 ≤ c ∧ c < ((2 : Nat) : Int)) ∧
  LdP (Addr.add (a_1.add 2) (c.toNat * 1)) w3 fun x40 =>
  ToBytes 5 payload w3 fun b44 c44 w4 =>
  framem_Link_Encode.Call x40 dst typ (some ⟨b44, 0, none⟩) payload.size c44 w4 fun r45_0_b r45_0_l r45_0_c r45_1 w5 =>
  Bm (r29_1 != r45_1) (
    sB1 w0 c dst typ payload r29_0_b r29_0_l r29_0_c r29_1 r45_0_b r45_0_l r45_0_c true w5) (
    api_SameBytes.Call r29_0_b r29_0_l r29_0_c r45_0_b r45_0_l r45_0_c w5 fun r54 w6 =>
    sB1 w0 c dst typ payload r29_0_b r29_0_l r29_0_c r29_1 r45_0_b r45_0_l r45_0_c (!r54) w6)) = kstep Try.prog 83 Try.f13.results.toList (Try.f13.body.getD .skip) (framelaw_Encode.RV R) (kvc Try.prog 83 Try.f13.results.toList (Try.f13.body.getD .skip) (framelaw_Encode.RV R) [([(0, [1, 1, 1, 1, 1, 0, 1]), (0, [1, 1, 1, 1, 1, 1])], fun σ w => dP (slotOf σ 0) fun w0_ => dI .i64 (slotOf σ 1) fun c_ => dI .i64 (slotOf σ 2) fun dst_ => dI .i64 (slotOf σ 3) fun typ_ => dS (slotOf σ 4) fun payload_ => dL (slotOf σ 12) fun r_b_ r_l_ r_c_ => dI .i64 (slotOf σ 13) fun e_ => dL (slotOf σ 14) fun q_b_ q_l_ q_c_ => dB (slotOf σ 56) fun t56_ => sB1 w0_ c_ dst_ typ_ payload_ r_b_ r_l_ r_c_ e_ q_b_ q_l_ q_c_ t56_ w)] 2000) [(0, [])] [(0, .pointer w0), (1, .int .i64 c), (2, .int .i64 dst), (3, .int .i64 typ), (4, .string payload)] w := by kernel_rfl
theorem framelaw_Encode.B0_sound {R : Bool → World → Prop}  (w0 : Option Addr) (c dst typ : Int) (payload : ByteArray) (w : World) (h : framelaw_Encode.B0 w0 c dst typ payload w   R) :
    KW Try.prog 13 83 (framelaw_Encode.RV R) ([(0, [])].map (toItem (Try.f13.body.getD .skip))) [(0, .pointer w0), (1, .int .i64 c), (2, .int .i64 dst), (3, .int .i64 typ), (4, .string payload)] w := by
  exact block_spec Try.func13 Try.mixed (stops_cons (fun σ w h => by
      obtain ⟨w0_, e0, h⟩ := dP_elim h
      obtain ⟨c_, e1, h⟩ := dI_elim h
      obtain ⟨dst_, e2, h⟩ := dI_elim h
      obtain ⟨typ_, e3, h⟩ := dI_elim h
      obtain ⟨payload_, e4, h⟩ := dS_elim h
      obtain ⟨r_b_, r_l_, r_c_, e5, h⟩ := dL_elim h
      obtain ⟨e_, e6, h⟩ := dI_elim h
      obtain ⟨q_b_, q_l_, q_c_, e7, h⟩ := dL_elim h
      obtain ⟨t56_, e8, h⟩ := dB_elim h
      exact (framelaw_Encode.B1_sound  w0_ c_ dst_ typ_ payload_ r_b_ r_l_ r_c_ e_ q_b_ q_l_ q_c_ t56_ w h).weaken (Sub.cons (Sub.cons (Sub.cons (Sub.cons (Sub.cons (Sub.cons (Sub.cons (Sub.cons (Sub.cons (Sub.nil _) e8) e7) e6) e5) e4) e3) e2) e1) e0)) stops_nil) (Eq.mp (framelaw_Encode.B0_eq w0 c dst typ payload w   R (fun w0_ c_ dst_ typ_ payload_ r_b_ r_l_ r_c_ e_ q_b_ q_l_ q_c_ t56_ w => framelaw_Encode.B1 w0_ c_ dst_ typ_ payload_ r_b_ r_l_ r_c_ e_ q_b_ q_l_ q_c_ t56_ w  R)) h)
theorem framelaw_Encode.sound (w0 : Option Addr) (c dst typ : Int) (payload : ByteArray) (w : World) (R : Bool → World → Prop) (h : framelaw_Encode.B0 w0 c dst typ payload w R) : framelaw_Encode.Call w0 c dst typ payload w R := by
  have hc := calls_of_block (args := #[.pointer w0, .int .i64 c, .int .i64 dst, .int .i64 typ, .string payload]) Try.func13 (body := (Try.f13.body.getD .skip)) (by kernel_rfl) (by kernel_rfl) (args_slot _) (framelaw_Encode.B0_sound w0 c dst typ payload w h)
  exact hc.mono fun e w' he => by
    obtain ⟨v, rfl, hv⟩ := he
    exact framelaw_Encode.RV_elim hv
end Go.Proofs.Qxb6500423a
