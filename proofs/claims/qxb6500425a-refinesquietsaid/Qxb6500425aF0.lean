import Derived.Test.Qxb6500425aSig
set_option maxRecDepth 100000
set_option linter.unusedVariables false
open Go.Vc
namespace Go.Proofs.Qxb6500425a
def iplaw_Refines.B0 (script_b : Option Addr) (script_l script_c : Nat) (w : World)   (R : Bool → World → Prop) : Prop :=
  iplaw_RefinesUpTo.Call script_b script_l script_c w fun r4 w1 =>
  R (r4 == (-1 : Int)) w1
theorem iplaw_Refines.B0_eq (script_b : Option Addr) (script_l script_c : Nat) (w : World)   (R : Bool → World → Prop)  :
    (
  iplaw_RefinesUpTo.Call script_b script_l script_c w fun r4 w1 =>
  R (r4 == (-1 : Int)) w1) = kstep Try.prog 6 Try.f3.results.toList (Try.f3.body.getD .skip) (iplaw_Refines.RV R) (kvc Try.prog 6 Try.f3.results.toList (Try.f3.body.getD .skip) (iplaw_Refines.RV R) [] 2000) [(0, [])] [(0, .slice script_b script_l script_c)] w := by kernel_rfl
theorem iplaw_Refines.B0_sound {R : Bool → World → Prop}  (script_b : Option Addr) (script_l script_c : Nat) (w : World) (h : iplaw_Refines.B0 script_b script_l script_c w   R) :
    KW Try.prog 3 6 (iplaw_Refines.RV R) ([(0, [])].map (toItem (Try.f3.body.getD .skip))) [(0, .slice script_b script_l script_c)] w := by
  exact block_spec Try.func3 Try.mixed stops_nil (Eq.mp (iplaw_Refines.B0_eq script_b script_l script_c w   R ) h)
theorem iplaw_Refines.sound (script_b : Option Addr) (script_l script_c : Nat) (w : World) (R : Bool → World → Prop) (h : iplaw_Refines.B0 script_b script_l script_c w R) : iplaw_Refines.Call script_b script_l script_c w R := by
  have hc := calls_of_block (args := #[.slice script_b script_l script_c]) Try.func3 (body := (Try.f3.body.getD .skip)) (by kernel_rfl) (by kernel_rfl) (args_slot _) (iplaw_Refines.B0_sound script_b script_l script_c w h)
  exact hc.mono fun e w' he => by
    obtain ⟨v, rfl, hv⟩ := he
    exact iplaw_Refines.RV_elim hv
def iplaw_RefinesQuiet.B0 (script_b : Option Addr) (script_l script_c : Nat) (w : World)   (R : Bool → World → Prop) : Prop :=
  iplaw_RefinesQuietUpTo.Call script_b script_l script_c w fun r4 w1 =>
  R (r4 == (-1 : Int)) w1
theorem iplaw_RefinesQuiet.B0_eq (script_b : Option Addr) (script_l script_c : Nat) (w : World)   (R : Bool → World → Prop)  :
    (
  iplaw_RefinesQuietUpTo.Call script_b script_l script_c w fun r4 w1 =>
  R (r4 == (-1 : Int)) w1) = kstep Try.prog 6 Try.f4.results.toList (Try.f4.body.getD .skip) (iplaw_RefinesQuiet.RV R) (kvc Try.prog 6 Try.f4.results.toList (Try.f4.body.getD .skip) (iplaw_RefinesQuiet.RV R) [] 2000) [(0, [])] [(0, .slice script_b script_l script_c)] w := by kernel_rfl
theorem iplaw_RefinesQuiet.B0_sound {R : Bool → World → Prop}  (script_b : Option Addr) (script_l script_c : Nat) (w : World) (h : iplaw_RefinesQuiet.B0 script_b script_l script_c w   R) :
    KW Try.prog 4 6 (iplaw_RefinesQuiet.RV R) ([(0, [])].map (toItem (Try.f4.body.getD .skip))) [(0, .slice script_b script_l script_c)] w := by
  exact block_spec Try.func4 Try.mixed stops_nil (Eq.mp (iplaw_RefinesQuiet.B0_eq script_b script_l script_c w   R ) h)
theorem iplaw_RefinesQuiet.sound (script_b : Option Addr) (script_l script_c : Nat) (w : World) (R : Bool → World → Prop) (h : iplaw_RefinesQuiet.B0 script_b script_l script_c w R) : iplaw_RefinesQuiet.Call script_b script_l script_c w R := by
  have hc := calls_of_block (args := #[.slice script_b script_l script_c]) Try.func4 (body := (Try.f4.body.getD .skip)) (by kernel_rfl) (by kernel_rfl) (args_slot _) (iplaw_RefinesQuiet.B0_sound script_b script_l script_c w h)
  exact hc.mono fun e w' he => by
    obtain ⟨v, rfl, hv⟩ := he
    exact iplaw_RefinesQuiet.RV_elim hv
def iplaw_RefinesUpTo.B0 (script_b : Option Addr) (script_l script_c : Nat) (w : World)   (R : Int → World → Prop) : Prop :=
  iplaw_walk.Call script_b script_l script_c false w fun r7_0 r7_1 w1 =>
  R r7_0 w1
theorem iplaw_RefinesUpTo.B0_eq (script_b : Option Addr) (script_l script_c : Nat) (w : World)   (R : Int → World → Prop)  :
    (
  iplaw_walk.Call script_b script_l script_c false w fun r7_0 r7_1 w1 =>
  R r7_0 w1) = kstep Try.prog 11 Try.f5.results.toList (Try.f5.body.getD .skip) (iplaw_RefinesUpTo.RV R) (kvc Try.prog 11 Try.f5.results.toList (Try.f5.body.getD .skip) (iplaw_RefinesUpTo.RV R) [] 2000) [(0, [])] [(0, .slice script_b script_l script_c)] w := by kernel_rfl
theorem iplaw_RefinesUpTo.B0_sound {R : Int → World → Prop}  (script_b : Option Addr) (script_l script_c : Nat) (w : World) (h : iplaw_RefinesUpTo.B0 script_b script_l script_c w   R) :
    KW Try.prog 5 11 (iplaw_RefinesUpTo.RV R) ([(0, [])].map (toItem (Try.f5.body.getD .skip))) [(0, .slice script_b script_l script_c)] w := by
  exact block_spec Try.func5 Try.mixed stops_nil (Eq.mp (iplaw_RefinesUpTo.B0_eq script_b script_l script_c w   R ) h)
theorem iplaw_RefinesUpTo.sound (script_b : Option Addr) (script_l script_c : Nat) (w : World) (R : Int → World → Prop) (h : iplaw_RefinesUpTo.B0 script_b script_l script_c w R) : iplaw_RefinesUpTo.Call script_b script_l script_c w R := by
  have hc := calls_of_block (args := #[.slice script_b script_l script_c]) Try.func5 (body := (Try.f5.body.getD .skip)) (by kernel_rfl) (by kernel_rfl) (args_slot _) (iplaw_RefinesUpTo.B0_sound script_b script_l script_c w h)
  exact hc.mono fun e w' he => by
    obtain ⟨v, rfl, hv⟩ := he
    exact iplaw_RefinesUpTo.RV_elim hv
def iplaw_RefinesQuietUpTo.B0 (script_b : Option Addr) (script_l script_c : Nat) (w : World)   (R : Int → World → Prop) : Prop :=
  iplaw_walk.Call script_b script_l script_c true w fun r7_0 r7_1 w1 =>
  R r7_0 w1
theorem iplaw_RefinesQuietUpTo.B0_eq (script_b : Option Addr) (script_l script_c : Nat) (w : World)   (R : Int → World → Prop)  :
    (
  iplaw_walk.Call script_b script_l script_c true w fun r7_0 r7_1 w1 =>
  R r7_0 w1) = kstep Try.prog 11 Try.f6.results.toList (Try.f6.body.getD .skip) (iplaw_RefinesQuietUpTo.RV R) (kvc Try.prog 11 Try.f6.results.toList (Try.f6.body.getD .skip) (iplaw_RefinesQuietUpTo.RV R) [] 2000) [(0, [])] [(0, .slice script_b script_l script_c)] w := by kernel_rfl
theorem iplaw_RefinesQuietUpTo.B0_sound {R : Int → World → Prop}  (script_b : Option Addr) (script_l script_c : Nat) (w : World) (h : iplaw_RefinesQuietUpTo.B0 script_b script_l script_c w   R) :
    KW Try.prog 6 11 (iplaw_RefinesQuietUpTo.RV R) ([(0, [])].map (toItem (Try.f6.body.getD .skip))) [(0, .slice script_b script_l script_c)] w := by
  exact block_spec Try.func6 Try.mixed stops_nil (Eq.mp (iplaw_RefinesQuietUpTo.B0_eq script_b script_l script_c w   R ) h)
theorem iplaw_RefinesQuietUpTo.sound (script_b : Option Addr) (script_l script_c : Nat) (w : World) (R : Int → World → Prop) (h : iplaw_RefinesQuietUpTo.B0 script_b script_l script_c w R) : iplaw_RefinesQuietUpTo.Call script_b script_l script_c w R := by
  have hc := calls_of_block (args := #[.slice script_b script_l script_c]) Try.func6 (body := (Try.f6.body.getD .skip)) (by kernel_rfl) (by kernel_rfl) (args_slot _) (iplaw_RefinesQuietUpTo.B0_sound script_b script_l script_c w h)
  exact hc.mono fun e w' he => by
    obtain ⟨v, rfl, hv⟩ := he
    exact iplaw_RefinesQuietUpTo.RV_elim hv
def iplaw_walk.B2 (script_b : Option Addr) (script_l script_c : Nat) (quiet : Bool) (w0 : Option Addr) (i : Int) (t21 : Bool) (w : World) (N1 : Option Addr → Nat → Nat → Bool → Option Addr → Int → World → Prop)  (R : Int → Int → World → Prop) : Prop :=
  Bm t21 (
    Pn script_b fun a =>
    (0 ≤ i ∧ i < ((script_l : Nat) : Int)) ∧
    LdI .i64 (Addr.add a (i.toNat * 6)) w fun x28_0 =>
    LdI .i64 ((Addr.add a (i.toNat * 6)).add 1) w fun x28_1 =>
    LdI .i64 ((Addr.add a (i.toNat * 6)).add 2) w fun x28_2 =>
    LdI .i64 ((Addr.add a (i.toNat * 6)).add 3) w fun x28_3 =>
    LdS ((Addr.add a (i.toNat * 6)).add 4) w fun x28_4 =>
    LdS ((Addr.add a (i.toNat * 6)).add 5) w fun x28_5 =>
    iplaw_World_Step.Call w0 x28_0 x28_1 x28_2 x28_3 x28_4 x28_5 quiet w fun r30 w1 =>
    Bm (!r30) (
      R i i w1) (
      N1 script_b script_l script_c quiet w0 (IntKind.i64.wrap (i + (1 : Int))) w1)) (
    Bm (decide (((script_l : Nat) : Int) < (1048576 : Int))) (
      R (-1 : Int) ((script_l : Nat) : Int) w) (
      R (-1 : Int) (1048576 : Int) w))
theorem iplaw_walk.B2_eq (script_b : Option Addr) (script_l script_c : Nat) (quiet : Bool) (w0 : Option Addr) (i : Int) (t21 : Bool) (w : World) (N1 : Option Addr → Nat → Nat → Bool → Option Addr → Int → World → Prop)  (R : Int → Int → World → Prop)  :
    (
  Bm t21 (
    Pn script_b fun a =>
    (0 ≤ i ∧ i < ((script_l : Nat) : Int)) ∧
    LdI .i64 (Addr.add a (i.toNat * 6)) w fun x28_0 =>
    LdI .i64 ((Addr.add a (i.toNat * 6)).add 1) w fun x28_1 =>
    LdI .i64 ((Addr.add a (i.toNat * 6)).add 2) w fun x28_2 =>
    LdI .i64 ((Addr.add a (i.toNat * 6)).add 3) w fun x28_3 =>
    LdS ((Addr.add a (i.toNat * 6)).add 4) w fun x28_4 =>
    LdS ((Addr.add a (i.toNat * 6)).add 5) w fun x28_5 =>
    iplaw_World_Step.Call w0 x28_0 x28_1 x28_2 x28_3 x28_4 x28_5 quiet w fun r30 w1 =>
    Bm (!r30) (
      R i i w1) (
      N1 script_b script_l script_c quiet w0 (IntKind.i64.wrap (i + (1 : Int))) w1)) (
    Bm (decide (((script_l : Nat) : Int) < (1048576 : Int))) (
      R (-1 : Int) ((script_l : Nat) : Int) w) (
      R (-1 : Int) (1048576 : Int) w))) = kstep Try.prog 39 Try.f7.results.toList (Try.f7.body.getD .skip) (iplaw_walk.RV R) (kvc Try.prog 39 Try.f7.results.toList (Try.f7.body.getD .skip) (iplaw_walk.RV R) [([(0, [1, 1, 1, 0, 1, 0, 0]), (2, [1, 1, 1, 0, 1, 0, 0]), (1, [0]), (0, [1, 1, 1, 1])], fun σ w => dL (slotOf σ 0) fun script_b_ script_l_ script_c_ => dB (slotOf σ 1) fun quiet_ => dP (slotOf σ 6) fun w0_ => dI .i64 (slotOf σ 7) fun i_ => N1 script_b_ script_l_ script_c_ quiet_ w0_ i_ w)] 2000) [(0, [1, 1, 1, 0, 1, 0, 0, 0, 1]), (0, [1, 1, 1, 0, 1, 0, 0, 1]), (2, [1, 1, 1, 0, 1, 0, 0]), (1, [0]), (0, [1, 1, 1, 1])] [(0, .slice script_b script_l script_c), (1, .bool quiet), (6, .pointer w0), (7, .int .i64 i), (21, .bool t21)] w := by kernel_rfl
theorem iplaw_walk.B2_sound {R : Int → Int → World → Prop} {N1 : Option Addr → Nat → Nat → Bool → Option Addr → Int → World → Prop} (hN1 : ∀ script_b script_l script_c quiet w0 i w, N1 script_b script_l script_c quiet w0 i w → KW Try.prog 7 39 (iplaw_walk.RV R) ([(0, [1, 1, 1, 0, 1, 0, 0]), (2, [1, 1, 1, 0, 1, 0, 0]), (1, [0]), (0, [1, 1, 1, 1])].map (toItem (Try.f7.body.getD .skip))) [(0, .slice script_b script_l script_c), (1, .bool quiet), (6, .pointer w0), (7, .int .i64 i)] w) (script_b : Option Addr) (script_l script_c : Nat) (quiet : Bool) (w0 : Option Addr) (i : Int) (t21 : Bool) (w : World) (h : iplaw_walk.B2 script_b script_l script_c quiet w0 i t21 w N1  R) :
    KW Try.prog 7 39 (iplaw_walk.RV R) ([(0, [1, 1, 1, 0, 1, 0, 0, 0, 1]), (0, [1, 1, 1, 0, 1, 0, 0, 1]), (2, [1, 1, 1, 0, 1, 0, 0]), (1, [0]), (0, [1, 1, 1, 1])].map (toItem (Try.f7.body.getD .skip))) [(0, .slice script_b script_l script_c), (1, .bool quiet), (6, .pointer w0), (7, .int .i64 i), (21, .bool t21)] w := by
  exact block_spec Try.func7 Try.mixed (stops_cons (fun σ w h => by
      obtain ⟨script_b_, script_l_, script_c_, e0, h⟩ := dL_elim h
      obtain ⟨quiet_, e1, h⟩ := dB_elim h
      obtain ⟨w0_, e2, h⟩ := dP_elim h
      obtain ⟨i_, e3, h⟩ := dI_elim h
      exact (hN1 script_b_ script_l_ script_c_ quiet_ w0_ i_ w h).weaken (Sub.cons (Sub.cons (Sub.cons (Sub.cons (Sub.nil _) e3) e2) e1) e0)) stops_nil) (Eq.mp (iplaw_walk.B2_eq script_b script_l script_c quiet w0 i t21 w N1  R ) h)
def iplaw_walk.L1b (script_b : Option Addr) (script_l script_c : Nat) (quiet : Bool) (w0 : Option Addr) (i : Int) (w : World)  (N1 : Option Addr → Nat → Nat → Bool → Option Addr → Int → World → Prop) (R : Int → Int → World → Prop) : Prop :=
  Bm (decide (i < ((script_l : Nat) : Int))) (
    iplaw_walk.B2 script_b script_l script_c quiet w0 i (decide (i < (1048576 : Int))) w N1 R) (
    iplaw_walk.B2 script_b script_l script_c quiet w0 i false w N1 R)
theorem iplaw_walk.L1b_eq (script_b : Option Addr) (script_l script_c : Nat) (quiet : Bool) (w0 : Option Addr) (i : Int) (w : World)  (N1 : Option Addr → Nat → Nat → Bool → Option Addr → Int → World → Prop) (R : Int → Int → World → Prop) (sB2 : Option Addr → Nat → Nat → Bool → Option Addr → Int → Bool → World → Prop) :
    (
  Bm (decide (i < ((script_l : Nat) : Int))) (
    sB2 script_b script_l script_c quiet w0 i (decide (i < (1048576 : Int))) w) (
    sB2 script_b script_l script_c quiet w0 i false w)) = kstep Try.prog 39 Try.f7.results.toList (Try.f7.body.getD .skip) (iplaw_walk.RV R) (kvc Try.prog 39 Try.f7.results.toList (Try.f7.body.getD .skip) (iplaw_walk.RV R) [([(0, [1, 1, 1, 0, 1, 0, 0, 0, 1]), (0, [1, 1, 1, 0, 1, 0, 0, 1]), (2, [1, 1, 1, 0, 1, 0, 0]), (1, [0]), (0, [1, 1, 1, 1])], fun σ w => dL (slotOf σ 0) fun script_b_ script_l_ script_c_ => dB (slotOf σ 1) fun quiet_ => dP (slotOf σ 6) fun w0_ => dI .i64 (slotOf σ 7) fun i_ => dB (slotOf σ 21) fun t21_ => sB2 script_b_ script_l_ script_c_ quiet_ w0_ i_ t21_ w)] 2000) [(0, [1, 1, 1, 0, 1, 0, 0]), (2, [1, 1, 1, 0, 1, 0, 0]), (1, [0]), (0, [1, 1, 1, 1])] [(0, .slice script_b script_l script_c), (1, .bool quiet), (6, .pointer w0), (7, .int .i64 i)] w := by kernel_rfl
theorem iplaw_walk.L1b_sound {R : Int → Int → World → Prop} {N1 : Option Addr → Nat → Nat → Bool → Option Addr → Int → World → Prop} (hN1 : ∀ script_b script_l script_c quiet w0 i w, N1 script_b script_l script_c quiet w0 i w → KW Try.prog 7 39 (iplaw_walk.RV R) ([(0, [1, 1, 1, 0, 1, 0, 0]), (2, [1, 1, 1, 0, 1, 0, 0]), (1, [0]), (0, [1, 1, 1, 1])].map (toItem (Try.f7.body.getD .skip))) [(0, .slice script_b script_l script_c), (1, .bool quiet), (6, .pointer w0), (7, .int .i64 i)] w) (script_b : Option Addr) (script_l script_c : Nat) (quiet : Bool) (w0 : Option Addr) (i : Int) (w : World) (h : iplaw_walk.L1b script_b script_l script_c quiet w0 i w  N1 R) :
    KW Try.prog 7 39 (iplaw_walk.RV R) ([(0, [1, 1, 1, 0, 1, 0, 0]), (2, [1, 1, 1, 0, 1, 0, 0]), (1, [0]), (0, [1, 1, 1, 1])].map (toItem (Try.f7.body.getD .skip))) [(0, .slice script_b script_l script_c), (1, .bool quiet), (6, .pointer w0), (7, .int .i64 i)] w := by
  exact block_spec Try.func7 Try.mixed (stops_cons (fun σ w h => by
      obtain ⟨script_b_, script_l_, script_c_, e0, h⟩ := dL_elim h
      obtain ⟨quiet_, e1, h⟩ := dB_elim h
      obtain ⟨w0_, e2, h⟩ := dP_elim h
      obtain ⟨i_, e3, h⟩ := dI_elim h
      obtain ⟨t21_, e4, h⟩ := dB_elim h
      exact (iplaw_walk.B2_sound hN1 script_b_ script_l_ script_c_ quiet_ w0_ i_ t21_ w h).weaken (Sub.cons (Sub.cons (Sub.cons (Sub.cons (Sub.cons (Sub.nil _) e4) e3) e2) e1) e0)) stops_nil) (Eq.mp (iplaw_walk.L1b_eq script_b script_l script_c quiet w0 i w  N1 R (fun script_b_ script_l_ script_c_ quiet_ w0_ i_ t21_ w => iplaw_walk.B2 script_b_ script_l_ script_c_ quiet_ w0_ i_ t21_ w N1 R)) h)
def iplaw_walk.L1 (script_b : Option Addr) (script_l script_c : Nat) (quiet : Bool) (w0 : Option Addr) (i : Int) (w : World)  (R : Int → Int → World → Prop) : Prop :=
  ∃ (I : Nat → Option Addr → Nat → Nat → Bool → Option Addr → Int → World → Prop) (m : Nat), I m script_b script_l script_c quiet w0 i w ∧ ∀ m script_b script_l script_c quiet w0 i w, I m script_b script_l script_c quiet w0 i w → iplaw_walk.L1b script_b script_l script_c quiet w0 i w  (fun script_b' script_l' script_c' quiet' w0' i' w' => ∃ m', m' < m ∧ I m' script_b' script_l' script_c' quiet' w0' i' w') R
theorem iplaw_walk.L1_sound {R : Int → Int → World → Prop}  (script_b : Option Addr) (script_l script_c : Nat) (quiet : Bool) (w0 : Option Addr) (i : Int) (w : World) (h : iplaw_walk.L1 script_b script_l script_c quiet w0 i w  R) :
    KW Try.prog 7 39 (iplaw_walk.RV R) ([(0, [1, 1, 1, 0, 1, 0, 0]), (2, [1, 1, 1, 0, 1, 0, 0]), (1, [0]), (0, [1, 1, 1, 1])].map (toItem (Try.f7.body.getD .skip))) [(0, .slice script_b script_l script_c), (1, .bool quiet), (6, .pointer w0), (7, .int .i64 i)] w := by
  obtain ⟨I, m, h0, hr⟩ := h
  refine KW.loop (fun m σ w => ∃ (script_b : Option Addr) (script_l script_c : Nat) (quiet : Bool) (w0 : Option Addr) (i : Int), σ = [(0, .slice script_b script_l script_c), (1, .bool quiet), (6, .pointer w0), (7, .int .i64 i)] ∧ I m script_b script_l script_c quiet w0 i w) ?_ m _ w ⟨script_b, script_l, script_c, quiet, w0, i, rfl, h0⟩
  rintro m ih σ w ⟨script_b, script_l, script_c, quiet, w0, i, rfl, hI⟩
  exact iplaw_walk.L1b_sound  (N1 := fun script_b' script_l' script_c' quiet' w0' i' w' => ∃ m', m' < m ∧ I m' script_b' script_l' script_c' quiet' w0' i' w') (fun script_b' script_l' script_c' quiet' w0' i' w' hx => by obtain ⟨m', hlt, hI'⟩ := hx; exact ih m' hlt _ w' ⟨script_b', script_l', script_c', quiet', w0', i', rfl, hI'⟩) script_b script_l script_c quiet w0 i w (hr m script_b script_l script_c quiet w0 i w hI)
def iplaw_walk.B1 (script_b : Option Addr) (script_l script_c : Nat) (quiet : Bool) (w0 : Option Addr) (w : World)   (R : Int → Int → World → Prop) : Prop :=
  iplaw_walk.L1 script_b script_l script_c quiet w0 (0 : Int) w  R
theorem iplaw_walk.B1_eq (script_b : Option Addr) (script_l script_c : Nat) (quiet : Bool) (w0 : Option Addr) (w : World)   (R : Int → Int → World → Prop) (sL1 : Option Addr → Nat → Nat → Bool → Option Addr → Int → World → Prop) :
    (
  sL1 script_b script_l script_c quiet w0 (0 : Int) w) = kstep Try.prog 39 Try.f7.results.toList (Try.f7.body.getD .skip) (iplaw_walk.RV R) (kvc Try.prog 39 Try.f7.results.toList (Try.f7.body.getD .skip) (iplaw_walk.RV R) [([(0, [1, 1, 1, 0, 1, 0, 0]), (2, [1, 1, 1, 0, 1, 0, 0]), (1, [0]), (0, [1, 1, 1, 1])], fun σ w => dL (slotOf σ 0) fun script_b_ script_l_ script_c_ => dB (slotOf σ 1) fun quiet_ => dP (slotOf σ 6) fun w0_ => dI .i64 (slotOf σ 7) fun i_ => sL1 script_b_ script_l_ script_c_ quiet_ w0_ i_ w)] 2000) [(0, [1, 1, 1])] [(0, .slice script_b script_l script_c), (1, .bool quiet), (6, .pointer w0)] w := by kernel_rfl
theorem iplaw_walk.B1_sound {R : Int → Int → World → Prop}  (script_b : Option Addr) (script_l script_c : Nat) (quiet : Bool) (w0 : Option Addr) (w : World) (h : iplaw_walk.B1 script_b script_l script_c quiet w0 w   R) :
    KW Try.prog 7 39 (iplaw_walk.RV R) ([(0, [1, 1, 1])].map (toItem (Try.f7.body.getD .skip))) [(0, .slice script_b script_l script_c), (1, .bool quiet), (6, .pointer w0)] w := by
  exact block_spec Try.func7 Try.mixed (stops_cons (fun σ w h => by
      obtain ⟨script_b_, script_l_, script_c_, e0, h⟩ := dL_elim h
      obtain ⟨quiet_, e1, h⟩ := dB_elim h
      obtain ⟨w0_, e2, h⟩ := dP_elim h
      obtain ⟨i_, e3, h⟩ := dI_elim h
      exact (iplaw_walk.L1_sound  script_b_ script_l_ script_c_ quiet_ w0_ i_ w h).weaken (Sub.cons (Sub.cons (Sub.cons (Sub.cons (Sub.nil _) e3) e2) e1) e0)) stops_nil) (Eq.mp (iplaw_walk.B1_eq script_b script_l script_c quiet w0 w   R (fun script_b_ script_l_ script_c_ quiet_ w0_ i_ w => iplaw_walk.L1 script_b_ script_l_ script_c_ quiet_ w0_ i_ w  R)) h)
def iplaw_walk.B0 (script_b : Option Addr) (script_l script_c : Nat) (quiet : Bool) (w : World)   (R : Int → Int → World → Prop) : Prop :=
  iplaw_NewWorld.Call  w fun r8 w1 =>
  Bm (!quiet) (
    iplaw_World_Both.Call r8 w1 fun r12 w2 =>
    Bm (!r12) (
      R (0 : Int) (0 : Int) w2) (
      iplaw_walk.B1 script_b script_l script_c quiet r8 w2  R)) (
    iplaw_walk.B1 script_b script_l script_c quiet r8 w1  R)
theorem iplaw_walk.B0_eq (script_b : Option Addr) (script_l script_c : Nat) (quiet : Bool) (w : World)   (R : Int → Int → World → Prop) (sB1 : Option Addr → Nat → Nat → Bool → Option Addr → World → Prop) :
    (
  iplaw_NewWorld.Call  w fun r8 w1 =>
  Bm (!quiet) (
    iplaw_World_Both.Call r8 w1 fun r12 w2 =>
    Bm (!r12) (
      R (0 : Int) (0 : Int) w2) (
      sB1 script_b script_l script_c quiet r8 w2)) (
    sB1 script_b script_l script_c quiet r8 w1)) = kstep Try.prog 39 Try.f7.results.toList (Try.f7.body.getD .skip) (iplaw_walk.RV R) (kvc Try.prog 39 Try.f7.results.toList (Try.f7.body.getD .skip) (iplaw_walk.RV R) [([(0, [1, 1, 1])], fun σ w => dL (slotOf σ 0) fun script_b_ script_l_ script_c_ => dB (slotOf σ 1) fun quiet_ => dP (slotOf σ 6) fun w0_ => sB1 script_b_ script_l_ script_c_ quiet_ w0_ w)] 2000) [(0, [])] [(0, .slice script_b script_l script_c), (1, .bool quiet)] w := by kernel_rfl
theorem iplaw_walk.B0_sound {R : Int → Int → World → Prop}  (script_b : Option Addr) (script_l script_c : Nat) (quiet : Bool) (w : World) (h : iplaw_walk.B0 script_b script_l script_c quiet w   R) :
    KW Try.prog 7 39 (iplaw_walk.RV R) ([(0, [])].map (toItem (Try.f7.body.getD .skip))) [(0, .slice script_b script_l script_c), (1, .bool quiet)] w := by
  exact block_spec Try.func7 Try.mixed (stops_cons (fun σ w h => by
      obtain ⟨script_b_, script_l_, script_c_, e0, h⟩ := dL_elim h
      obtain ⟨quiet_, e1, h⟩ := dB_elim h
      obtain ⟨w0_, e2, h⟩ := dP_elim h
      exact (iplaw_walk.B1_sound  script_b_ script_l_ script_c_ quiet_ w0_ w h).weaken (Sub.cons (Sub.cons (Sub.cons (Sub.nil _) e2) e1) e0)) stops_nil) (Eq.mp (iplaw_walk.B0_eq script_b script_l script_c quiet w   R (fun script_b_ script_l_ script_c_ quiet_ w0_ w => iplaw_walk.B1 script_b_ script_l_ script_c_ quiet_ w0_ w  R)) h)
theorem iplaw_walk.sound (script_b : Option Addr) (script_l script_c : Nat) (quiet : Bool) (w : World) (R : Int → Int → World → Prop) (h : iplaw_walk.B0 script_b script_l script_c quiet w R) : iplaw_walk.Call script_b script_l script_c quiet w R := by
  have hc := calls_of_block (args := #[.slice script_b script_l script_c, .bool quiet]) Try.func7 (body := (Try.f7.body.getD .skip)) (by kernel_rfl) (by kernel_rfl) (args_slot _) (iplaw_walk.B0_sound script_b script_l script_c quiet w h)
  exact hc.mono fun e w' he => by
    obtain ⟨v, rfl, hv⟩ := he
    exact iplaw_walk.RV_elim hv
def iplaw_NewWorld.L1b (w0 : Nat) (c : Int) (w : World)  (N1 : Nat → Int → World → Prop) (R : Option Addr → World → Prop) : Prop :=
  Bm (decide (c < (2 : Int))) (
    ip_New.Call (IntKind.i64.wrap (c + (1 : Int))) w.drew fun r13 w1 =>
    (0 ≤ c ∧ c < ((2 : Nat) : Int)) ∧
    Sts [.pointer r13] (Addr.add ⟨w0, 0, none⟩ (c.toNat * 1)) 0 w1 fun w2 =>
    ipm_New.Call (IntKind.i64.wrap (c + (1 : Int))) w2.drew fun r21 w3 =>
    (0 ≤ c ∧ c < ((2 : Nat) : Int)) ∧
    Sts [.pointer r21] (Addr.add ⟨w0, 2, none⟩ (c.toNat * 1)) 0 w3 fun w4 =>
    N1 w0 (IntKind.i64.wrap (c + (1 : Int))) w4) (
    R (some ⟨w0, 0, none⟩) w)
theorem iplaw_NewWorld.L1b_eq (w0 : Nat) (c : Int) (w : World)  (N1 : Nat → Int → World → Prop) (R : Option Addr → World → Prop)  :
    (
  Bm (decide (c < (2 : Int))) (
    ip_New.Call (IntKind.i64.wrap (c + (1 : Int))) w.drew fun r13 w1 =>
    (0 ≤ c ∧ c < ((2 : Nat) : Int)) ∧
    Sts [.pointer r13] (Addr.add ⟨w0, 0, none⟩ (c.toNat * 1)) 0 w1 fun w2 =>
    ipm_New.Call (IntKind.i64.wrap (c + (1 : Int))) w2.drew fun r21 w3 =>
    (0 ≤ c ∧ c < ((2 : Nat) : Int)) ∧
    Sts [.pointer r21] (Addr.add ⟨w0, 2, none⟩ (c.toNat * 1)) 0 w3 fun w4 =>
    N1 w0 (IntKind.i64.wrap (c + (1 : Int))) w4) (
    R (some ⟨w0, 0, none⟩) w)) = kstep Try.prog 26 Try.f8.results.toList (Try.f8.body.getD .skip) (iplaw_NewWorld.RV R) (kvc Try.prog 26 Try.f8.results.toList (Try.f8.body.getD .skip) (iplaw_NewWorld.RV R) [([(0, [1, 1, 0, 1, 0, 0]), (2, [1, 1, 0, 1, 0, 0]), (1, [0]), (0, [1, 1, 1])], fun σ w => dK (slotOf σ 1) fun w0_ => dI .i64 (slotOf σ 2) fun c_ => N1 w0_ c_ w)] 2000) [(0, [1, 1, 0, 1, 0, 0]), (2, [1, 1, 0, 1, 0, 0]), (1, [0]), (0, [1, 1, 1])] [(1, .pointer (some ⟨w0, 0, none⟩)), (2, .int .i64 c)] w := by kernel_rfl
theorem iplaw_NewWorld.L1b_sound {R : Option Addr → World → Prop} {N1 : Nat → Int → World → Prop} (hN1 : ∀ w0 c w, N1 w0 c w → KW Try.prog 8 26 (iplaw_NewWorld.RV R) ([(0, [1, 1, 0, 1, 0, 0]), (2, [1, 1, 0, 1, 0, 0]), (1, [0]), (0, [1, 1, 1])].map (toItem (Try.f8.body.getD .skip))) [(1, .pointer (some ⟨w0, 0, none⟩)), (2, .int .i64 c)] w) (w0 : Nat) (c : Int) (w : World) (h : iplaw_NewWorld.L1b w0 c w  N1 R) :
    KW Try.prog 8 26 (iplaw_NewWorld.RV R) ([(0, [1, 1, 0, 1, 0, 0]), (2, [1, 1, 0, 1, 0, 0]), (1, [0]), (0, [1, 1, 1])].map (toItem (Try.f8.body.getD .skip))) [(1, .pointer (some ⟨w0, 0, none⟩)), (2, .int .i64 c)] w := by
  exact block_spec Try.func8 Try.mixed (stops_cons (fun σ w h => by
      obtain ⟨w0_, e0, h⟩ := dK_elim h
      obtain ⟨c_, e1, h⟩ := dI_elim h
      exact (hN1 w0_ c_ w h).weaken (Sub.cons (Sub.cons (Sub.nil _) e1) e0)) stops_nil) (Eq.mp (iplaw_NewWorld.L1b_eq w0 c w  N1 R ) h)
def iplaw_NewWorld.L1 (w0 : Nat) (c : Int) (w : World)  (R : Option Addr → World → Prop) : Prop :=
  ∃ (I : Nat → Nat → Int → World → Prop) (m : Nat), I m w0 c w ∧ ∀ m w0 c w, I m w0 c w → iplaw_NewWorld.L1b w0 c w  (fun w0' c' w' => ∃ m', m' < m ∧ I m' w0' c' w') R
theorem iplaw_NewWorld.L1_sound {R : Option Addr → World → Prop}  (w0 : Nat) (c : Int) (w : World) (h : iplaw_NewWorld.L1 w0 c w  R) :
    KW Try.prog 8 26 (iplaw_NewWorld.RV R) ([(0, [1, 1, 0, 1, 0, 0]), (2, [1, 1, 0, 1, 0, 0]), (1, [0]), (0, [1, 1, 1])].map (toItem (Try.f8.body.getD .skip))) [(1, .pointer (some ⟨w0, 0, none⟩)), (2, .int .i64 c)] w := by
  obtain ⟨I, m, h0, hr⟩ := h
  refine KW.loop (fun m σ w => ∃ (w0 : Nat) (c : Int), σ = [(1, .pointer (some ⟨w0, 0, none⟩)), (2, .int .i64 c)] ∧ I m w0 c w) ?_ m _ w ⟨w0, c, rfl, h0⟩
  rintro m ih σ w ⟨w0, c, rfl, hI⟩
  exact iplaw_NewWorld.L1b_sound  (N1 := fun w0' c' w' => ∃ m', m' < m ∧ I m' w0' c' w') (fun w0' c' w' hx => by obtain ⟨m', hlt, hI'⟩ := hx; exact ih m' hlt _ w' ⟨w0', c', rfl, hI'⟩) w0 c w (hr m w0 c w hI)
def iplaw_NewWorld.B0  (w : World)   (R : Option Addr → World → Prop) : Prop :=
  New (.cells #[.pointer none, .pointer none, .pointer none, .pointer none, .slice none 0 0, .slice none 0 0, .slice none 0 0, .slice none 0 0, .slice none 0 0] 43) w fun b4 w1 =>
  iplaw_NewWorld.L1 b4 (0 : Int) w1  R
theorem iplaw_NewWorld.B0_eq  (w : World)   (R : Option Addr → World → Prop) (sL1 : Nat → Int → World → Prop) :
    (
  New (.cells #[.pointer none, .pointer none, .pointer none, .pointer none, .slice none 0 0, .slice none 0 0, .slice none 0 0, .slice none 0 0, .slice none 0 0] 43) w fun b4 w1 =>
  sL1 b4 (0 : Int) w1) = kstep Try.prog 26 Try.f8.results.toList (Try.f8.body.getD .skip) (iplaw_NewWorld.RV R) (kvc Try.prog 26 Try.f8.results.toList (Try.f8.body.getD .skip) (iplaw_NewWorld.RV R) [([(0, [1, 1, 0, 1, 0, 0]), (2, [1, 1, 0, 1, 0, 0]), (1, [0]), (0, [1, 1, 1])], fun σ w => dK (slotOf σ 1) fun w0_ => dI .i64 (slotOf σ 2) fun c_ => sL1 w0_ c_ w)] 2000) [(0, [])] [] w := by kernel_rfl
theorem iplaw_NewWorld.B0_sound {R : Option Addr → World → Prop}   (w : World) (h : iplaw_NewWorld.B0  w   R) :
    KW Try.prog 8 26 (iplaw_NewWorld.RV R) ([(0, [])].map (toItem (Try.f8.body.getD .skip))) [] w := by
  exact block_spec Try.func8 Try.mixed (stops_cons (fun σ w h => by
      obtain ⟨w0_, e0, h⟩ := dK_elim h
      obtain ⟨c_, e1, h⟩ := dI_elim h
      exact (iplaw_NewWorld.L1_sound  w0_ c_ w h).weaken (Sub.cons (Sub.cons (Sub.nil _) e1) e0)) stops_nil) (Eq.mp (iplaw_NewWorld.B0_eq  w   R (fun w0_ c_ w => iplaw_NewWorld.L1 w0_ c_ w  R)) h)
theorem iplaw_NewWorld.sound  (w : World) (R : Option Addr → World → Prop) (h : iplaw_NewWorld.B0  w R) : iplaw_NewWorld.Call  w R := by
  have hc := calls_of_block (args := #[]) Try.func8 (body := (Try.f8.body.getD .skip)) (by kernel_rfl) (by kernel_rfl) (args_slot _) (iplaw_NewWorld.B0_sound  w h)
  exact hc.mono fun e w' he => by
    obtain ⟨v, rfl, hv⟩ := he
    exact iplaw_NewWorld.RV_elim hv
def iplaw_World_Both.B0 (w0 : Option Addr) (w : World)   (R : Bool → World → Prop) : Prop :=
  Pn w0 fun a =>
  (0 ≤ (0 : Int) ∧ (0 : Int) < ((2 : Nat) : Int)) ∧
  LdP a w.drew fun x7 =>
  Pn w0 fun a_1 =>
  (0 ≤ (0 : Int) ∧ (0 : Int) < ((2 : Nat) : Int)) ∧
  LdP (a_1.add 2) w.drew fun x12 =>
  iplaw_Alike.Call x7 x12 w.drew fun r13 w1 =>
  Bm (!r13) (
    R false w1) (
    Pn w0 fun a_2 =>
    (0 ≤ (1 : Int) ∧ (1 : Int) < ((2 : Nat) : Int)) ∧
    LdP (a_2.add 1) w1.drew fun x19 =>
    Pn w0 fun a_3 =>
    (0 ≤ (1 : Int) ∧ (1 : Int) < ((2 : Nat) : Int)) ∧
    LdP ((a_3.add 2).add 1) w1.drew fun x24 =>
    iplaw_Alike.Call x19 x24 w1.drew fun r25 w2 =>
    R r25 w2)
theorem iplaw_World_Both.B0_eq (w0 : Option Addr) (w : World)   (R : Bool → World → Prop)  :
    (
  Pn w0 fun a =>
  (0 ≤ (0 : Int) ∧ (0 : Int) < ((2 : Nat) : Int)) ∧
  LdP a w.drew fun x7 =>
  Pn w0 fun a_1 =>
  (0 ≤ (0 : Int) ∧ (0 : Int) < ((2 : Nat) : Int)) ∧
  LdP (a_1.add 2) w.drew fun x12 =>
  iplaw_Alike.Call x7 x12 w.drew fun r13 w1 =>
  Bm (!r13) (
    R false w1) (
    Pn w0 fun a_2 =>
    (0 ≤ (1 : Int) ∧ (1 : Int) < ((2 : Nat) : Int)) ∧
    LdP (a_2.add 1) w1.drew fun x19 =>
    Pn w0 fun a_3 =>
    (0 ≤ (1 : Int) ∧ (1 : Int) < ((2 : Nat) : Int)) ∧
    LdP ((a_3.add 2).add 1) w1.drew fun x24 =>
    iplaw_Alike.Call x19 x24 w1.drew fun r25 w2 =>
    R r25 w2)) = kstep Try.prog 26 Try.f9.results.toList (Try.f9.body.getD .skip) (iplaw_World_Both.RV R) (kvc Try.prog 26 Try.f9.results.toList (Try.f9.body.getD .skip) (iplaw_World_Both.RV R) [] 2000) [(0, [])] [(0, .pointer w0)] w := by kernel_rfl
theorem iplaw_World_Both.B0_sound {R : Bool → World → Prop}  (w0 : Option Addr) (w : World) (h : iplaw_World_Both.B0 w0 w   R) :
    KW Try.prog 9 26 (iplaw_World_Both.RV R) ([(0, [])].map (toItem (Try.f9.body.getD .skip))) [(0, .pointer w0)] w := by
  exact block_spec Try.func9 Try.mixed stops_nil (Eq.mp (iplaw_World_Both.B0_eq w0 w   R ) h)
theorem iplaw_World_Both.sound (w0 : Option Addr) (w : World) (R : Bool → World → Prop) (h : iplaw_World_Both.B0 w0 w R) : iplaw_World_Both.Call w0 w R := by
  have hc := calls_of_block (args := #[.pointer w0]) Try.func9 (body := (Try.f9.body.getD .skip)) (by kernel_rfl) (by kernel_rfl) (args_slot _) (iplaw_World_Both.B0_sound w0 w h)
  exact hc.mono fun e w' he => by
    obtain ⟨v, rfl, hv⟩ := he
    exact iplaw_World_Both.RV_elim hv
def iplaw_World_Step.B2 (w0 : Option Addr) (quiet : Bool) (w : World)   (R : Bool → World → Prop) : Prop :=
  iplaw_World_Untouched.Call w0 w fun r22 w1 =>
  Bm (!r22) (
    R false w1) (
    Bm quiet (
      R true w1) (
      iplaw_World_Both.Call w0 w1 fun r26 w2 =>
      R r26 w2))
theorem iplaw_World_Step.B2_eq (w0 : Option Addr) (quiet : Bool) (w : World)   (R : Bool → World → Prop)  :
    (
  iplaw_World_Untouched.Call w0 w fun r22 w1 =>
  Bm (!r22) (
    R false w1) (
    Bm quiet (
      R true w1) (
      iplaw_World_Both.Call w0 w1 fun r26 w2 =>
      R r26 w2))) = kstep Try.prog 27 Try.f10.results.toList (Try.f10.body.getD .skip) (iplaw_World_Step.RV R) (kvc Try.prog 27 Try.f10.results.toList (Try.f10.body.getD .skip) (iplaw_World_Step.RV R) [] 2000) [(0, [1, 1])] [(0, .pointer w0), (2, .bool quiet)] w := by kernel_rfl
theorem iplaw_World_Step.B2_sound {R : Bool → World → Prop}  (w0 : Option Addr) (quiet : Bool) (w : World) (h : iplaw_World_Step.B2 w0 quiet w   R) :
    KW Try.prog 10 27 (iplaw_World_Step.RV R) ([(0, [1, 1])].map (toItem (Try.f10.body.getD .skip))) [(0, .pointer w0), (2, .bool quiet)] w := by
  exact block_spec Try.func10 Try.mixed stops_nil (Eq.mp (iplaw_World_Step.B2_eq w0 quiet w   R ) h)
def iplaw_World_Step.B1 (w0 : Option Addr) (quiet : Bool) (o : Nat) (t14 : Bool) (w : World)   (R : Bool → World → Prop) : Prop :=
  Bm t14 (
    LdI .i64 ⟨o, 0, none⟩ w fun x16_0 =>
    LdI .i64 ⟨o, 1, none⟩ w fun x16_1 =>
    LdI .i64 ⟨o, 2, none⟩ w fun x16_2 =>
    LdI .i64 ⟨o, 3, none⟩ w fun x16_3 =>
    LdS ⟨o, 4, none⟩ w fun x16_4 =>
    LdS ⟨o, 5, none⟩ w fun x16_5 =>
    LdI .i64 ⟨o, 3, none⟩ w fun x18 =>
    iplaw_World_Play.Call w0 x16_0 x16_1 x16_2 x16_3 x16_4 x16_5 x18 w fun r19 w1 =>
    Bm (!r19) (
      R false w1) (
      iplaw_World_Step.B2 w0 quiet w1  R)) (
    iplaw_World_Step.B2 w0 quiet w  R)
theorem iplaw_World_Step.B1_eq (w0 : Option Addr) (quiet : Bool) (o : Nat) (t14 : Bool) (w : World)   (R : Bool → World → Prop) (sB2 : Option Addr → Bool → World → Prop) :
    (
  Bm t14 (
    LdI .i64 ⟨o, 0, none⟩ w fun x16_0 =>
    LdI .i64 ⟨o, 1, none⟩ w fun x16_1 =>
    LdI .i64 ⟨o, 2, none⟩ w fun x16_2 =>
    LdI .i64 ⟨o, 3, none⟩ w fun x16_3 =>
    LdS ⟨o, 4, none⟩ w fun x16_4 =>
    LdS ⟨o, 5, none⟩ w fun x16_5 =>
    LdI .i64 ⟨o, 3, none⟩ w fun x18 =>
    iplaw_World_Play.Call w0 x16_0 x16_1 x16_2 x16_3 x16_4 x16_5 x18 w fun r19 w1 =>
    Bm (!r19) (
      R false w1) (
      sB2 w0 quiet w1)) (
    sB2 w0 quiet w)) = kstep Try.prog 27 Try.f10.results.toList (Try.f10.body.getD .skip) (iplaw_World_Step.RV R) (kvc Try.prog 27 Try.f10.results.toList (Try.f10.body.getD .skip) (iplaw_World_Step.RV R) [([(0, [1, 1])], fun σ w => dP (slotOf σ 0) fun w0_ => dB (slotOf σ 2) fun quiet_ => sB2 w0_ quiet_ w)] 2000) [(0, [1, 0, 1]), (0, [1, 1])] [(0, .pointer w0), (2, .bool quiet), (4, .pointer (some ⟨o, 0, none⟩)), (14, .bool t14)] w := by kernel_rfl
theorem iplaw_World_Step.B1_sound {R : Bool → World → Prop}  (w0 : Option Addr) (quiet : Bool) (o : Nat) (t14 : Bool) (w : World) (h : iplaw_World_Step.B1 w0 quiet o t14 w   R) :
    KW Try.prog 10 27 (iplaw_World_Step.RV R) ([(0, [1, 0, 1]), (0, [1, 1])].map (toItem (Try.f10.body.getD .skip))) [(0, .pointer w0), (2, .bool quiet), (4, .pointer (some ⟨o, 0, none⟩)), (14, .bool t14)] w := by
  exact block_spec Try.func10 Try.mixed (stops_cons (fun σ w h => by
      obtain ⟨w0_, e0, h⟩ := dP_elim h
      obtain ⟨quiet_, e1, h⟩ := dB_elim h
      exact (iplaw_World_Step.B2_sound  w0_ quiet_ w h).weaken (Sub.cons (Sub.cons (Sub.nil _) e1) e0)) stops_nil) (Eq.mp (iplaw_World_Step.B1_eq w0 quiet o t14 w   R (fun w0_ quiet_ w => iplaw_World_Step.B2 w0_ quiet_ w  R)) h)
def iplaw_World_Step.B0 (w0 : Option Addr) (o_0 o_1 o_2 o_3 : Int) (o_4 o_5 : ByteArray) (quiet : Bool) (w : World)   (R : Bool → World → Prop) : Prop :=
  New (.cells #[.int .i64 o_0, .int .i64 o_1, .int .i64 o_2, .int .i64 o_3, .string o_4, .string o_5] 32) w fun o_ w1 =>
  LdI .i64 ⟨o_, 3, none⟩ w1 fun x8 =>
  Bm (x8 == (0 : Int)) (
    iplaw_World_Step.B1 w0 quiet o_ true w1  R) (
    LdI .i64 ⟨o_, 3, none⟩ w1 fun x12 =>
    iplaw_World_Step.B1 w0 quiet o_ (x12 == (1 : Int)) w1  R)
theorem iplaw_World_Step.B0_eq (w0 : Option Addr) (o_0 o_1 o_2 o_3 : Int) (o_4 o_5 : ByteArray) (quiet : Bool) (w : World)   (R : Bool → World → Prop) (sB1 : Option Addr → Bool → Nat → Bool → World → Prop) :
    (
  New (.cells #[.int .i64 o_0, .int .i64 o_1, .int .i64 o_2, .int .i64 o_3, .string o_4, .string o_5] 32) w fun o_ w1 =>
  LdI .i64 ⟨o_, 3, none⟩ w1 fun x8 =>
  Bm (x8 == (0 : Int)) (
    sB1 w0 quiet o_ true w1) (
    LdI .i64 ⟨o_, 3, none⟩ w1 fun x12 =>
    sB1 w0 quiet o_ (x12 == (1 : Int)) w1)) = kstep Try.prog 27 Try.f10.results.toList (Try.f10.body.getD .skip) (iplaw_World_Step.RV R) (kvc Try.prog 27 Try.f10.results.toList (Try.f10.body.getD .skip) (iplaw_World_Step.RV R) [([(0, [1, 0, 1]), (0, [1, 1])], fun σ w => dP (slotOf σ 0) fun w0_ => dB (slotOf σ 2) fun quiet_ => dK (slotOf σ 4) fun o_ => dB (slotOf σ 14) fun t14_ => sB1 w0_ quiet_ o_ t14_ w)] 2000) [(0, [])] [(0, .pointer w0), (1, .agg #[.int .i64 o_0, .int .i64 o_1, .int .i64 o_2, .int .i64 o_3, .string o_4, .string o_5]), (2, .bool quiet)] w := by kernel_rfl
theorem iplaw_World_Step.B0_sound {R : Bool → World → Prop}  (w0 : Option Addr) (o_0 o_1 o_2 o_3 : Int) (o_4 o_5 : ByteArray) (quiet : Bool) (w : World) (h : iplaw_World_Step.B0 w0 o_0 o_1 o_2 o_3 o_4 o_5 quiet w   R) :
    KW Try.prog 10 27 (iplaw_World_Step.RV R) ([(0, [])].map (toItem (Try.f10.body.getD .skip))) [(0, .pointer w0), (1, .agg #[.int .i64 o_0, .int .i64 o_1, .int .i64 o_2, .int .i64 o_3, .string o_4, .string o_5]), (2, .bool quiet)] w := by
  exact block_spec Try.func10 Try.mixed (stops_cons (fun σ w h => by
      obtain ⟨w0_, e0, h⟩ := dP_elim h
      obtain ⟨quiet_, e1, h⟩ := dB_elim h
      obtain ⟨o_, e2, h⟩ := dK_elim h
      obtain ⟨t14_, e3, h⟩ := dB_elim h
      exact (iplaw_World_Step.B1_sound  w0_ quiet_ o_ t14_ w h).weaken (Sub.cons (Sub.cons (Sub.cons (Sub.cons (Sub.nil _) e3) e2) e1) e0)) stops_nil) (Eq.mp (iplaw_World_Step.B0_eq w0 o_0 o_1 o_2 o_3 o_4 o_5 quiet w   R (fun w0_ quiet_ o_ t14_ w => iplaw_World_Step.B1 w0_ quiet_ o_ t14_ w  R)) h)
theorem iplaw_World_Step.sound (w0 : Option Addr) (o_0 o_1 o_2 o_3 : Int) (o_4 o_5 : ByteArray) (quiet : Bool) (w : World) (R : Bool → World → Prop) (h : iplaw_World_Step.B0 w0 o_0 o_1 o_2 o_3 o_4 o_5 quiet w R) : iplaw_World_Step.Call w0 o_0 o_1 o_2 o_3 o_4 o_5 quiet w R := by
  have hc := calls_of_block (args := #[.pointer w0, .agg #[.int .i64 o_0, .int .i64 o_1, .int .i64 o_2, .int .i64 o_3, .string o_4, .string o_5], .bool quiet]) Try.func10 (body := (Try.f10.body.getD .skip)) (by kernel_rfl) (by kernel_rfl) (args_slot _) (iplaw_World_Step.B0_sound w0 o_0 o_1 o_2 o_3 o_4 o_5 quiet w h)
  exact hc.mono fun e w' he => by
    obtain ⟨v, rfl, hv⟩ := he
    exact iplaw_World_Step.RV_elim hv
def ip_New.B0 (addr : Int) (w : World)   (R : Option Addr → World → Prop) : Prop :=
  New (.cells #[.int .i64 (IntKind.i64.wrap (BitVec.ofInt IntKind.i64.bits addr &&& BitVec.ofInt IntKind.i64.bits (255 : Int)).toNat), .int .i64 (0 : Int), .int .i64 (24 : Int), .bool false, .int .i64 (0 : Int), .int .i64 (0 : Int), .int .i64 (0 : Int), .int .u64 (0 : Int), .int .u8 (0 : Int), .int .u8 (0 : Int), .int .u8 (0 : Int), .int .u8 (0 : Int), .int .u8 (0 : Int), .int .u8 (0 : Int), .int .u8 (0 : Int), .int .u8 (0 : Int), .int .u8 (0 : Int), .int .u8 (0 : Int), .int .u8 (0 : Int), .int .u8 (0 : Int), .int .u8 (0 : Int), .int .u8 (0 : Int), .int .u8 (0 : Int), .int .u8 (0 : Int), .int .u8 (0 : Int), .int .u8 (0 : Int), .int .u8 (0 : Int), .int .u8 (0 : Int), .int .u8 (0 : Int), .int .u8 (0 : Int), .int .u8 (0 : Int), .int .u8 (0 : Int), .int .u8 (0 : Int), .int .u8 (0 : Int), .int .u8 (0 : Int), .int .u8 (0 : Int), .int .u8 (0 : Int), .int .u8 (0 : Int), .int .u8 (0 : Int), .int .u8 (0 : Int), .int .u8 (0 : Int), .int .u8 (0 : Int), .int .u8 (0 : Int), .int .u8 (0 : Int), .int .u8 (0 : Int), .int .u8 (0 : Int), .int .u8 (0 : Int), .int .u8 (0 : Int), .bool false, .int .i64 (0 : Int), .int .i64 (0 : Int), .int .i64 (0 : Int), .int .u64 (0 : Int), .int .u8 (0 : Int), .int .u8 (0 : Int), .int .u8 (0 : Int), .int .u8 (0 : Int), .int .u8 (0 : Int), .int .u8 (0 : Int), .int .u8 (0 : Int), .int .u8 (0 : Int), .int .u8 (0 : Int), .int .u8 (0 : Int), .int .u8 (0 : Int), .int .u8 (0 : Int), .int .u8 (0 : Int), .int .u8 (0 : Int), .int .u8 (0 : Int), .int .u8 (0 : Int), .int .u8 (0 : Int), .int .u8 (0 : Int), .int .u8 (0 : Int), .int .u8 (0 : Int), .int .u8 (0 : Int), .int .u8 (0 : Int), .int .u8 (0 : Int), .int .u8 (0 : Int), .int .u8 (0 : Int), .int .u8 (0 : Int), .int .u8 (0 : Int), .int .u8 (0 : Int), .int .u8 (0 : Int), .int .u8 (0 : Int), .int .u8 (0 : Int), .int .u8 (0 : Int), .int .u8 (0 : Int), .int .u8 (0 : Int), .int .u8 (0 : Int), .int .u8 (0 : Int), .int .u8 (0 : Int), .int .u8 (0 : Int), .int .u8 (0 : Int), .int .u8 (0 : Int), .bool false, .int .i64 (0 : Int), .int .i64 (0 : Int), .int .i64 (0 : Int), .int .u64 (0 : Int), .int .u8 (0 : Int), .int .u8 (0 : Int), .int .u8 (0 : Int), .int .u8 (0 : Int), .int .u8 (0 : Int), .int .u8 (0 : Int), .int .u8 (0 : Int), .int .u8 (0 : Int), .int .u8 (0 : Int), .int .u8 (0 : Int), .int .u8 (0 : Int), .int .u8 (0 : Int), .int .u8 (0 : Int), .int .u8 (0 : Int), .int .u8 (0 : Int), .int .u8 (0 : Int), .int .u8 (0 : Int), .int .u8 (0 : Int), .int .u8 (0 : Int), .int .u8 (0 : Int), .int .u8 (0 : Int), .int .u8 (0 : Int), .int .u8 (0 : Int), .int .u8 (0 : Int), .int .u8 (0 : Int), .int .u8 (0 : Int), .int .u8 (0 : Int), .int .u8 (0 : Int), .int .u8 (0 : Int), .int .u8 (0 : Int), .int .u8 (0 : Int), .int .u8 (0 : Int), .int .u8 (0 : Int), .int .u8 (0 : Int), .int .u8 (0 : Int), .int .u8 (0 : Int), .int .u8 (0 : Int), .int .u8 (0 : Int), .int .u8 (0 : Int), .int .u8 (0 : Int)] 54) w fun b6 w1 =>
  R (some ⟨b6, 0, none⟩) w1
theorem ip_New.B0_eq (addr : Int) (w : World)   (R : Option Addr → World → Prop)  :
    (
  New (.cells #[.int .i64 (IntKind.i64.wrap (BitVec.ofInt IntKind.i64.bits addr &&& BitVec.ofInt IntKind.i64.bits (255 : Int)).toNat), .int .i64 (0 : Int), .int .i64 (24 : Int), .bool false, .int .i64 (0 : Int), .int .i64 (0 : Int), .int .i64 (0 : Int), .int .u64 (0 : Int), .int .u8 (0 : Int), .int .u8 (0 : Int), .int .u8 (0 : Int), .int .u8 (0 : Int), .int .u8 (0 : Int), .int .u8 (0 : Int), .int .u8 (0 : Int), .int .u8 (0 : Int), .int .u8 (0 : Int), .int .u8 (0 : Int), .int .u8 (0 : Int), .int .u8 (0 : Int), .int .u8 (0 : Int), .int .u8 (0 : Int), .int .u8 (0 : Int), .int .u8 (0 : Int), .int .u8 (0 : Int), .int .u8 (0 : Int), .int .u8 (0 : Int), .int .u8 (0 : Int), .int .u8 (0 : Int), .int .u8 (0 : Int), .int .u8 (0 : Int), .int .u8 (0 : Int), .int .u8 (0 : Int), .int .u8 (0 : Int), .int .u8 (0 : Int), .int .u8 (0 : Int), .int .u8 (0 : Int), .int .u8 (0 : Int), .int .u8 (0 : Int), .int .u8 (0 : Int), .int .u8 (0 : Int), .int .u8 (0 : Int), .int .u8 (0 : Int), .int .u8 (0 : Int), .int .u8 (0 : Int), .int .u8 (0 : Int), .int .u8 (0 : Int), .int .u8 (0 : Int), .bool false, .int .i64 (0 : Int), .int .i64 (0 : Int), .int .i64 (0 : Int), .int .u64 (0 : Int), .int .u8 (0 : Int), .int .u8 (0 : Int), .int .u8 (0 : Int), .int .u8 (0 : Int), .int .u8 (0 : Int), .int .u8 (0 : Int), .int .u8 (0 : Int), .int .u8 (0 : Int), .int .u8 (0 : Int), .int .u8 (0 : Int), .int .u8 (0 : Int), .int .u8 (0 : Int), .int .u8 (0 : Int), .int .u8 (0 : Int), .int .u8 (0 : Int), .int .u8 (0 : Int), .int .u8 (0 : Int), .int .u8 (0 : Int), .int .u8 (0 : Int), .int .u8 (0 : Int), .int .u8 (0 : Int), .int .u8 (0 : Int), .int .u8 (0 : Int), .int .u8 (0 : Int), .int .u8 (0 : Int), .int .u8 (0 : Int), .int .u8 (0 : Int), .int .u8 (0 : Int), .int .u8 (0 : Int), .int .u8 (0 : Int), .int .u8 (0 : Int), .int .u8 (0 : Int), .int .u8 (0 : Int), .int .u8 (0 : Int), .int .u8 (0 : Int), .int .u8 (0 : Int), .int .u8 (0 : Int), .int .u8 (0 : Int), .int .u8 (0 : Int), .int .u8 (0 : Int), .bool false, .int .i64 (0 : Int), .int .i64 (0 : Int), .int .i64 (0 : Int), .int .u64 (0 : Int), .int .u8 (0 : Int), .int .u8 (0 : Int), .int .u8 (0 : Int), .int .u8 (0 : Int), .int .u8 (0 : Int), .int .u8 (0 : Int), .int .u8 (0 : Int), .int .u8 (0 : Int), .int .u8 (0 : Int), .int .u8 (0 : Int), .int .u8 (0 : Int), .int .u8 (0 : Int), .int .u8 (0 : Int), .int .u8 (0 : Int), .int .u8 (0 : Int), .int .u8 (0 : Int), .int .u8 (0 : Int), .int .u8 (0 : Int), .int .u8 (0 : Int), .int .u8 (0 : Int), .int .u8 (0 : Int), .int .u8 (0 : Int), .int .u8 (0 : Int), .int .u8 (0 : Int), .int .u8 (0 : Int), .int .u8 (0 : Int), .int .u8 (0 : Int), .int .u8 (0 : Int), .int .u8 (0 : Int), .int .u8 (0 : Int), .int .u8 (0 : Int), .int .u8 (0 : Int), .int .u8 (0 : Int), .int .u8 (0 : Int), .int .u8 (0 : Int), .int .u8 (0 : Int), .int .u8 (0 : Int), .int .u8 (0 : Int), .int .u8 (0 : Int), .int .u8 (0 : Int)] 54) w fun b6 w1 =>
  R (some ⟨b6, 0, none⟩) w1) = kstep Try.prog 7 Try.f11.results.toList (Try.f11.body.getD .skip) (ip_New.RV R) (kvc Try.prog 7 Try.f11.results.toList (Try.f11.body.getD .skip) (ip_New.RV R) [] 2000) [(0, [])] [(0, .int .i64 addr)] w := by kernel_rfl
theorem ip_New.B0_sound {R : Option Addr → World → Prop}  (addr : Int) (w : World) (h : ip_New.B0 addr w   R) :
    KW Try.prog 11 7 (ip_New.RV R) ([(0, [])].map (toItem (Try.f11.body.getD .skip))) [(0, .int .i64 addr)] w := by
  exact block_spec Try.func11 Try.mixed stops_nil (Eq.mp (ip_New.B0_eq addr w   R ) h)
theorem ip_New.sound (addr : Int) (w : World) (R : Option Addr → World → Prop) (h : ip_New.B0 addr w R) : ip_New.Call addr w R := by
  have hc := calls_of_block (args := #[.int .i64 addr]) Try.func11 (body := (Try.f11.body.getD .skip)) (by kernel_rfl) (by kernel_rfl) (args_slot _) (ip_New.B0_sound addr w h)
  exact hc.mono fun e w' he => by
    obtain ⟨v, rfl, hv⟩ := he
    exact ip_New.RV_elim hv
def ipm_New.B0 (addr : Int) (w : World)   (R : Option Addr → World → Prop) : Prop :=
  New (.cells #[.int .i64 (IntKind.i64.wrap (BitVec.ofInt IntKind.i64.bits addr &&& BitVec.ofInt IntKind.i64.bits (255 : Int)).toNat), .int .i64 (0 : Int), .int .i64 (24 : Int), .slice none 0 0] 57) w fun b6 w1 =>
  R (some ⟨b6, 0, none⟩) w1
theorem ipm_New.B0_eq (addr : Int) (w : World)   (R : Option Addr → World → Prop)  :
    (
  New (.cells #[.int .i64 (IntKind.i64.wrap (BitVec.ofInt IntKind.i64.bits addr &&& BitVec.ofInt IntKind.i64.bits (255 : Int)).toNat), .int .i64 (0 : Int), .int .i64 (24 : Int), .slice none 0 0] 57) w fun b6 w1 =>
  R (some ⟨b6, 0, none⟩) w1) = kstep Try.prog 7 Try.f12.results.toList (Try.f12.body.getD .skip) (ipm_New.RV R) (kvc Try.prog 7 Try.f12.results.toList (Try.f12.body.getD .skip) (ipm_New.RV R) [] 2000) [(0, [])] [(0, .int .i64 addr)] w := by kernel_rfl
theorem ipm_New.B0_sound {R : Option Addr → World → Prop}  (addr : Int) (w : World) (h : ipm_New.B0 addr w   R) :
    KW Try.prog 12 7 (ipm_New.RV R) ([(0, [])].map (toItem (Try.f12.body.getD .skip))) [(0, .int .i64 addr)] w := by
  exact block_spec Try.func12 Try.mixed stops_nil (Eq.mp (ipm_New.B0_eq addr w   R ) h)
theorem ipm_New.sound (addr : Int) (w : World) (R : Option Addr → World → Prop) (h : ipm_New.B0 addr w R) : ipm_New.Call addr w R := by
  have hc := calls_of_block (args := #[.int .i64 addr]) Try.func12 (body := (Try.f12.body.getD .skip)) (by kernel_rfl) (by kernel_rfl) (args_slot _) (ipm_New.B0_sound addr w h)
  exact hc.mono fun e w' he => by
    obtain ⟨v, rfl, hv⟩ := he
    exact ipm_New.RV_elim hv
def iplaw_Alike.L1b (x m0 : Option Addr) (i : Int) (w : World)  (N1 : Option Addr → Option Addr → Int → World → Prop) (R : Bool → World → Prop) : Prop :=
  Bm (decide (i ≤ (3 : Int))) (
    iplaw_SamePeek.Call x m0 i w fun r36_0_b r36_0_l r36_0_c r36_1 w1 =>
    Bm (!r36_1) (
      R false w1) (
      N1 x m0 (IntKind.i64.wrap (i + (1 : Int))) w1)) (
    ip_IP_Check.Call x w fun r42 w2 =>
    R r42 w2)
theorem iplaw_Alike.L1b_eq (x m0 : Option Addr) (i : Int) (w : World)  (N1 : Option Addr → Option Addr → Int → World → Prop) (R : Bool → World → Prop)  :
    (
  Bm (decide (i ≤ (3 : Int))) (
    iplaw_SamePeek.Call x m0 i w fun r36_0_b r36_0_l r36_0_c r36_1 w1 =>
    Bm (!r36_1) (
      R false w1) (
      N1 x m0 (IntKind.i64.wrap (i + (1 : Int))) w1)) (
    ip_IP_Check.Call x w fun r42 w2 =>
    R r42 w2)) = kstep Try.prog 43 Try.f13.results.toList (Try.f13.body.getD .skip) (iplaw_Alike.RV R) (kvc Try.prog 43 Try.f13.results.toList (Try.f13.body.getD .skip) (iplaw_Alike.RV R) [([(0, [1, 1, 1, 1, 1, 1, 0, 1, 0, 0]), (2, [1, 1, 1, 1, 1, 1, 0, 1, 0, 0]), (1, [0]), (0, [1, 1, 1, 1, 1, 1, 1])], fun σ w => dP (slotOf σ 0) fun x_ => dP (slotOf σ 1) fun m0_ => dI .i64 (slotOf σ 7) fun i_ => N1 x_ m0_ i_ w)] 2000) [(0, [1, 1, 1, 1, 1, 1, 0, 1, 0, 0]), (2, [1, 1, 1, 1, 1, 1, 0, 1, 0, 0]), (1, [0]), (0, [1, 1, 1, 1, 1, 1, 1])] [(0, .pointer x), (1, .pointer m0), (7, .int .i64 i)] w := by kernel_rfl
theorem iplaw_Alike.L1b_sound {R : Bool → World → Prop} {N1 : Option Addr → Option Addr → Int → World → Prop} (hN1 : ∀ x m0 i w, N1 x m0 i w → KW Try.prog 13 43 (iplaw_Alike.RV R) ([(0, [1, 1, 1, 1, 1, 1, 0, 1, 0, 0]), (2, [1, 1, 1, 1, 1, 1, 0, 1, 0, 0]), (1, [0]), (0, [1, 1, 1, 1, 1, 1, 1])].map (toItem (Try.f13.body.getD .skip))) [(0, .pointer x), (1, .pointer m0), (7, .int .i64 i)] w) (x m0 : Option Addr) (i : Int) (w : World) (h : iplaw_Alike.L1b x m0 i w  N1 R) :
    KW Try.prog 13 43 (iplaw_Alike.RV R) ([(0, [1, 1, 1, 1, 1, 1, 0, 1, 0, 0]), (2, [1, 1, 1, 1, 1, 1, 0, 1, 0, 0]), (1, [0]), (0, [1, 1, 1, 1, 1, 1, 1])].map (toItem (Try.f13.body.getD .skip))) [(0, .pointer x), (1, .pointer m0), (7, .int .i64 i)] w := by
  exact block_spec Try.func13 Try.mixed (stops_cons (fun σ w h => by
      obtain ⟨x_, e0, h⟩ := dP_elim h
      obtain ⟨m0_, e1, h⟩ := dP_elim h
      obtain ⟨i_, e2, h⟩ := dI_elim h
      exact (hN1 x_ m0_ i_ w h).weaken (Sub.cons (Sub.cons (Sub.cons (Sub.nil _) e2) e1) e0)) stops_nil) (Eq.mp (iplaw_Alike.L1b_eq x m0 i w  N1 R ) h)
def iplaw_Alike.L1 (x m0 : Option Addr) (i : Int) (w : World)  (R : Bool → World → Prop) : Prop :=
  ∃ (I : Nat → Option Addr → Option Addr → Int → World → Prop) (m : Nat), I m x m0 i w ∧ ∀ m x m0 i w, I m x m0 i w → iplaw_Alike.L1b x m0 i w  (fun x' m0' i' w' => ∃ m', m' < m ∧ I m' x' m0' i' w') R
theorem iplaw_Alike.L1_sound {R : Bool → World → Prop}  (x m0 : Option Addr) (i : Int) (w : World) (h : iplaw_Alike.L1 x m0 i w  R) :
    KW Try.prog 13 43 (iplaw_Alike.RV R) ([(0, [1, 1, 1, 1, 1, 1, 0, 1, 0, 0]), (2, [1, 1, 1, 1, 1, 1, 0, 1, 0, 0]), (1, [0]), (0, [1, 1, 1, 1, 1, 1, 1])].map (toItem (Try.f13.body.getD .skip))) [(0, .pointer x), (1, .pointer m0), (7, .int .i64 i)] w := by
  obtain ⟨I, m, h0, hr⟩ := h
  refine KW.loop (fun m σ w => ∃ (x m0 : Option Addr) (i : Int), σ = [(0, .pointer x), (1, .pointer m0), (7, .int .i64 i)] ∧ I m x m0 i w) ?_ m _ w ⟨x, m0, i, rfl, h0⟩
  rintro m ih σ w ⟨x, m0, i, rfl, hI⟩
  exact iplaw_Alike.L1b_sound  (N1 := fun x' m0' i' w' => ∃ m', m' < m ∧ I m' x' m0' i' w') (fun x' m0' i' w' hx => by obtain ⟨m', hlt, hI'⟩ := hx; exact ih m' hlt _ w' ⟨x', m0', i', rfl, hI'⟩) x m0 i w (hr m x m0 i w hI)
def iplaw_Alike.B0 (x m0 : Option Addr) (w : World)   (R : Bool → World → Prop) : Prop :=
  iplaw_SameAddr.Call x m0 w fun r10 w1 =>
  Bm (!r10) (
    R false w1) (
    iplaw_SameNextId.Call x m0 w1 fun r14 w2 =>
    Bm (!r14) (
      R false w2) (
      iplaw_SameCredit.Call x m0 w2 fun r18 w3 =>
      Bm (!r18) (
        R false w3) (
        iplaw_SamePending.Call x m0 w3 fun r23_0_b r23_0_l r23_0_c r23_1 w4 =>
        Bm (!r23_1) (
          R false w4) (
          iplaw_Alike.L1 x m0 (-1 : Int) w4  R))))
theorem iplaw_Alike.B0_eq (x m0 : Option Addr) (w : World)   (R : Bool → World → Prop) (sL1 : Option Addr → Option Addr → Int → World → Prop) :
    (
  iplaw_SameAddr.Call x m0 w fun r10 w1 =>
  Bm (!r10) (
    R false w1) (
    iplaw_SameNextId.Call x m0 w1 fun r14 w2 =>
    Bm (!r14) (
      R false w2) (
      iplaw_SameCredit.Call x m0 w2 fun r18 w3 =>
      Bm (!r18) (
        R false w3) (
        iplaw_SamePending.Call x m0 w3 fun r23_0_b r23_0_l r23_0_c r23_1 w4 =>
        Bm (!r23_1) (
          R false w4) (
          sL1 x m0 (-1 : Int) w4))))) = kstep Try.prog 43 Try.f13.results.toList (Try.f13.body.getD .skip) (iplaw_Alike.RV R) (kvc Try.prog 43 Try.f13.results.toList (Try.f13.body.getD .skip) (iplaw_Alike.RV R) [([(0, [1, 1, 1, 1, 1, 1, 0, 1, 0, 0]), (2, [1, 1, 1, 1, 1, 1, 0, 1, 0, 0]), (1, [0]), (0, [1, 1, 1, 1, 1, 1, 1])], fun σ w => dP (slotOf σ 0) fun x_ => dP (slotOf σ 1) fun m0_ => dI .i64 (slotOf σ 7) fun i_ => sL1 x_ m0_ i_ w)] 2000) [(0, [])] [(0, .pointer x), (1, .pointer m0)] w := by kernel_rfl
theorem iplaw_Alike.B0_sound {R : Bool → World → Prop}  (x m0 : Option Addr) (w : World) (h : iplaw_Alike.B0 x m0 w   R) :
    KW Try.prog 13 43 (iplaw_Alike.RV R) ([(0, [])].map (toItem (Try.f13.body.getD .skip))) [(0, .pointer x), (1, .pointer m0)] w := by
  exact block_spec Try.func13 Try.mixed (stops_cons (fun σ w h => by
      obtain ⟨x_, e0, h⟩ := dP_elim h
      obtain ⟨m0_, e1, h⟩ := dP_elim h
      obtain ⟨i_, e2, h⟩ := dI_elim h
      exact (iplaw_Alike.L1_sound  x_ m0_ i_ w h).weaken (Sub.cons (Sub.cons (Sub.cons (Sub.nil _) e2) e1) e0)) stops_nil) (Eq.mp (iplaw_Alike.B0_eq x m0 w   R (fun x_ m0_ i_ w => iplaw_Alike.L1 x_ m0_ i_ w  R)) h)
theorem iplaw_Alike.sound (x m0 : Option Addr) (w : World) (R : Bool → World → Prop) (h : iplaw_Alike.B0 x m0 w R) : iplaw_Alike.Call x m0 w R := by
  have hc := calls_of_block (args := #[.pointer x, .pointer m0]) Try.func13 (body := (Try.f13.body.getD .skip)) (by kernel_rfl) (by kernel_rfl) (args_slot _) (iplaw_Alike.B0_sound x m0 w h)
  exact hc.mono fun e w' he => by
    obtain ⟨v, rfl, hv⟩ := he
    exact iplaw_Alike.RV_elim hv
def iplaw_World_Play.B1 (w0 : Option Addr) (c : Int) (o : Nat) (t45 : Bool) (w : World)   (R : Bool → World → Prop) : Prop :=
  Bm t45 (
    R true w) (
    Pn w0 fun a =>
    LdL (a.add 4) w.drew fun x51_b x51_l x51_c =>
    LdI .i64 ⟨o, 1, none⟩ w.drew fun x53 =>
    Pn x51_b fun a_1 =>
    (0 ≤ x53 ∧ x53 < ((x51_l : Nat) : Int)) ∧
    LdS (Addr.add a_1 (x53.toNat * 1)) w.drew fun x55 =>
    iplaw_World_SameInput.Call w0 c x55 w.drew fun r56 w1 =>
    R r56 w1)
theorem iplaw_World_Play.B1_eq (w0 : Option Addr) (c : Int) (o : Nat) (t45 : Bool) (w : World)   (R : Bool → World → Prop)  :
    (
  Bm t45 (
    R true w) (
    Pn w0 fun a =>
    LdL (a.add 4) w.drew fun x51_b x51_l x51_c =>
    LdI .i64 ⟨o, 1, none⟩ w.drew fun x53 =>
    Pn x51_b fun a_1 =>
    (0 ≤ x53 ∧ x53 < ((x51_l : Nat) : Int)) ∧
    LdS (Addr.add a_1 (x53.toNat * 1)) w.drew fun x55 =>
    iplaw_World_SameInput.Call w0 c x55 w.drew fun r56 w1 =>
    R r56 w1)) = kstep Try.prog 197 Try.f14.results.toList (Try.f14.body.getD .skip) (iplaw_World_Play.RV R) (kvc Try.prog 197 Try.f14.results.toList (Try.f14.body.getD .skip) (iplaw_World_Play.RV R) [] 2000) [(0, [1, 0, 1, 0, 1, 1, 1, 1, 1, 0, 0, 1]), (0, [1, 0, 1, 0, 1, 1, 1, 1, 1, 0, 1]), (1, [0]), (0, [1, 1])] [(0, .pointer w0), (2, .int .i64 c), (4, .pointer (some ⟨o, 0, none⟩)), (45, .bool t45)] w := by kernel_rfl
theorem iplaw_World_Play.B1_sound {R : Bool → World → Prop}  (w0 : Option Addr) (c : Int) (o : Nat) (t45 : Bool) (w : World) (h : iplaw_World_Play.B1 w0 c o t45 w   R) :
    KW Try.prog 14 197 (iplaw_World_Play.RV R) ([(0, [1, 0, 1, 0, 1, 1, 1, 1, 1, 0, 0, 1]), (0, [1, 0, 1, 0, 1, 1, 1, 1, 1, 0, 1]), (1, [0]), (0, [1, 1])].map (toItem (Try.f14.body.getD .skip))) [(0, .pointer w0), (2, .int .i64 c), (4, .pointer (some ⟨o, 0, none⟩)), (45, .bool t45)] w := by
  exact block_spec Try.func14 Try.mixed stops_nil (Eq.mp (iplaw_World_Play.B1_eq w0 c o t45 w   R ) h)
def iplaw_World_Play.B0 (w0 : Option Addr) (o_0 o_1 o_2 o_3 : Int) (o_4 o_5 : ByteArray) (c : Int) (w : World)   (R : Bool → World → Prop) : Prop :=
  New (.cells #[.int .i64 o_0, .int .i64 o_1, .int .i64 o_2, .int .i64 o_3, .string o_4, .string o_5] 32) w fun o_ w1 =>
  LdI .i64 ⟨o_, 0, none⟩ w1 fun x12 =>
  Bm (x12 == (1 : Int)) (
    LdI .i64 ⟨o_, 1, none⟩ w1 fun x18 =>
    LdI .i64 ⟨o_, 2, none⟩ w1 fun x20 =>
    LdS ⟨o_, 4, none⟩ w1 fun x22 =>
    iplaw_World_SameOutput.Call w0 c x18 x20 x22 w1 fun r23 w2 =>
    R r23 w2) (
    Bm (x12 == (2 : Int)) (
      LdS ⟨o_, 4, none⟩ w1 fun x29 =>
      iplaw_World_SameInput.Call w0 c x29 w1 fun r30 w3 =>
      R r30 w3) (
      Bm (x12 == (3 : Int)) (
        LdI .i64 ⟨o_, 1, none⟩ w1.drew fun x34 =>
        Bm (decide (x34 < (0 : Int))) (
          iplaw_World_Play.B1 w0 c o_ true w1.drew  R) (
          LdI .i64 ⟨o_, 1, none⟩ w1.drew fun x38 =>
          Pn w0 fun a =>
          LdL (a.add 4) w1.drew fun x42_b x42_l x42_c =>
          iplaw_World_Play.B1 w0 c o_ (decide (x38 ≥ ((x42_l : Nat) : Int))) w1.drew  R)) (
        Bm (x12 == (4 : Int)) (
          Pn w0 fun a_1 =>
          (0 ≤ c ∧ c < ((2 : Nat) : Int)) ∧
          LdP (Addr.add a_1 (c.toNat * 1)) w1 fun x64 =>
          ip_IP_Tick.Call x64 w1 fun w4 =>
          Pn w0 fun a_2 =>
          (0 ≤ c ∧ c < ((2 : Nat) : Int)) ∧
          LdP (Addr.add (a_2.add 2) (c.toNat * 1)) w4 fun x71 =>
          ipm_IP_Tick.Call x71 w4 fun w5 =>
          R true w5) (
          Bm (x12 == (5 : Int)) (
            Pn w0 fun a_3 =>
            (0 ≤ c ∧ c < ((2 : Nat) : Int)) ∧
            LdP (Addr.add a_3 (c.toNat * 1)) w1.drew fun x80 =>
            Pn w0 fun a_4 =>
            (0 ≤ c ∧ c < ((2 : Nat) : Int)) ∧
            LdP (Addr.add (a_4.add 2) (c.toNat * 1)) w1.drew fun x86 =>
            iplaw_SameAddr.Call x80 x86 w1.drew fun r87 w6 =>
            R r87 w6) (
            Bm (x12 == (6 : Int)) (
              Pn w0 fun a_5 =>
              (0 ≤ c ∧ c < ((2 : Nat) : Int)) ∧
              LdP (Addr.add a_5 (c.toNat * 1)) w1.drew fun x95 =>
              Pn w0 fun a_6 =>
              (0 ≤ c ∧ c < ((2 : Nat) : Int)) ∧
              LdP (Addr.add (a_6.add 2) (c.toNat * 1)) w1.drew fun x101 =>
              iplaw_SameNextId.Call x95 x101 w1.drew fun r102 w7 =>
              R r102 w7) (
              Bm (x12 == (7 : Int)) (
                Pn w0 fun a_7 =>
                (0 ≤ c ∧ c < ((2 : Nat) : Int)) ∧
                LdP (Addr.add a_7 (c.toNat * 1)) w1.drew fun x110 =>
                Pn w0 fun a_8 =>
                (0 ≤ c ∧ c < ((2 : Nat) : Int)) ∧
                LdP (Addr.add (a_8.add 2) (c.toNat * 1)) w1.drew fun x116 =>
                iplaw_SameCredit.Call x110 x116 w1.drew fun r117 w8 =>
                R r117 w8) (
                Bm (x12 == (8 : Int)) (
                  Pn w0 fun a_9 =>
                  (0 ≤ c ∧ c < ((2 : Nat) : Int)) ∧
                  LdP (Addr.add a_9 (c.toNat * 1)) w1.drew fun x126 =>
                  Pn w0 fun a_10 =>
                  (0 ≤ c ∧ c < ((2 : Nat) : Int)) ∧
                  LdP (Addr.add (a_10.add 2) (c.toNat * 1)) w1.drew fun x132 =>
                  iplaw_SamePending.Call x126 x132 w1.drew fun r133_0_b r133_0_l r133_0_c r133_1 w9 =>
                  iplaw_World_Untouched.Call w0 w9 fun r137 w10 =>
                  Bm (!r137) (
                    R false w10) (
                    iplaw_World_OwnRows.Call w0 r133_0_b r133_0_l r133_0_c w10 fun w11 =>
                    R r133_1 w11)) (
                  Bm (x12 == (9 : Int)) (
                    Pn w0 fun a_11 =>
                    (0 ≤ c ∧ c < ((2 : Nat) : Int)) ∧
                    LdP (Addr.add a_11 (c.toNat * 1)) w1 fun x150 =>
                    ip_IP_Check.Call x150 w1 fun r151 w12 =>
                    R r151 w12) (
                    Bm (x12 == (10 : Int)) (
                      LdI .i64 ⟨o_, 1, none⟩ w1.drew fun x157 =>
                      Pn w0 fun a_12 =>
                      ip_New.Call x157 w1.drew fun r158 w13 =>
                      (0 ≤ c ∧ c < ((2 : Nat) : Int)) ∧
                      Sts [.pointer r158] (Addr.add a_12 (c.toNat * 1)) 0 w13 fun w14 =>
                      LdI .i64 ⟨o_, 1, none⟩ w14.drew fun x165 =>
                      Pn w0 fun a_13 =>
                      ipm_New.Call x165 w14.drew fun r166 w15 =>
                      (0 ≤ c ∧ c < ((2 : Nat) : Int)) ∧
                      Sts [.pointer r166] (Addr.add (a_13.add 2) (c.toNat * 1)) 0 w15 fun w16 =>
                      R true w16) (
                      Bm (x12 == (11 : Int)) (
                        Pn w0 fun a_14 =>
                        (0 ≤ c ∧ c < ((2 : Nat) : Int)) ∧
                        LdP (Addr.add a_14 (c.toNat * 1)) w1.drew fun x178 =>
                        Pn w0 fun a_15 =>
                        (0 ≤ c ∧ c < ((2 : Nat) : Int)) ∧
                        LdP (Addr.add (a_15.add 2) (c.toNat * 1)) w1.drew fun x184 =>
                        LdI .i64 ⟨o_, 1, none⟩ w1.drew fun x186 =>
                        iplaw_SamePeek.Call x178 x184 x186 w1.drew fun r187_0_b r187_0_l r187_0_c r187_1 w17 =>
                        iplaw_World_Untouched.Call w0 w17 fun r191 w18 =>
                        Bm (!r191) (
                          R false w18) (
                          iplaw_World_OwnNums.Call w0 r187_0_b r187_0_l r187_0_c w18 fun w19 =>
                          R r187_1 w19)) (
                        R true w1)))))))))))
theorem iplaw_World_Play.B0_eq (w0 : Option Addr) (o_0 o_1 o_2 o_3 : Int) (o_4 o_5 : ByteArray) (c : Int) (w : World)   (R : Bool → World → Prop) (sB1 : Option Addr → Int → Nat → Bool → World → Prop) :
    (
  New (.cells #[.int .i64 o_0, .int .i64 o_1, .int .i64 o_2, .int .i64 o_3, .string o_4, .string o_5] 32) w fun o_ w1 =>
  LdI .i64 ⟨o_, 0, none⟩ w1 fun x12 =>
  Bm (x12 == (1 : Int)) (
    LdI .i64 ⟨o_, 1, none⟩ w1 fun x18 =>
    LdI .i64 ⟨o_, 2, none⟩ w1 fun x20 =>
    LdS ⟨o_, 4, none⟩ w1 fun x22 =>
    iplaw_World_SameOutput.Call w0 c x18 x20 x22 w1 fun r23 w2 =>
    R r23 w2) (
    Bm (x12 == (2 : Int)) (
      LdS ⟨o_, 4, none⟩ w1 fun x29 =>
      iplaw_World_SameInput.Call w0 c x29 w1 fun r30 w3 =>
      R r30 w3) (
      Bm (x12 == (3 : Int)) (
        LdI .i64 ⟨o_, 1, none⟩ w1.drew fun x34 =>
        Bm (decide (x34 < (0 : Int))) (
          sB1 w0 c o_ true w1.drew) (
          LdI .i64 ⟨o_, 1, none⟩ w1.drew fun x38 =>
          Pn w0 fun a =>
          LdL (a.add 4) w1.drew fun x42_b x42_l x42_c =>
          sB1 w0 c o_ (decide (x38 ≥ ((x42_l : Nat) : Int))) w1.drew)) (
        Bm (x12 == (4 : Int)) (
          Pn w0 fun a_1 =>
          (0 ≤ c ∧ c < ((2 : Nat) : Int)) ∧
          LdP (Addr.add a_1 (c.toNat * 1)) w1 fun x64 =>
          ip_IP_Tick.Call x64 w1 fun w4 =>
          Pn w0 fun a_2 =>
          (0 ≤ c ∧ c < ((2 : Nat) : Int)) ∧
          LdP (Addr.add (a_2.add 2) (c.toNat * 1)) w4 fun x71 =>
          ipm_IP_Tick.Call x71 w4 fun w5 =>
          R true w5) (
          Bm (x12 == (5 : Int)) (
            Pn w0 fun a_3 =>
            (0 ≤ c ∧ c < ((2 : Nat) : Int)) ∧
            LdP (Addr.add a_3 (c.toNat * 1)) w1.drew fun x80 =>
            Pn w0 fun a_4 =>
            (0 ≤ c ∧ c < ((2 : Nat) : Int)) ∧
            LdP (Addr.add (a_4.add 2) (c.toNat * 1)) w1.drew fun x86 =>
            iplaw_SameAddr.Call x80 x86 w1.drew fun r87 w6 =>
            R r87 w6) (
            Bm (x12 == (6 : Int)) (
              Pn w0 fun a_5 =>
              (0 ≤ c ∧ c < ((2 : Nat) : Int)) ∧
              LdP (Addr.add a_5 (c.toNat * 1)) w1.drew fun x95 =>
              Pn w0 fun a_6 =>
              (0 ≤ c ∧ c < ((2 : Nat) : Int)) ∧
              LdP (Addr.add (a_6.add 2) (c.toNat * 1)) w1.drew fun x101 =>
              iplaw_SameNextId.Call x95 x101 w1.drew fun r102 w7 =>
              R r102 w7) (
              Bm (x12 == (7 : Int)) (
                Pn w0 fun a_7 =>
                (0 ≤ c ∧ c < ((2 : Nat) : Int)) ∧
                LdP (Addr.add a_7 (c.toNat * 1)) w1.drew fun x110 =>
                Pn w0 fun a_8 =>
                (0 ≤ c ∧ c < ((2 : Nat) : Int)) ∧
                LdP (Addr.add (a_8.add 2) (c.toNat * 1)) w1.drew fun x116 =>
                iplaw_SameCredit.Call x110 x116 w1.drew fun r117 w8 =>
                R r117 w8) (
                Bm (x12 == (8 : Int)) (
                  Pn w0 fun a_9 =>
                  (0 ≤ c ∧ c < ((2 : Nat) : Int)) ∧
                  LdP (Addr.add a_9 (c.toNat * 1)) w1.drew fun x126 =>
                  Pn w0 fun a_10 =>
                  (0 ≤ c ∧ c < ((2 : Nat) : Int)) ∧
                  LdP (Addr.add (a_10.add 2) (c.toNat * 1)) w1.drew fun x132 =>
                  iplaw_SamePending.Call x126 x132 w1.drew fun r133_0_b r133_0_l r133_0_c r133_1 w9 =>
                  iplaw_World_Untouched.Call w0 w9 fun r137 w10 =>
                  Bm (!r137) (
                    R false w10) (
                    iplaw_World_OwnRows.Call w0 r133_0_b r133_0_l r133_0_c w10 fun w11 =>
                    R r133_1 w11)) (
                  Bm (x12 == (9 : Int)) (
                    Pn w0 fun a_11 =>
                    (0 ≤ c ∧ c < ((2 : Nat) : Int)) ∧
                    LdP (Addr.add a_11 (c.toNat * 1)) w1 fun x150 =>
                    ip_IP_Check.Call x150 w1 fun r151 w12 =>
                    R r151 w12) (
                    Bm (x12 == (10 : Int)) (
                      LdI .i64 ⟨o_, 1, none⟩ w1.drew fun x157 =>
                      Pn w0 fun a_12 =>
                      ip_New.Call x157 w1.drew fun r158 w13 =>
                      (0 ≤ c ∧ c < ((2 : Nat) : Int)) ∧
                      Sts [.pointer r158] (Addr.add a_12 (c.toNat * 1)) 0 w13 fun w14 =>
                      LdI .i64 ⟨o_, 1, none⟩ w14.drew fun x165 =>
                      Pn w0 fun a_13 =>
                      ipm_New.Call x165 w14.drew fun r166 w15 =>
                      (0 ≤ c ∧ c < ((2 : Nat) : Int)) ∧
                      Sts [.pointer r166] (Addr.add (a_13.add 2) (c.toNat * 1)) 0 w15 fun w16 =>
                      R true w16) (
                      Bm (x12 == (11 : Int)) (
                        Pn w0 fun a_14 =>
                        (0 ≤ c ∧ c < ((2 : Nat) : Int)) ∧
                        LdP (Addr.add a_14 (c.toNat * 1)) w1.drew fun x178 =>
                        Pn w0 fun a_15 =>
                        (0 ≤ c ∧ c < ((2 : Nat) : Int)) ∧
                        LdP (Addr.add (a_15.add 2) (c.toNat * 1)) w1.drew fun x184 =>
                        LdI .i64 ⟨o_, 1, none⟩ w1.drew fun x186 =>
                        iplaw_SamePeek.Call x178 x184 x186 w1.drew fun r187_0_b r187_0_l r187_0_c r187_1 w17 =>
                        iplaw_World_Untouched.Call w0 w17 fun r191 w18 =>
                        Bm (!r191) (
                          R false w18) (
                          iplaw_World_OwnNums.Call w0 r187_0_b r187_0_l r187_0_c w18 fun w19 =>
                          R r187_1 w19)) (
                        R true w1)))))))))))) = kstep Try.prog 197 Try.f14.results.toList (Try.f14.body.getD .skip) (iplaw_World_Play.RV R) (kvc Try.prog 197 Try.f14.results.toList (Try.f14.body.getD .skip) (iplaw_World_Play.RV R) [([(0, [1, 0, 1, 0, 1, 1, 1, 1, 1, 0, 0, 1]), (0, [1, 0, 1, 0, 1, 1, 1, 1, 1, 0, 1]), (1, [0]), (0, [1, 1])], fun σ w => dP (slotOf σ 0) fun w0_ => dI .i64 (slotOf σ 2) fun c_ => dK (slotOf σ 4) fun o_ => dB (slotOf σ 45) fun t45_ => sB1 w0_ c_ o_ t45_ w)] 2000) [(0, [])] [(0, .pointer w0), (1, .agg #[.int .i64 o_0, .int .i64 o_1, .int .i64 o_2, .int .i64 o_3, .string o_4, .string o_5]), (2, .int .i64 c)] w := by kernel_rfl
theorem iplaw_World_Play.B0_sound {R : Bool → World → Prop}  (w0 : Option Addr) (o_0 o_1 o_2 o_3 : Int) (o_4 o_5 : ByteArray) (c : Int) (w : World) (h : iplaw_World_Play.B0 w0 o_0 o_1 o_2 o_3 o_4 o_5 c w   R) :
    KW Try.prog 14 197 (iplaw_World_Play.RV R) ([(0, [])].map (toItem (Try.f14.body.getD .skip))) [(0, .pointer w0), (1, .agg #[.int .i64 o_0, .int .i64 o_1, .int .i64 o_2, .int .i64 o_3, .string o_4, .string o_5]), (2, .int .i64 c)] w := by
  exact block_spec Try.func14 Try.mixed (stops_cons (fun σ w h => by
      obtain ⟨w0_, e0, h⟩ := dP_elim h
      obtain ⟨c_, e1, h⟩ := dI_elim h
      obtain ⟨o_, e2, h⟩ := dK_elim h
      obtain ⟨t45_, e3, h⟩ := dB_elim h
      exact (iplaw_World_Play.B1_sound  w0_ c_ o_ t45_ w h).weaken (Sub.cons (Sub.cons (Sub.cons (Sub.cons (Sub.nil _) e3) e2) e1) e0)) stops_nil) (Eq.mp (iplaw_World_Play.B0_eq w0 o_0 o_1 o_2 o_3 o_4 o_5 c w   R (fun w0_ c_ o_ t45_ w => iplaw_World_Play.B1 w0_ c_ o_ t45_ w  R)) h)
theorem iplaw_World_Play.sound (w0 : Option Addr) (o_0 o_1 o_2 o_3 : Int) (o_4 o_5 : ByteArray) (c : Int) (w : World) (R : Bool → World → Prop) (h : iplaw_World_Play.B0 w0 o_0 o_1 o_2 o_3 o_4 o_5 c w R) : iplaw_World_Play.Call w0 o_0 o_1 o_2 o_3 o_4 o_5 c w R := by
  have hc := calls_of_block (args := #[.pointer w0, .agg #[.int .i64 o_0, .int .i64 o_1, .int .i64 o_2, .int .i64 o_3, .string o_4, .string o_5], .int .i64 c]) Try.func14 (body := (Try.f14.body.getD .skip)) (by kernel_rfl) (by kernel_rfl) (args_slot _) (iplaw_World_Play.B0_sound w0 o_0 o_1 o_2 o_3 o_4 o_5 c w h)
  exact hc.mono fun e w' he => by
    obtain ⟨v, rfl, hv⟩ := he
    exact iplaw_World_Play.RV_elim hv
end Go.Proofs.Qxb6500425a
