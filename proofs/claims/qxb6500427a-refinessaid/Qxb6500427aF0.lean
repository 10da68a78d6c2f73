import Derived.Test.Qxb6500427aSig
set_option maxRecDepth 100000
set_option linter.unusedVariables false
open Go.Vc
namespace Go.Proofs.Qxb6500427a
def socklaw_Refines.B0 (script_b : Option Addr) (script_l script_c : Nat) (w : World)   (R : Bool → World → Prop) : Prop :=
  socklaw_RefinesUpTo.Call script_b script_l script_c w fun r4 w1 =>
  R (r4 == (-1 : Int)) w1
theorem socklaw_Refines.B0_eq (script_b : Option Addr) (script_l script_c : Nat) (w : World)   (R : Bool → World → Prop)  :
    (
  socklaw_RefinesUpTo.Call script_b script_l script_c w fun r4 w1 =>
  R (r4 == (-1 : Int)) w1) = kstep Try.prog 6 Try.f3.results.toList (Try.f3.body.getD .skip) (socklaw_Refines.RV R) (kvc Try.prog 6 Try.f3.results.toList (Try.f3.body.getD .skip) (socklaw_Refines.RV R) [] 2000) [(0, [])] [(0, .slice script_b script_l script_c)] w := by kernel_rfl
theorem socklaw_Refines.B0_sound {R : Bool → World → Prop}  (script_b : Option Addr) (script_l script_c : Nat) (w : World) (h : socklaw_Refines.B0 script_b script_l script_c w   R) :
    KW Try.prog 3 6 (socklaw_Refines.RV R) ([(0, [])].map (toItem (Try.f3.body.getD .skip))) [(0, .slice script_b script_l script_c)] w := by
  exact block_spec Try.func3 Try.mixed stops_nil (Eq.mp (socklaw_Refines.B0_eq script_b script_l script_c w   R ) h)
theorem socklaw_Refines.sound (script_b : Option Addr) (script_l script_c : Nat) (w : World) (R : Bool → World → Prop) (h : socklaw_Refines.B0 script_b script_l script_c w R) : socklaw_Refines.Call script_b script_l script_c w R := by
  have hc := calls_of_block (args := #[.slice script_b script_l script_c]) Try.func3 (body := (Try.f3.body.getD .skip)) (by kernel_rfl) (by kernel_rfl) (args_slot _) (socklaw_Refines.B0_sound script_b script_l script_c w h)
  exact hc.mono fun e w' he => by
    obtain ⟨v, rfl, hv⟩ := he
    exact socklaw_Refines.RV_elim hv
def socklaw_RefinesQuiet.B0 (script_b : Option Addr) (script_l script_c : Nat) (w : World)   (R : Bool → World → Prop) : Prop :=
  socklaw_walk.Call script_b script_l script_c true w fun r7_0 r7_1 w1 =>
  R (r7_0 == (-1 : Int)) w1
theorem socklaw_RefinesQuiet.B0_eq (script_b : Option Addr) (script_l script_c : Nat) (w : World)   (R : Bool → World → Prop)  :
    (
  socklaw_walk.Call script_b script_l script_c true w fun r7_0 r7_1 w1 =>
  R (r7_0 == (-1 : Int)) w1) = kstep Try.prog 12 Try.f4.results.toList (Try.f4.body.getD .skip) (socklaw_RefinesQuiet.RV R) (kvc Try.prog 12 Try.f4.results.toList (Try.f4.body.getD .skip) (socklaw_RefinesQuiet.RV R) [] 2000) [(0, [])] [(0, .slice script_b script_l script_c)] w := by kernel_rfl
theorem socklaw_RefinesQuiet.B0_sound {R : Bool → World → Prop}  (script_b : Option Addr) (script_l script_c : Nat) (w : World) (h : socklaw_RefinesQuiet.B0 script_b script_l script_c w   R) :
    KW Try.prog 4 12 (socklaw_RefinesQuiet.RV R) ([(0, [])].map (toItem (Try.f4.body.getD .skip))) [(0, .slice script_b script_l script_c)] w := by
  exact block_spec Try.func4 Try.mixed stops_nil (Eq.mp (socklaw_RefinesQuiet.B0_eq script_b script_l script_c w   R ) h)
theorem socklaw_RefinesQuiet.sound (script_b : Option Addr) (script_l script_c : Nat) (w : World) (R : Bool → World → Prop) (h : socklaw_RefinesQuiet.B0 script_b script_l script_c w R) : socklaw_RefinesQuiet.Call script_b script_l script_c w R := by
  have hc := calls_of_block (args := #[.slice script_b script_l script_c]) Try.func4 (body := (Try.f4.body.getD .skip)) (by kernel_rfl) (by kernel_rfl) (args_slot _) (socklaw_RefinesQuiet.B0_sound script_b script_l script_c w h)
  exact hc.mono fun e w' he => by
    obtain ⟨v, rfl, hv⟩ := he
    exact socklaw_RefinesQuiet.RV_elim hv
def socklaw_RefinesUpTo.B0 (script_b : Option Addr) (script_l script_c : Nat) (w : World)   (R : Int → World → Prop) : Prop :=
  socklaw_walk.Call script_b script_l script_c false w fun r7_0 r7_1 w1 =>
  R r7_0 w1
theorem socklaw_RefinesUpTo.B0_eq (script_b : Option Addr) (script_l script_c : Nat) (w : World)   (R : Int → World → Prop)  :
    (
  socklaw_walk.Call script_b script_l script_c false w fun r7_0 r7_1 w1 =>
  R r7_0 w1) = kstep Try.prog 11 Try.f5.results.toList (Try.f5.body.getD .skip) (socklaw_RefinesUpTo.RV R) (kvc Try.prog 11 Try.f5.results.toList (Try.f5.body.getD .skip) (socklaw_RefinesUpTo.RV R) [] 2000) [(0, [])] [(0, .slice script_b script_l script_c)] w := by kernel_rfl
theorem socklaw_RefinesUpTo.B0_sound {R : Int → World → Prop}  (script_b : Option Addr) (script_l script_c : Nat) (w : World) (h : socklaw_RefinesUpTo.B0 script_b script_l script_c w   R) :
    KW Try.prog 5 11 (socklaw_RefinesUpTo.RV R) ([(0, [])].map (toItem (Try.f5.body.getD .skip))) [(0, .slice script_b script_l script_c)] w := by
  exact block_spec Try.func5 Try.mixed stops_nil (Eq.mp (socklaw_RefinesUpTo.B0_eq script_b script_l script_c w   R ) h)
theorem socklaw_RefinesUpTo.sound (script_b : Option Addr) (script_l script_c : Nat) (w : World) (R : Int → World → Prop) (h : socklaw_RefinesUpTo.B0 script_b script_l script_c w R) : socklaw_RefinesUpTo.Call script_b script_l script_c w R := by
  have hc := calls_of_block (args := #[.slice script_b script_l script_c]) Try.func5 (body := (Try.f5.body.getD .skip)) (by kernel_rfl) (by kernel_rfl) (args_slot _) (socklaw_RefinesUpTo.B0_sound script_b script_l script_c w h)
  exact hc.mono fun e w' he => by
    obtain ⟨v, rfl, hv⟩ := he
    exact socklaw_RefinesUpTo.RV_elim hv
def socklaw_walk.B3 (script_b : Option Addr) (script_l script_c : Nat) (quiet : Bool) (d : Nat) (i : Int) (w : World) (N1 : Option Addr → Nat → Nat → Bool → Nat → Int → World → Prop)  (R : Int → Int → World → Prop) : Prop :=
  N1 script_b script_l script_c quiet d (IntKind.i64.wrap (i + (1 : Int))) w
theorem socklaw_walk.B3_eq (script_b : Option Addr) (script_l script_c : Nat) (quiet : Bool) (d : Nat) (i : Int) (w : World) (N1 : Option Addr → Nat → Nat → Bool → Nat → Int → World → Prop)  (R : Int → Int → World → Prop)  :
    (
  N1 script_b script_l script_c quiet d (IntKind.i64.wrap (i + (1 : Int))) w) = kstep Try.prog 61 Try.f6.results.toList (Try.f6.body.getD .skip) (socklaw_walk.RV R) (kvc Try.prog 61 Try.f6.results.toList (Try.f6.body.getD .skip) (socklaw_walk.RV R) [([(0, [1, 1, 1, 1, 1, 0, 1, 0, 0]), (2, [1, 1, 1, 1, 1, 0, 1, 0, 0]), (1, [0]), (0, [1, 1, 1, 1, 1, 1])], fun σ w => dL (slotOf σ 0) fun script_b_ script_l_ script_c_ => dB (slotOf σ 1) fun quiet_ => dK (slotOf σ 8) fun d_ => dI .i64 (slotOf σ 9) fun i_ => N1 script_b_ script_l_ script_c_ quiet_ d_ i_ w)] 2000) [(0, [1, 1, 1, 1, 1, 0, 1, 0, 0, 1, 1]), (2, [1, 1, 1, 1, 1, 0, 1, 0, 0]), (1, [0]), (0, [1, 1, 1, 1, 1, 1])] [(0, .slice script_b script_l script_c), (1, .bool quiet), (8, .pointer (some ⟨d, 0, none⟩)), (9, .int .i64 i)] w := by kernel_rfl
theorem socklaw_walk.B3_sound {R : Int → Int → World → Prop} {N1 : Option Addr → Nat → Nat → Bool → Nat → Int → World → Prop} (hN1 : ∀ script_b script_l script_c quiet d i w, N1 script_b script_l script_c quiet d i w → KW Try.prog 6 61 (socklaw_walk.RV R) ([(0, [1, 1, 1, 1, 1, 0, 1, 0, 0]), (2, [1, 1, 1, 1, 1, 0, 1, 0, 0]), (1, [0]), (0, [1, 1, 1, 1, 1, 1])].map (toItem (Try.f6.body.getD .skip))) [(0, .slice script_b script_l script_c), (1, .bool quiet), (8, .pointer (some ⟨d, 0, none⟩)), (9, .int .i64 i)] w) (script_b : Option Addr) (script_l script_c : Nat) (quiet : Bool) (d : Nat) (i : Int) (w : World) (h : socklaw_walk.B3 script_b script_l script_c quiet d i w N1  R) :
    KW Try.prog 6 61 (socklaw_walk.RV R) ([(0, [1, 1, 1, 1, 1, 0, 1, 0, 0, 1, 1]), (2, [1, 1, 1, 1, 1, 0, 1, 0, 0]), (1, [0]), (0, [1, 1, 1, 1, 1, 1])].map (toItem (Try.f6.body.getD .skip))) [(0, .slice script_b script_l script_c), (1, .bool quiet), (8, .pointer (some ⟨d, 0, none⟩)), (9, .int .i64 i)] w := by
  exact block_spec Try.func6 Try.mixed (stops_cons (fun σ w h => by
      obtain ⟨script_b_, script_l_, script_c_, e0, h⟩ := dL_elim h
      obtain ⟨quiet_, e1, h⟩ := dB_elim h
      obtain ⟨d_, e2, h⟩ := dK_elim h
      obtain ⟨i_, e3, h⟩ := dI_elim h
      exact (hN1 script_b_ script_l_ script_c_ quiet_ d_ i_ w h).weaken (Sub.cons (Sub.cons (Sub.cons (Sub.cons (Sub.nil _) e3) e2) e1) e0)) stops_nil) (Eq.mp (socklaw_walk.B3_eq script_b script_l script_c quiet d i w N1  R ) h)
def socklaw_walk.B4 (d : Nat) (n : Int) (w : World)   (R : Int → Int → World → Prop) : Prop :=
  socklaw_Untouched.Call (some ⟨d, 0, none⟩) w fun r53 w1 =>
  Bm (!r53) (
    Bm (n == (0 : Int)) (
      R (0 : Int) (0 : Int) w1) (
      R (IntKind.i64.wrap (n - (1 : Int))) n w1)) (
    R (-1 : Int) n w1)
theorem socklaw_walk.B4_eq (d : Nat) (n : Int) (w : World)   (R : Int → Int → World → Prop)  :
    (
  socklaw_Untouched.Call (some ⟨d, 0, none⟩) w fun r53 w1 =>
  Bm (!r53) (
    Bm (n == (0 : Int)) (
      R (0 : Int) (0 : Int) w1) (
      R (IntKind.i64.wrap (n - (1 : Int))) n w1)) (
    R (-1 : Int) n w1)) = kstep Try.prog 61 Try.f6.results.toList (Try.f6.body.getD .skip) (socklaw_walk.RV R) (kvc Try.prog 61 Try.f6.results.toList (Try.f6.body.getD .skip) (socklaw_walk.RV R) [] 2000) [(0, [1, 1, 1, 1, 1, 1, 1, 1])] [(8, .pointer (some ⟨d, 0, none⟩)), (10, .int .i64 n)] w := by kernel_rfl
theorem socklaw_walk.B4_sound {R : Int → Int → World → Prop}  (d : Nat) (n : Int) (w : World) (h : socklaw_walk.B4 d n w   R) :
    KW Try.prog 6 61 (socklaw_walk.RV R) ([(0, [1, 1, 1, 1, 1, 1, 1, 1])].map (toItem (Try.f6.body.getD .skip))) [(8, .pointer (some ⟨d, 0, none⟩)), (10, .int .i64 n)] w := by
  exact block_spec Try.func6 Try.mixed stops_nil (Eq.mp (socklaw_walk.B4_eq d n w   R ) h)
def socklaw_walk.B2 (script_b : Option Addr) (script_l script_c : Nat) (quiet : Bool) (d : Nat) (i : Int) (t29 : Bool) (w : World) (N1 : Option Addr → Nat → Nat → Bool → Nat → Int → World → Prop)  (R : Int → Int → World → Prop) : Prop :=
  Bm t29 (
    Pn script_b fun a =>
    (0 ≤ i ∧ i < ((script_l : Nat) : Int)) ∧
    LdI .i64 (Addr.add a (i.toNat * 6)) w fun x36_0 =>
    LdI .i64 ((Addr.add a (i.toNat * 6)).add 1) w fun x36_1 =>
    LdI .i64 ((Addr.add a (i.toNat * 6)).add 2) w fun x36_2 =>
    LdI .i64 ((Addr.add a (i.toNat * 6)).add 3) w fun x36_3 =>
    LdS ((Addr.add a (i.toNat * 6)).add 4) w fun x36_4 =>
    LdS ((Addr.add a (i.toNat * 6)).add 5) w fun x36_5 =>
    socklaw_Play.Call (some ⟨d, 0, none⟩) x36_0 x36_1 x36_2 x36_3 x36_4 x36_5 w fun r37 w1 =>
    Bm (!r37) (
      R i i w1) (
      Bm (!quiet) (
        socklaw_Alike.Call (some ⟨d, 0, none⟩) w1 fun r44 w2 =>
        Bm (!r44) (
          R i i w2) (
          socklaw_walk.B3 script_b script_l script_c quiet d i w2 N1 R)) (
        socklaw_walk.B3 script_b script_l script_c quiet d i w1 N1 R))) (
    Bm (decide (((script_l : Nat) : Int) > (1048576 : Int))) (
      socklaw_walk.B4 d (1048576 : Int) w  R) (
      socklaw_walk.B4 d ((script_l : Nat) : Int) w  R))
theorem socklaw_walk.B2_eq (script_b : Option Addr) (script_l script_c : Nat) (quiet : Bool) (d : Nat) (i : Int) (t29 : Bool) (w : World) (N1 : Option Addr → Nat → Nat → Bool → Nat → Int → World → Prop)  (R : Int → Int → World → Prop) (sB3 : Option Addr → Nat → Nat → Bool → Nat → Int → World → Prop) (sB4 : Nat → Int → World → Prop) :
    (
  Bm t29 (
    Pn script_b fun a =>
    (0 ≤ i ∧ i < ((script_l : Nat) : Int)) ∧
    LdI .i64 (Addr.add a (i.toNat * 6)) w fun x36_0 =>
    LdI .i64 ((Addr.add a (i.toNat * 6)).add 1) w fun x36_1 =>
    LdI .i64 ((Addr.add a (i.toNat * 6)).add 2) w fun x36_2 =>
    LdI .i64 ((Addr.add a (i.toNat * 6)).add 3) w fun x36_3 =>
    LdS ((Addr.add a (i.toNat * 6)).add 4) w fun x36_4 =>
    LdS ((Addr.add a (i.toNat * 6)).add 5) w fun x36_5 =>
    socklaw_Play.Call (some ⟨d, 0, none⟩) x36_0 x36_1 x36_2 x36_3 x36_4 x36_5 w fun r37 w1 =>
    Bm (!r37) (
      R i i w1) (
      Bm (!quiet) (
        socklaw_Alike.Call (some ⟨d, 0, none⟩) w1 fun r44 w2 =>
        Bm (!r44) (
          R i i w2) (
          sB3 script_b script_l script_c quiet d i w2)) (
        sB3 script_b script_l script_c quiet d i w1))) (
    Bm (decide (((script_l : Nat) : Int) > (1048576 : Int))) (
      sB4 d (1048576 : Int) w) (
      sB4 d ((script_l : Nat) : Int) w))) = kstep Try.prog 61 Try.f6.results.toList (Try.f6.body.getD .skip) (socklaw_walk.RV R) (kvc Try.prog 61 Try.f6.results.toList (Try.f6.body.getD .skip) (socklaw_walk.RV R) [([(0, [1, 1, 1, 1, 1, 0, 1, 0, 0, 1, 1]), (2, [1, 1, 1, 1, 1, 0, 1, 0, 0]), (1, [0]), (0, [1, 1, 1, 1, 1, 1])], fun σ w => dL (slotOf σ 0) fun script_b_ script_l_ script_c_ => dB (slotOf σ 1) fun quiet_ => dK (slotOf σ 8) fun d_ => dI .i64 (slotOf σ 9) fun i_ => sB3 script_b_ script_l_ script_c_ quiet_ d_ i_ w),
    ([(0, [1, 1, 1, 1, 1, 1, 1, 1])], fun σ w => dK (slotOf σ 8) fun d_ => dI .i64 (slotOf σ 10) fun n_ => sB4 d_ n_ w)] 2000) [(0, [1, 1, 1, 1, 1, 0, 1, 0, 0, 0, 1]), (0, [1, 1, 1, 1, 1, 0, 1, 0, 0, 1]), (2, [1, 1, 1, 1, 1, 0, 1, 0, 0]), (1, [0]), (0, [1, 1, 1, 1, 1, 1])] [(0, .slice script_b script_l script_c), (1, .bool quiet), (8, .pointer (some ⟨d, 0, none⟩)), (9, .int .i64 i), (29, .bool t29)] w := by kernel_rfl
theorem socklaw_walk.B2_sound {R : Int → Int → World → Prop} {N1 : Option Addr → Nat → Nat → Bool → Nat → Int → World → Prop} (hN1 : ∀ script_b script_l script_c quiet d i w, N1 script_b script_l script_c quiet d i w → KW Try.prog 6 61 (socklaw_walk.RV R) ([(0, [1, 1, 1, 1, 1, 0, 1, 0, 0]), (2, [1, 1, 1, 1, 1, 0, 1, 0, 0]), (1, [0]), (0, [1, 1, 1, 1, 1, 1])].map (toItem (Try.f6.body.getD .skip))) [(0, .slice script_b script_l script_c), (1, .bool quiet), (8, .pointer (some ⟨d, 0, none⟩)), (9, .int .i64 i)] w) (script_b : Option Addr) (script_l script_c : Nat) (quiet : Bool) (d : Nat) (i : Int) (t29 : Bool) (w : World) (h : socklaw_walk.B2 script_b script_l script_c quiet d i t29 w N1  R) :
    KW Try.prog 6 61 (socklaw_walk.RV R) ([(0, [1, 1, 1, 1, 1, 0, 1, 0, 0, 0, 1]), (0, [1, 1, 1, 1, 1, 0, 1, 0, 0, 1]), (2, [1, 1, 1, 1, 1, 0, 1, 0, 0]), (1, [0]), (0, [1, 1, 1, 1, 1, 1])].map (toItem (Try.f6.body.getD .skip))) [(0, .slice script_b script_l script_c), (1, .bool quiet), (8, .pointer (some ⟨d, 0, none⟩)), (9, .int .i64 i), (29, .bool t29)] w := by
  exact block_spec Try.func6 Try.mixed (stops_cons (fun σ w h => by
      obtain ⟨script_b_, script_l_, script_c_, e0, h⟩ := dL_elim h
      obtain ⟨quiet_, e1, h⟩ := dB_elim h
      obtain ⟨d_, e2, h⟩ := dK_elim h
      obtain ⟨i_, e3, h⟩ := dI_elim h
      exact (socklaw_walk.B3_sound hN1 script_b_ script_l_ script_c_ quiet_ d_ i_ w h).weaken (Sub.cons (Sub.cons (Sub.cons (Sub.cons (Sub.nil _) e3) e2) e1) e0)) (stops_cons (fun σ w h => by
      obtain ⟨d_, e0, h⟩ := dK_elim h
      obtain ⟨n_, e1, h⟩ := dI_elim h
      exact (socklaw_walk.B4_sound  d_ n_ w h).weaken (Sub.cons (Sub.cons (Sub.nil _) e1) e0)) stops_nil)) (Eq.mp (socklaw_walk.B2_eq script_b script_l script_c quiet d i t29 w N1  R (fun script_b_ script_l_ script_c_ quiet_ d_ i_ w => socklaw_walk.B3 script_b_ script_l_ script_c_ quiet_ d_ i_ w N1 R) (fun d_ n_ w => socklaw_walk.B4 d_ n_ w  R)) h)
def socklaw_walk.L1b (script_b : Option Addr) (script_l script_c : Nat) (quiet : Bool) (d : Nat) (i : Int) (w : World)  (N1 : Option Addr → Nat → Nat → Bool → Nat → Int → World → Prop) (R : Int → Int → World → Prop) : Prop :=
  Bm (decide (i < ((script_l : Nat) : Int))) (
    socklaw_walk.B2 script_b script_l script_c quiet d i (decide (i < (1048576 : Int))) w N1 R) (
    socklaw_walk.B2 script_b script_l script_c quiet d i false w N1 R)
theorem socklaw_walk.L1b_eq (script_b : Option Addr) (script_l script_c : Nat) (quiet : Bool) (d : Nat) (i : Int) (w : World)  (N1 : Option Addr → Nat → Nat → Bool → Nat → Int → World → Prop) (R : Int → Int → World → Prop) (sB2 : Option Addr → Nat → Nat → Bool → Nat → Int → Bool → World → Prop) :
    (
  Bm (decide (i < ((script_l : Nat) : Int))) (
    sB2 script_b script_l script_c quiet d i (decide (i < (1048576 : Int))) w) (
    sB2 script_b script_l script_c quiet d i false w)) = kstep Try.prog 61 Try.f6.results.toList (Try.f6.body.getD .skip) (socklaw_walk.RV R) (kvc Try.prog 61 Try.f6.results.toList (Try.f6.body.getD .skip) (socklaw_walk.RV R) [([(0, [1, 1, 1, 1, 1, 0, 1, 0, 0, 0, 1]), (0, [1, 1, 1, 1, 1, 0, 1, 0, 0, 1]), (2, [1, 1, 1, 1, 1, 0, 1, 0, 0]), (1, [0]), (0, [1, 1, 1, 1, 1, 1])], fun σ w => dL (slotOf σ 0) fun script_b_ script_l_ script_c_ => dB (slotOf σ 1) fun quiet_ => dK (slotOf σ 8) fun d_ => dI .i64 (slotOf σ 9) fun i_ => dB (slotOf σ 29) fun t29_ => sB2 script_b_ script_l_ script_c_ quiet_ d_ i_ t29_ w)] 2000) [(0, [1, 1, 1, 1, 1, 0, 1, 0, 0]), (2, [1, 1, 1, 1, 1, 0, 1, 0, 0]), (1, [0]), (0, [1, 1, 1, 1, 1, 1])] [(0, .slice script_b script_l script_c), (1, .bool quiet), (8, .pointer (some ⟨d, 0, none⟩)), (9, .int .i64 i)] w := by kernel_rfl
theorem socklaw_walk.L1b_sound {R : Int → Int → World → Prop} {N1 : Option Addr → Nat → Nat → Bool → Nat → Int → World → Prop} (hN1 : ∀ script_b script_l script_c quiet d i w, N1 script_b script_l script_c quiet d i w → KW Try.prog 6 61 (socklaw_walk.RV R) ([(0, [1, 1, 1, 1, 1, 0, 1, 0, 0]), (2, [1, 1, 1, 1, 1, 0, 1, 0, 0]), (1, [0]), (0, [1, 1, 1, 1, 1, 1])].map (toItem (Try.f6.body.getD .skip))) [(0, .slice script_b script_l script_c), (1, .bool quiet), (8, .pointer (some ⟨d, 0, none⟩)), (9, .int .i64 i)] w) (script_b : Option Addr) (script_l script_c : Nat) (quiet : Bool) (d : Nat) (i : Int) (w : World) (h : socklaw_walk.L1b script_b script_l script_c quiet d i w  N1 R) :
    KW Try.prog 6 61 (socklaw_walk.RV R) ([(0, [1, 1, 1, 1, 1, 0, 1, 0, 0]), (2, [1, 1, 1, 1, 1, 0, 1, 0, 0]), (1, [0]), (0, [1, 1, 1, 1, 1, 1])].map (toItem (Try.f6.body.getD .skip))) [(0, .slice script_b script_l script_c), (1, .bool quiet), (8, .pointer (some ⟨d, 0, none⟩)), (9, .int .i64 i)] w := by
  exact block_spec Try.func6 Try.mixed (stops_cons (fun σ w h => by
      obtain ⟨script_b_, script_l_, script_c_, e0, h⟩ := dL_elim h
      obtain ⟨quiet_, e1, h⟩ := dB_elim h
      obtain ⟨d_, e2, h⟩ := dK_elim h
      obtain ⟨i_, e3, h⟩ := dI_elim h
      obtain ⟨t29_, e4, h⟩ := dB_elim h
      exact (socklaw_walk.B2_sound hN1 script_b_ script_l_ script_c_ quiet_ d_ i_ t29_ w h).weaken (Sub.cons (Sub.cons (Sub.cons (Sub.cons (Sub.cons (Sub.nil _) e4) e3) e2) e1) e0)) stops_nil) (Eq.mp (socklaw_walk.L1b_eq script_b script_l script_c quiet d i w  N1 R (fun script_b_ script_l_ script_c_ quiet_ d_ i_ t29_ w => socklaw_walk.B2 script_b_ script_l_ script_c_ quiet_ d_ i_ t29_ w N1 R)) h)
def socklaw_walk.L1 (script_b : Option Addr) (script_l script_c : Nat) (quiet : Bool) (d : Nat) (i : Int) (w : World)  (R : Int → Int → World → Prop) : Prop :=
  ∃ (I : Nat → Option Addr → Nat → Nat → Bool → Nat → Int → World → Prop) (m : Nat), I m script_b script_l script_c quiet d i w ∧ ∀ m script_b script_l script_c quiet d i w, I m script_b script_l script_c quiet d i w → socklaw_walk.L1b script_b script_l script_c quiet d i w  (fun script_b' script_l' script_c' quiet' d' i' w' => ∃ m', m' < m ∧ I m' script_b' script_l' script_c' quiet' d' i' w') R
theorem socklaw_walk.L1_sound {R : Int → Int → World → Prop}  (script_b : Option Addr) (script_l script_c : Nat) (quiet : Bool) (d : Nat) (i : Int) (w : World) (h : socklaw_walk.L1 script_b script_l script_c quiet d i w  R) :
    KW Try.prog 6 61 (socklaw_walk.RV R) ([(0, [1, 1, 1, 1, 1, 0, 1, 0, 0]), (2, [1, 1, 1, 1, 1, 0, 1, 0, 0]), (1, [0]), (0, [1, 1, 1, 1, 1, 1])].map (toItem (Try.f6.body.getD .skip))) [(0, .slice script_b script_l script_c), (1, .bool quiet), (8, .pointer (some ⟨d, 0, none⟩)), (9, .int .i64 i)] w := by
  obtain ⟨I, m, hBase, hr⟩ := h
  refine KW.loop (fun m σ w => ∃ (script_b : Option Addr) (script_l script_c : Nat) (quiet : Bool) (d : Nat) (i : Int), σ = [(0, .slice script_b script_l script_c), (1, .bool quiet), (8, .pointer (some ⟨d, 0, none⟩)), (9, .int .i64 i)] ∧ I m script_b script_l script_c quiet d i w) ?_ m _ w ⟨script_b, script_l, script_c, quiet, d, i, rfl, hBase⟩
  rintro m ih σ w ⟨script_b, script_l, script_c, quiet, d, i, rfl, hI⟩
  exact socklaw_walk.L1b_sound  (N1 := fun script_b' script_l' script_c' quiet' d' i' w' => ∃ m', m' < m ∧ I m' script_b' script_l' script_c' quiet' d' i' w') (fun script_b' script_l' script_c' quiet' d' i' w' hx => by obtain ⟨m', hlt, hI'⟩ := hx; exact ih m' hlt _ w' ⟨script_b', script_l', script_c', quiet', d', i', rfl, hI'⟩) script_b script_l script_c quiet d i w (hr m script_b script_l script_c quiet d i w hI)
def socklaw_walk.B1 (script_b : Option Addr) (script_l script_c : Nat) (quiet : Bool) (d : Nat) (w : World)   (R : Int → Int → World → Prop) : Prop :=
  socklaw_walk.L1 script_b script_l script_c quiet d (0 : Int) w  R
theorem socklaw_walk.B1_eq (script_b : Option Addr) (script_l script_c : Nat) (quiet : Bool) (d : Nat) (w : World)   (R : Int → Int → World → Prop) (sL1 : Option Addr → Nat → Nat → Bool → Nat → Int → World → Prop) :
    (
  sL1 script_b script_l script_c quiet d (0 : Int) w) = kstep Try.prog 61 Try.f6.results.toList (Try.f6.body.getD .skip) (socklaw_walk.RV R) (kvc Try.prog 61 Try.f6.results.toList (Try.f6.body.getD .skip) (socklaw_walk.RV R) [([(0, [1, 1, 1, 1, 1, 0, 1, 0, 0]), (2, [1, 1, 1, 1, 1, 0, 1, 0, 0]), (1, [0]), (0, [1, 1, 1, 1, 1, 1])], fun σ w => dL (slotOf σ 0) fun script_b_ script_l_ script_c_ => dB (slotOf σ 1) fun quiet_ => dK (slotOf σ 8) fun d_ => dI .i64 (slotOf σ 9) fun i_ => sL1 script_b_ script_l_ script_c_ quiet_ d_ i_ w)] 2000) [(0, [1, 1, 1, 1, 1])] [(0, .slice script_b script_l script_c), (1, .bool quiet), (8, .pointer (some ⟨d, 0, none⟩))] w := by kernel_rfl
theorem socklaw_walk.B1_sound {R : Int → Int → World → Prop}  (script_b : Option Addr) (script_l script_c : Nat) (quiet : Bool) (d : Nat) (w : World) (h : socklaw_walk.B1 script_b script_l script_c quiet d w   R) :
    KW Try.prog 6 61 (socklaw_walk.RV R) ([(0, [1, 1, 1, 1, 1])].map (toItem (Try.f6.body.getD .skip))) [(0, .slice script_b script_l script_c), (1, .bool quiet), (8, .pointer (some ⟨d, 0, none⟩))] w := by
  exact block_spec Try.func6 Try.mixed (stops_cons (fun σ w h => by
      obtain ⟨script_b_, script_l_, script_c_, e0, h⟩ := dL_elim h
      obtain ⟨quiet_, e1, h⟩ := dB_elim h
      obtain ⟨d_, e2, h⟩ := dK_elim h
      obtain ⟨i_, e3, h⟩ := dI_elim h
      exact (socklaw_walk.L1_sound  script_b_ script_l_ script_c_ quiet_ d_ i_ w h).weaken (Sub.cons (Sub.cons (Sub.cons (Sub.cons (Sub.nil _) e3) e2) e1) e0)) stops_nil) (Eq.mp (socklaw_walk.B1_eq script_b script_l script_c quiet d w   R (fun script_b_ script_l_ script_c_ quiet_ d_ i_ w => socklaw_walk.L1 script_b_ script_l_ script_c_ quiet_ d_ i_ w  R)) h)
def socklaw_walk.B0 (script_b : Option Addr) (script_l script_c : Nat) (quiet : Bool) (w : World)   (R : Int → Int → World → Prop) : Prop :=
  sock_New.Call  w fun r11 w1 =>
  sockm_New.Call  w1 fun r12 w2 =>
  New (.cells #[.pointer r11, .pointer r12, .slice none 0 0] 34) w2 fun b16 w3 =>
  Bm (!quiet) (
    socklaw_Alike.Call (some ⟨b16, 0, none⟩) w3 fun r20 w4 =>
    Bm (!r20) (
      R (0 : Int) (0 : Int) w4) (
      socklaw_walk.B1 script_b script_l script_c quiet b16 w4  R)) (
    socklaw_walk.B1 script_b script_l script_c quiet b16 w3  R)
theorem socklaw_walk.B0_eq (script_b : Option Addr) (script_l script_c : Nat) (quiet : Bool) (w : World)   (R : Int → Int → World → Prop) (sB1 : Option Addr → Nat → Nat → Bool → Nat → World → Prop) :
    (
  sock_New.Call  w fun r11 w1 =>
  sockm_New.Call  w1 fun r12 w2 =>
  New (.cells #[.pointer r11, .pointer r12, .slice none 0 0] 34) w2 fun b16 w3 =>
  Bm (!quiet) (
    socklaw_Alike.Call (some ⟨b16, 0, none⟩) w3 fun r20 w4 =>
    Bm (!r20) (
      R (0 : Int) (0 : Int) w4) (
      sB1 script_b script_l script_c quiet b16 w4)) (
    sB1 script_b script_l script_c quiet b16 w3)) = kstep Try.prog 61 Try.f6.results.toList (Try.f6.body.getD .skip) (socklaw_walk.RV R) (kvc Try.prog 61 Try.f6.results.toList (Try.f6.body.getD .skip) (socklaw_walk.RV R) [([(0, [1, 1, 1, 1, 1])], fun σ w => dL (slotOf σ 0) fun script_b_ script_l_ script_c_ => dB (slotOf σ 1) fun quiet_ => dK (slotOf σ 8) fun d_ => sB1 script_b_ script_l_ script_c_ quiet_ d_ w)] 2000) [(0, [])] [(0, .slice script_b script_l script_c), (1, .bool quiet)] w := by kernel_rfl
theorem socklaw_walk.B0_sound {R : Int → Int → World → Prop}  (script_b : Option Addr) (script_l script_c : Nat) (quiet : Bool) (w : World) (h : socklaw_walk.B0 script_b script_l script_c quiet w   R) :
    KW Try.prog 6 61 (socklaw_walk.RV R) ([(0, [])].map (toItem (Try.f6.body.getD .skip))) [(0, .slice script_b script_l script_c), (1, .bool quiet)] w := by
  exact block_spec Try.func6 Try.mixed (stops_cons (fun σ w h => by
      obtain ⟨script_b_, script_l_, script_c_, e0, h⟩ := dL_elim h
      obtain ⟨quiet_, e1, h⟩ := dB_elim h
      obtain ⟨d_, e2, h⟩ := dK_elim h
      exact (socklaw_walk.B1_sound  script_b_ script_l_ script_c_ quiet_ d_ w h).weaken (Sub.cons (Sub.cons (Sub.cons (Sub.nil _) e2) e1) e0)) stops_nil) (Eq.mp (socklaw_walk.B0_eq script_b script_l script_c quiet w   R (fun script_b_ script_l_ script_c_ quiet_ d_ w => socklaw_walk.B1 script_b_ script_l_ script_c_ quiet_ d_ w  R)) h)
theorem socklaw_walk.sound (script_b : Option Addr) (script_l script_c : Nat) (quiet : Bool) (w : World) (R : Int → Int → World → Prop) (h : socklaw_walk.B0 script_b script_l script_c quiet w R) : socklaw_walk.Call script_b script_l script_c quiet w R := by
  have hc := calls_of_block (args := #[.slice script_b script_l script_c, .bool quiet]) Try.func6 (body := (Try.f6.body.getD .skip)) (by kernel_rfl) (by kernel_rfl) (args_slot _) (socklaw_walk.B0_sound script_b script_l script_c quiet w h)
  exact hc.mono fun e w' he => by
    obtain ⟨v, rfl, hv⟩ := he
    exact socklaw_walk.RV_elim hv
def sock_New.L3b (t : Nat) (p : Int) (w : World)  (N3 : Nat → Int → World → Prop) (R : Option Addr → World → Prop) : Prop :=
  Bm (decide (p < (8 : Int))) (
    (0 ≤ p ∧ p < ((8 : Nat) : Int)) ∧
    Sts [.int .i64 (-1 : Int)] (Addr.add ⟨t, 95, none⟩ (p.toNat * 1)) 0 w fun w1 =>
    N3 t (IntKind.i64.wrap (p + (1 : Int))) w1) (
    R (some ⟨t, 0, none⟩) w)
theorem sock_New.L3b_eq (t : Nat) (p : Int) (w : World)  (N3 : Nat → Int → World → Prop) (R : Option Addr → World → Prop)  :
    (
  Bm (decide (p < (8 : Int))) (
    (0 ≤ p ∧ p < ((8 : Nat) : Int)) ∧
    Sts [.int .i64 (-1 : Int)] (Addr.add ⟨t, 95, none⟩ (p.toNat * 1)) 0 w fun w1 =>
    N3 t (IntKind.i64.wrap (p + (1 : Int))) w1) (
    R (some ⟨t, 0, none⟩) w)) = kstep Try.prog 43 Try.f7.results.toList (Try.f7.body.getD .skip) (sock_New.RV R) (kvc Try.prog 43 Try.f7.results.toList (Try.f7.body.getD .skip) (sock_New.RV R) [([(0, [1, 1, 1, 1, 1, 0, 1, 0, 0]), (2, [1, 1, 1, 1, 1, 0, 1, 0, 0]), (1, [4]), (0, [1, 1, 1, 1, 1, 1])], fun σ w => dK (slotOf σ 1) fun t_ => dI .i64 (slotOf σ 4) fun p_ => N3 t_ p_ w)] 2000) [(0, [1, 1, 1, 1, 1, 0, 1, 0, 0]), (2, [1, 1, 1, 1, 1, 0, 1, 0, 0]), (1, [4]), (0, [1, 1, 1, 1, 1, 1])] [(1, .pointer (some ⟨t, 0, none⟩)), (4, .int .i64 p)] w := by kernel_rfl
theorem sock_New.L3b_sound {R : Option Addr → World → Prop} {N3 : Nat → Int → World → Prop} (hN3 : ∀ t p w, N3 t p w → KW Try.prog 7 43 (sock_New.RV R) ([(0, [1, 1, 1, 1, 1, 0, 1, 0, 0]), (2, [1, 1, 1, 1, 1, 0, 1, 0, 0]), (1, [4]), (0, [1, 1, 1, 1, 1, 1])].map (toItem (Try.f7.body.getD .skip))) [(1, .pointer (some ⟨t, 0, none⟩)), (4, .int .i64 p)] w) (t : Nat) (p : Int) (w : World) (h : sock_New.L3b t p w  N3 R) :
    KW Try.prog 7 43 (sock_New.RV R) ([(0, [1, 1, 1, 1, 1, 0, 1, 0, 0]), (2, [1, 1, 1, 1, 1, 0, 1, 0, 0]), (1, [4]), (0, [1, 1, 1, 1, 1, 1])].map (toItem (Try.f7.body.getD .skip))) [(1, .pointer (some ⟨t, 0, none⟩)), (4, .int .i64 p)] w := by
  exact block_spec Try.func7 Try.mixed (stops_cons (fun σ w h => by
      obtain ⟨t_, e0, h⟩ := dK_elim h
      obtain ⟨p_, e1, h⟩ := dI_elim h
      exact (hN3 t_ p_ w h).weaken (Sub.cons (Sub.cons (Sub.nil _) e1) e0)) stops_nil) (Eq.mp (sock_New.L3b_eq t p w  N3 R ) h)
def sock_New.L3 (t : Nat) (p : Int) (w : World)  (R : Option Addr → World → Prop) : Prop :=
  ∃ (I : Nat → Nat → Int → World → Prop) (m : Nat), I m t p w ∧ ∀ m t p w, I m t p w → sock_New.L3b t p w  (fun t' p' w' => ∃ m', m' < m ∧ I m' t' p' w') R
theorem sock_New.L3_sound {R : Option Addr → World → Prop}  (t : Nat) (p : Int) (w : World) (h : sock_New.L3 t p w  R) :
    KW Try.prog 7 43 (sock_New.RV R) ([(0, [1, 1, 1, 1, 1, 0, 1, 0, 0]), (2, [1, 1, 1, 1, 1, 0, 1, 0, 0]), (1, [4]), (0, [1, 1, 1, 1, 1, 1])].map (toItem (Try.f7.body.getD .skip))) [(1, .pointer (some ⟨t, 0, none⟩)), (4, .int .i64 p)] w := by
  obtain ⟨I, m, hBase, hr⟩ := h
  refine KW.loop (fun m σ w => ∃ (t : Nat) (p : Int), σ = [(1, .pointer (some ⟨t, 0, none⟩)), (4, .int .i64 p)] ∧ I m t p w) ?_ m _ w ⟨t, p, rfl, hBase⟩
  rintro m ih σ w ⟨t, p, rfl, hI⟩
  exact sock_New.L3b_sound  (N3 := fun t' p' w' => ∃ m', m' < m ∧ I m' t' p' w') (fun t' p' w' hx => by obtain ⟨m', hlt, hI'⟩ := hx; exact ih m' hlt _ w' ⟨t', p', rfl, hI'⟩) t p w (hr m t p w hI)
def sock_New.L2b (t : Nat) (b : Int) (w : World)  (N2 : Nat → Int → World → Prop) (R : Option Addr → World → Prop) : Prop :=
  Bm (decide (b < (4 : Int))) (
    (0 ≤ b ∧ b < ((4 : Nat) : Int)) ∧
    Sts [.int .i64 (-1 : Int)] (Addr.add ⟨t, 91, none⟩ (b.toNat * 1)) 0 w fun w1 =>
    N2 t (IntKind.i64.wrap (b + (1 : Int))) w1) (
    sock_New.L3 t (0 : Int) w  R)
theorem sock_New.L2b_eq (t : Nat) (b : Int) (w : World)  (N2 : Nat → Int → World → Prop) (R : Option Addr → World → Prop) (sL3 : Nat → Int → World → Prop) :
    (
  Bm (decide (b < (4 : Int))) (
    (0 ≤ b ∧ b < ((4 : Nat) : Int)) ∧
    Sts [.int .i64 (-1 : Int)] (Addr.add ⟨t, 91, none⟩ (b.toNat * 1)) 0 w fun w1 =>
    N2 t (IntKind.i64.wrap (b + (1 : Int))) w1) (
    sL3 t (0 : Int) w)) = kstep Try.prog 43 Try.f7.results.toList (Try.f7.body.getD .skip) (sock_New.RV R) (kvc Try.prog 43 Try.f7.results.toList (Try.f7.body.getD .skip) (sock_New.RV R) [([(0, [1, 1, 1, 1, 0, 1, 0, 0]), (2, [1, 1, 1, 1, 0, 1, 0, 0]), (1, [2]), (0, [1, 1, 1, 1, 1])], fun σ w => dK (slotOf σ 1) fun t_ => dI .i64 (slotOf σ 3) fun b_ => N2 t_ b_ w),
    ([(0, [1, 1, 1, 1, 1, 0, 1, 0, 0]), (2, [1, 1, 1, 1, 1, 0, 1, 0, 0]), (1, [4]), (0, [1, 1, 1, 1, 1, 1])], fun σ w => dK (slotOf σ 1) fun t_ => dI .i64 (slotOf σ 4) fun p_ => sL3 t_ p_ w)] 2000) [(0, [1, 1, 1, 1, 0, 1, 0, 0]), (2, [1, 1, 1, 1, 0, 1, 0, 0]), (1, [2]), (0, [1, 1, 1, 1, 1])] [(1, .pointer (some ⟨t, 0, none⟩)), (3, .int .i64 b)] w := by kernel_rfl
theorem sock_New.L2b_sound {R : Option Addr → World → Prop} {N2 : Nat → Int → World → Prop} (hN2 : ∀ t b w, N2 t b w → KW Try.prog 7 43 (sock_New.RV R) ([(0, [1, 1, 1, 1, 0, 1, 0, 0]), (2, [1, 1, 1, 1, 0, 1, 0, 0]), (1, [2]), (0, [1, 1, 1, 1, 1])].map (toItem (Try.f7.body.getD .skip))) [(1, .pointer (some ⟨t, 0, none⟩)), (3, .int .i64 b)] w) (t : Nat) (b : Int) (w : World) (h : sock_New.L2b t b w  N2 R) :
    KW Try.prog 7 43 (sock_New.RV R) ([(0, [1, 1, 1, 1, 0, 1, 0, 0]), (2, [1, 1, 1, 1, 0, 1, 0, 0]), (1, [2]), (0, [1, 1, 1, 1, 1])].map (toItem (Try.f7.body.getD .skip))) [(1, .pointer (some ⟨t, 0, none⟩)), (3, .int .i64 b)] w := by
  exact block_spec Try.func7 Try.mixed (stops_cons (fun σ w h => by
      obtain ⟨t_, e0, h⟩ := dK_elim h
      obtain ⟨b_, e1, h⟩ := dI_elim h
      exact (hN2 t_ b_ w h).weaken (Sub.cons (Sub.cons (Sub.nil _) e1) e0)) (stops_cons (fun σ w h => by
      obtain ⟨t_, e0, h⟩ := dK_elim h
      obtain ⟨p_, e1, h⟩ := dI_elim h
      exact (sock_New.L3_sound  t_ p_ w h).weaken (Sub.cons (Sub.cons (Sub.nil _) e1) e0)) stops_nil)) (Eq.mp (sock_New.L2b_eq t b w  N2 R (fun t_ p_ w => sock_New.L3 t_ p_ w  R)) h)
def sock_New.L2 (t : Nat) (b : Int) (w : World)  (R : Option Addr → World → Prop) : Prop :=
  ∃ (I : Nat → Nat → Int → World → Prop) (m : Nat), I m t b w ∧ ∀ m t b w, I m t b w → sock_New.L2b t b w  (fun t' b' w' => ∃ m', m' < m ∧ I m' t' b' w') R
theorem sock_New.L2_sound {R : Option Addr → World → Prop}  (t : Nat) (b : Int) (w : World) (h : sock_New.L2 t b w  R) :
    KW Try.prog 7 43 (sock_New.RV R) ([(0, [1, 1, 1, 1, 0, 1, 0, 0]), (2, [1, 1, 1, 1, 0, 1, 0, 0]), (1, [2]), (0, [1, 1, 1, 1, 1])].map (toItem (Try.f7.body.getD .skip))) [(1, .pointer (some ⟨t, 0, none⟩)), (3, .int .i64 b)] w := by
  obtain ⟨I, m, hBase, hr⟩ := h
  refine KW.loop (fun m σ w => ∃ (t : Nat) (b : Int), σ = [(1, .pointer (some ⟨t, 0, none⟩)), (3, .int .i64 b)] ∧ I m t b w) ?_ m _ w ⟨t, b, rfl, hBase⟩
  rintro m ih σ w ⟨t, b, rfl, hI⟩
  exact sock_New.L2b_sound  (N2 := fun t' b' w' => ∃ m', m' < m ∧ I m' t' b' w') (fun t' b' w' hx => by obtain ⟨m', hlt, hI'⟩ := hx; exact ih m' hlt _ w' ⟨t', b', rfl, hI'⟩) t b w (hr m t b w hI)
def sock_New.L1b (t : Nat) (i : Int) (w : World)  (N1 : Nat → Int → World → Prop) (R : Option Addr → World → Prop) : Prop :=
  Bm (decide (i < (6 : Int))) (
    (0 ≤ i ∧ i < ((6 : Nat) : Int)) ∧
    Sts [.int .i64 (IntKind.i64.wrap (i + (1 : Int)))] ((Addr.add ⟨t, 0, none⟩ (i.toNat * 15)).add 9) 0 w fun w1 =>
    N1 t (IntKind.i64.wrap (i + (1 : Int))) w1) (
    (0 ≤ (5 : Int) ∧ (5 : Int) < ((6 : Nat) : Int)) ∧
    Sts [.int .i64 (-1 : Int)] ⟨t, 84, none⟩ 0 w fun w2 =>
    sock_New.L2 t (0 : Int) w2  R)
theorem sock_New.L1b_eq (t : Nat) (i : Int) (w : World)  (N1 : Nat → Int → World → Prop) (R : Option Addr → World → Prop) (sL2 : Nat → Int → World → Prop) :
    (
  Bm (decide (i < (6 : Int))) (
    (0 ≤ i ∧ i < ((6 : Nat) : Int)) ∧
    Sts [.int .i64 (IntKind.i64.wrap (i + (1 : Int)))] ((Addr.add ⟨t, 0, none⟩ (i.toNat * 15)).add 9) 0 w fun w1 =>
    N1 t (IntKind.i64.wrap (i + (1 : Int))) w1) (
    (0 ≤ (5 : Int) ∧ (5 : Int) < ((6 : Nat) : Int)) ∧
    Sts [.int .i64 (-1 : Int)] ⟨t, 84, none⟩ 0 w fun w2 =>
    sL2 t (0 : Int) w2)) = kstep Try.prog 43 Try.f7.results.toList (Try.f7.body.getD .skip) (sock_New.RV R) (kvc Try.prog 43 Try.f7.results.toList (Try.f7.body.getD .skip) (sock_New.RV R) [([(0, [1, 1, 0, 1, 0, 0]), (2, [1, 1, 0, 1, 0, 0]), (1, [0]), (0, [1, 1, 1])], fun σ w => dK (slotOf σ 1) fun t_ => dI .i64 (slotOf σ 2) fun i_ => N1 t_ i_ w),
    ([(0, [1, 1, 1, 1, 0, 1, 0, 0]), (2, [1, 1, 1, 1, 0, 1, 0, 0]), (1, [2]), (0, [1, 1, 1, 1, 1])], fun σ w => dK (slotOf σ 1) fun t_ => dI .i64 (slotOf σ 3) fun b_ => sL2 t_ b_ w)] 2000) [(0, [1, 1, 0, 1, 0, 0]), (2, [1, 1, 0, 1, 0, 0]), (1, [0]), (0, [1, 1, 1])] [(1, .pointer (some ⟨t, 0, none⟩)), (2, .int .i64 i)] w := by kernel_rfl
theorem sock_New.L1b_sound {R : Option Addr → World → Prop} {N1 : Nat → Int → World → Prop} (hN1 : ∀ t i w, N1 t i w → KW Try.prog 7 43 (sock_New.RV R) ([(0, [1, 1, 0, 1, 0, 0]), (2, [1, 1, 0, 1, 0, 0]), (1, [0]), (0, [1, 1, 1])].map (toItem (Try.f7.body.getD .skip))) [(1, .pointer (some ⟨t, 0, none⟩)), (2, .int .i64 i)] w) (t : Nat) (i : Int) (w : World) (h : sock_New.L1b t i w  N1 R) :
    KW Try.prog 7 43 (sock_New.RV R) ([(0, [1, 1, 0, 1, 0, 0]), (2, [1, 1, 0, 1, 0, 0]), (1, [0]), (0, [1, 1, 1])].map (toItem (Try.f7.body.getD .skip))) [(1, .pointer (some ⟨t, 0, none⟩)), (2, .int .i64 i)] w := by
  exact block_spec Try.func7 Try.mixed (stops_cons (fun σ w h => by
      obtain ⟨t_, e0, h⟩ := dK_elim h
      obtain ⟨i_, e1, h⟩ := dI_elim h
      exact (hN1 t_ i_ w h).weaken (Sub.cons (Sub.cons (Sub.nil _) e1) e0)) (stops_cons (fun σ w h => by
      obtain ⟨t_, e0, h⟩ := dK_elim h
      obtain ⟨b_, e1, h⟩ := dI_elim h
      exact (sock_New.L2_sound  t_ b_ w h).weaken (Sub.cons (Sub.cons (Sub.nil _) e1) e0)) stops_nil)) (Eq.mp (sock_New.L1b_eq t i w  N1 R (fun t_ b_ w => sock_New.L2 t_ b_ w  R)) h)
def sock_New.L1 (t : Nat) (i : Int) (w : World)  (R : Option Addr → World → Prop) : Prop :=
  ∃ (I : Nat → Nat → Int → World → Prop) (m : Nat), I m t i w ∧ ∀ m t i w, I m t i w → sock_New.L1b t i w  (fun t' i' w' => ∃ m', m' < m ∧ I m' t' i' w') R
theorem sock_New.L1_sound {R : Option Addr → World → Prop}  (t : Nat) (i : Int) (w : World) (h : sock_New.L1 t i w  R) :
    KW Try.prog 7 43 (sock_New.RV R) ([(0, [1, 1, 0, 1, 0, 0]), (2, [1, 1, 0, 1, 0, 0]), (1, [0]), (0, [1, 1, 1])].map (toItem (Try.f7.body.getD .skip))) [(1, .pointer (some ⟨t, 0, none⟩)), (2, .int .i64 i)] w := by
  obtain ⟨I, m, hBase, hr⟩ := h
  refine KW.loop (fun m σ w => ∃ (t : Nat) (i : Int), σ = [(1, .pointer (some ⟨t, 0, none⟩)), (2, .int .i64 i)] ∧ I m t i w) ?_ m _ w ⟨t, i, rfl, hBase⟩
  rintro m ih σ w ⟨t, i, rfl, hI⟩
  exact sock_New.L1b_sound  (N1 := fun t' i' w' => ∃ m', m' < m ∧ I m' t' i' w') (fun t' i' w' hx => by obtain ⟨m', hlt, hI'⟩ := hx; exact ih m' hlt _ w' ⟨t', i', rfl, hI'⟩) t i w (hr m t i w hI)
def sock_New.B0  (w : World)   (R : Option Addr → World → Prop) : Prop :=
  New (.cells #[.bool false, .int .i64 (0 : Int), .int .i64 (0 : Int), .int .i64 (0 : Int), .int .i64 (0 : Int), .int .i64 (0 : Int), .int .i64 (0 : Int), .int .i64 (0 : Int), .bool false, .int .i64 (0 : Int), .int .i64 (0 : Int), .int .i64 (0 : Int), .int .i64 (0 : Int), .int .i64 (0 : Int), .int .i64 (0 : Int), .bool false, .int .i64 (0 : Int), .int .i64 (0 : Int), .int .i64 (0 : Int), .int .i64 (0 : Int), .int .i64 (0 : Int), .int .i64 (0 : Int), .int .i64 (0 : Int), .bool false, .int .i64 (0 : Int), .int .i64 (0 : Int), .int .i64 (0 : Int), .int .i64 (0 : Int), .int .i64 (0 : Int), .int .i64 (0 : Int), .bool false, .int .i64 (0 : Int), .int .i64 (0 : Int), .int .i64 (0 : Int), .int .i64 (0 : Int), .int .i64 (0 : Int), .int .i64 (0 : Int), .int .i64 (0 : Int), .bool false, .int .i64 (0 : Int), .int .i64 (0 : Int), .int .i64 (0 : Int), .int .i64 (0 : Int), .int .i64 (0 : Int), .int .i64 (0 : Int), .bool false, .int .i64 (0 : Int), .int .i64 (0 : Int), .int .i64 (0 : Int), .int .i64 (0 : Int), .int .i64 (0 : Int), .int .i64 (0 : Int), .int .i64 (0 : Int), .bool false, .int .i64 (0 : Int), .int .i64 (0 : Int), .int .i64 (0 : Int), .int .i64 (0 : Int), .int .i64 (0 : Int), .int .i64 (0 : Int), .bool false, .int .i64 (0 : Int), .int .i64 (0 : Int), .int .i64 (0 : Int), .int .i64 (0 : Int), .int .i64 (0 : Int), .int .i64 (0 : Int), .int .i64 (0 : Int), .bool false, .int .i64 (0 : Int), .int .i64 (0 : Int), .int .i64 (0 : Int), .int .i64 (0 : Int), .int .i64 (0 : Int), .int .i64 (0 : Int), .bool false, .int .i64 (0 : Int), .int .i64 (0 : Int), .int .i64 (0 : Int), .int .i64 (0 : Int), .int .i64 (0 : Int), .int .i64 (0 : Int), .int .i64 (0 : Int), .bool false, .int .i64 (0 : Int), .int .i64 (0 : Int), .int .i64 (0 : Int), .int .i64 (0 : Int), .int .i64 (0 : Int), .int .i64 (0 : Int), .int .i64 (0 : Int), .int .i64 (0 : Int), .int .i64 (0 : Int), .int .i64 (0 : Int), .int .i64 (0 : Int), .int .i64 (0 : Int), .int .i64 (0 : Int), .int .i64 (0 : Int), .int .i64 (0 : Int), .int .i64 (0 : Int), .int .i64 (0 : Int), .int .i64 (0 : Int), .int .i64 (0 : Int), .int .u8 (0 : Int), .int .i64 (0 : Int), .int .i64 (1 : Int), .int .i64 (8 : Int)] 48) w fun b6 w1 =>
  sock_New.L1 b6 (0 : Int) w1  R
theorem sock_New.B0_eq  (w : World)   (R : Option Addr → World → Prop) (sL1 : Nat → Int → World → Prop) :
    (
  New (.cells #[.bool false, .int .i64 (0 : Int), .int .i64 (0 : Int), .int .i64 (0 : Int), .int .i64 (0 : Int), .int .i64 (0 : Int), .int .i64 (0 : Int), .int .i64 (0 : Int), .bool false, .int .i64 (0 : Int), .int .i64 (0 : Int), .int .i64 (0 : Int), .int .i64 (0 : Int), .int .i64 (0 : Int), .int .i64 (0 : Int), .bool false, .int .i64 (0 : Int), .int .i64 (0 : Int), .int .i64 (0 : Int), .int .i64 (0 : Int), .int .i64 (0 : Int), .int .i64 (0 : Int), .int .i64 (0 : Int), .bool false, .int .i64 (0 : Int), .int .i64 (0 : Int), .int .i64 (0 : Int), .int .i64 (0 : Int), .int .i64 (0 : Int), .int .i64 (0 : Int), .bool false, .int .i64 (0 : Int), .int .i64 (0 : Int), .int .i64 (0 : Int), .int .i64 (0 : Int), .int .i64 (0 : Int), .int .i64 (0 : Int), .int .i64 (0 : Int), .bool false, .int .i64 (0 : Int), .int .i64 (0 : Int), .int .i64 (0 : Int), .int .i64 (0 : Int), .int .i64 (0 : Int), .int .i64 (0 : Int), .bool false, .int .i64 (0 : Int), .int .i64 (0 : Int), .int .i64 (0 : Int), .int .i64 (0 : Int), .int .i64 (0 : Int), .int .i64 (0 : Int), .int .i64 (0 : Int), .bool false, .int .i64 (0 : Int), .int .i64 (0 : Int), .int .i64 (0 : Int), .int .i64 (0 : Int), .int .i64 (0 : Int), .int .i64 (0 : Int), .bool false, .int .i64 (0 : Int), .int .i64 (0 : Int), .int .i64 (0 : Int), .int .i64 (0 : Int), .int .i64 (0 : Int), .int .i64 (0 : Int), .int .i64 (0 : Int), .bool false, .int .i64 (0 : Int), .int .i64 (0 : Int), .int .i64 (0 : Int), .int .i64 (0 : Int), .int .i64 (0 : Int), .int .i64 (0 : Int), .bool false, .int .i64 (0 : Int), .int .i64 (0 : Int), .int .i64 (0 : Int), .int .i64 (0 : Int), .int .i64 (0 : Int), .int .i64 (0 : Int), .int .i64 (0 : Int), .bool false, .int .i64 (0 : Int), .int .i64 (0 : Int), .int .i64 (0 : Int), .int .i64 (0 : Int), .int .i64 (0 : Int), .int .i64 (0 : Int), .int .i64 (0 : Int), .int .i64 (0 : Int), .int .i64 (0 : Int), .int .i64 (0 : Int), .int .i64 (0 : Int), .int .i64 (0 : Int), .int .i64 (0 : Int), .int .i64 (0 : Int), .int .i64 (0 : Int), .int .i64 (0 : Int), .int .i64 (0 : Int), .int .i64 (0 : Int), .int .i64 (0 : Int), .int .u8 (0 : Int), .int .i64 (0 : Int), .int .i64 (1 : Int), .int .i64 (8 : Int)] 48) w fun b6 w1 =>
  sL1 b6 (0 : Int) w1) = kstep Try.prog 43 Try.f7.results.toList (Try.f7.body.getD .skip) (sock_New.RV R) (kvc Try.prog 43 Try.f7.results.toList (Try.f7.body.getD .skip) (sock_New.RV R) [([(0, [1, 1, 0, 1, 0, 0]), (2, [1, 1, 0, 1, 0, 0]), (1, [0]), (0, [1, 1, 1])], fun σ w => dK (slotOf σ 1) fun t_ => dI .i64 (slotOf σ 2) fun i_ => sL1 t_ i_ w)] 2000) [(0, [])] [] w := by kernel_rfl
theorem sock_New.B0_sound {R : Option Addr → World → Prop}   (w : World) (h : sock_New.B0  w   R) :
    KW Try.prog 7 43 (sock_New.RV R) ([(0, [])].map (toItem (Try.f7.body.getD .skip))) [] w := by
  exact block_spec Try.func7 Try.mixed (stops_cons (fun σ w h => by
      obtain ⟨t_, e0, h⟩ := dK_elim h
      obtain ⟨i_, e1, h⟩ := dI_elim h
      exact (sock_New.L1_sound  t_ i_ w h).weaken (Sub.cons (Sub.cons (Sub.nil _) e1) e0)) stops_nil) (Eq.mp (sock_New.B0_eq  w   R (fun t_ i_ w => sock_New.L1 t_ i_ w  R)) h)
theorem sock_New.sound  (w : World) (R : Option Addr → World → Prop) (h : sock_New.B0  w R) : sock_New.Call  w R := by
  have hc := calls_of_block (args := #[]) Try.func7 (body := (Try.f7.body.getD .skip)) (by kernel_rfl) (by kernel_rfl) (args_slot _) (sock_New.B0_sound  w h)
  exact hc.mono fun e w' he => by
    obtain ⟨v, rfl, hv⟩ := he
    exact sock_New.RV_elim hv
def sockm_New.B0  (w : World)   (R : Option Addr → World → Prop) : Prop :=
  New (.cells #[.slice none 0 0, .int .i64 (1 : Int), .int .i64 (8 : Int), .int .i64 (0 : Int)] 51) w fun b2 w1 =>
  R (some ⟨b2, 0, none⟩) w1
theorem sockm_New.B0_eq  (w : World)   (R : Option Addr → World → Prop)  :
    (
  New (.cells #[.slice none 0 0, .int .i64 (1 : Int), .int .i64 (8 : Int), .int .i64 (0 : Int)] 51) w fun b2 w1 =>
  R (some ⟨b2, 0, none⟩) w1) = kstep Try.prog 3 Try.f8.results.toList (Try.f8.body.getD .skip) (sockm_New.RV R) (kvc Try.prog 3 Try.f8.results.toList (Try.f8.body.getD .skip) (sockm_New.RV R) [] 2000) [(0, [])] [] w := by kernel_rfl
theorem sockm_New.B0_sound {R : Option Addr → World → Prop}   (w : World) (h : sockm_New.B0  w   R) :
    KW Try.prog 8 3 (sockm_New.RV R) ([(0, [])].map (toItem (Try.f8.body.getD .skip))) [] w := by
  exact block_spec Try.func8 Try.mixed stops_nil (Eq.mp (sockm_New.B0_eq  w   R ) h)
theorem sockm_New.sound  (w : World) (R : Option Addr → World → Prop) (h : sockm_New.B0  w R) : sockm_New.Call  w R := by
  have hc := calls_of_block (args := #[]) Try.func8 (body := (Try.f8.body.getD .skip)) (by kernel_rfl) (by kernel_rfl) (args_slot _) (sockm_New.B0_sound  w h)
  exact hc.mono fun e w' he => by
    obtain ⟨v, rfl, hv⟩ := he
    exact sockm_New.RV_elim hv
def socklaw_Alike.L2b (x m0 : Option Addr) (top p : Int) (w : World)  (N2 : Option Addr → Option Addr → Int → Int → World → Prop) (R : Bool → World → Prop) : Prop :=
  Bm (decide (p ≤ (16 : Int))) (
    socklaw_SameListener.Call x m0 p w fun r50 w1 =>
    Bm (!r50) (
      R false w1) (
      N2 x m0 top (IntKind.i64.wrap (p + (1 : Int))) w1)) (
    socklaw_SameGet.Call x m0 (0 : Int) w fun r54 w2 =>
    Bm (!r54) (
      R false w2) (
      socklaw_SameGet.Call x m0 (IntKind.i64.wrap (top + (1 : Int))) w2 fun r60 w3 =>
      Bm (!r60) (
        R false w3) (
        sock_Table_Check.Call x w3 fun r63 w4 =>
        R r63 w4)))
theorem socklaw_Alike.L2b_eq (x m0 : Option Addr) (top p : Int) (w : World)  (N2 : Option Addr → Option Addr → Int → Int → World → Prop) (R : Bool → World → Prop)  :
    (
  Bm (decide (p ≤ (16 : Int))) (
    socklaw_SameListener.Call x m0 p w fun r50 w1 =>
    Bm (!r50) (
      R false w1) (
      N2 x m0 top (IntKind.i64.wrap (p + (1 : Int))) w1)) (
    socklaw_SameGet.Call x m0 (0 : Int) w fun r54 w2 =>
    Bm (!r54) (
      R false w2) (
      socklaw_SameGet.Call x m0 (IntKind.i64.wrap (top + (1 : Int))) w2 fun r60 w3 =>
      Bm (!r60) (
        R false w3) (
        sock_Table_Check.Call x w3 fun r63 w4 =>
        R r63 w4)))) = kstep Try.prog 64 Try.f9.results.toList (Try.f9.body.getD .skip) (socklaw_Alike.RV R) (kvc Try.prog 64 Try.f9.results.toList (Try.f9.body.getD .skip) (socklaw_Alike.RV R) [([(0, [1, 1, 1, 1, 1, 1, 1, 0, 1, 0, 0]), (2, [1, 1, 1, 1, 1, 1, 1, 0, 1, 0, 0]), (1, [2]), (0, [1, 1, 1, 1, 1, 1, 1, 1])], fun σ w => dP (slotOf σ 3) fun x_ => dP (slotOf σ 4) fun m0_ => dI .i64 (slotOf σ 6) fun top_ => dI .i64 (slotOf σ 8) fun p_ => N2 x_ m0_ top_ p_ w)] 2000) [(0, [1, 1, 1, 1, 1, 1, 1, 0, 1, 0, 0]), (2, [1, 1, 1, 1, 1, 1, 1, 0, 1, 0, 0]), (1, [2]), (0, [1, 1, 1, 1, 1, 1, 1, 1])] [(3, .pointer x), (4, .pointer m0), (6, .int .i64 top), (8, .int .i64 p)] w := by kernel_rfl
theorem socklaw_Alike.L2b_sound {R : Bool → World → Prop} {N2 : Option Addr → Option Addr → Int → Int → World → Prop} (hN2 : ∀ x m0 top p w, N2 x m0 top p w → KW Try.prog 9 64 (socklaw_Alike.RV R) ([(0, [1, 1, 1, 1, 1, 1, 1, 0, 1, 0, 0]), (2, [1, 1, 1, 1, 1, 1, 1, 0, 1, 0, 0]), (1, [2]), (0, [1, 1, 1, 1, 1, 1, 1, 1])].map (toItem (Try.f9.body.getD .skip))) [(3, .pointer x), (4, .pointer m0), (6, .int .i64 top), (8, .int .i64 p)] w) (x m0 : Option Addr) (top p : Int) (w : World) (h : socklaw_Alike.L2b x m0 top p w  N2 R) :
    KW Try.prog 9 64 (socklaw_Alike.RV R) ([(0, [1, 1, 1, 1, 1, 1, 1, 0, 1, 0, 0]), (2, [1, 1, 1, 1, 1, 1, 1, 0, 1, 0, 0]), (1, [2]), (0, [1, 1, 1, 1, 1, 1, 1, 1])].map (toItem (Try.f9.body.getD .skip))) [(3, .pointer x), (4, .pointer m0), (6, .int .i64 top), (8, .int .i64 p)] w := by
  exact block_spec Try.func9 Try.mixed (stops_cons (fun σ w h => by
      obtain ⟨x_, e0, h⟩ := dP_elim h
      obtain ⟨m0_, e1, h⟩ := dP_elim h
      obtain ⟨top_, e2, h⟩ := dI_elim h
      obtain ⟨p_, e3, h⟩ := dI_elim h
      exact (hN2 x_ m0_ top_ p_ w h).weaken (Sub.cons (Sub.cons (Sub.cons (Sub.cons (Sub.nil _) e3) e2) e1) e0)) stops_nil) (Eq.mp (socklaw_Alike.L2b_eq x m0 top p w  N2 R ) h)
def socklaw_Alike.L2 (x m0 : Option Addr) (top p : Int) (w : World)  (R : Bool → World → Prop) : Prop :=
  ∃ (I : Nat → Option Addr → Option Addr → Int → Int → World → Prop) (m : Nat), I m x m0 top p w ∧ ∀ m x m0 top p w, I m x m0 top p w → socklaw_Alike.L2b x m0 top p w  (fun x' m0' top' p' w' => ∃ m', m' < m ∧ I m' x' m0' top' p' w') R
theorem socklaw_Alike.L2_sound {R : Bool → World → Prop}  (x m0 : Option Addr) (top p : Int) (w : World) (h : socklaw_Alike.L2 x m0 top p w  R) :
    KW Try.prog 9 64 (socklaw_Alike.RV R) ([(0, [1, 1, 1, 1, 1, 1, 1, 0, 1, 0, 0]), (2, [1, 1, 1, 1, 1, 1, 1, 0, 1, 0, 0]), (1, [2]), (0, [1, 1, 1, 1, 1, 1, 1, 1])].map (toItem (Try.f9.body.getD .skip))) [(3, .pointer x), (4, .pointer m0), (6, .int .i64 top), (8, .int .i64 p)] w := by
  obtain ⟨I, m, hBase, hr⟩ := h
  refine KW.loop (fun m σ w => ∃ (x m0 : Option Addr) (top p : Int), σ = [(3, .pointer x), (4, .pointer m0), (6, .int .i64 top), (8, .int .i64 p)] ∧ I m x m0 top p w) ?_ m _ w ⟨x, m0, top, p, rfl, hBase⟩
  rintro m ih σ w ⟨x, m0, top, p, rfl, hI⟩
  exact socklaw_Alike.L2b_sound  (N2 := fun x' m0' top' p' w' => ∃ m', m' < m ∧ I m' x' m0' top' p' w') (fun x' m0' top' p' w' hx => by obtain ⟨m', hlt, hI'⟩ := hx; exact ih m' hlt _ w' ⟨x', m0', top', p', rfl, hI'⟩) x m0 top p w (hr m x m0 top p w hI)
def socklaw_Alike.L1b (d x m0 l_b : Option Addr) (l_l l_c : Nat) (top i : Int) (w : World)  (N1 : Option Addr → Option Addr → Option Addr → Option Addr → Nat → Nat → Int → Int → World → Prop) (R : Bool → World → Prop) : Prop :=
  Bm (decide (i < ((l_l : Nat) : Int))) (
    Pn l_b fun a =>
    (0 ≤ i ∧ i < ((l_l : Nat) : Int)) ∧
    LdI .i64 (Addr.add a (i.toNat * 1)) w fun x36 =>
    socklaw_SameRow.Call d x36 w fun r37 w1 =>
    Bm (!r37) (
      R false w1) (
      Pn l_b fun a_1 =>
      (0 ≤ i ∧ i < ((l_l : Nat) : Int)) ∧
      LdI .i64 (Addr.add a_1 (i.toNat * 1)) w1 fun x42 =>
      N1 d x m0 l_b l_l l_c x42 (IntKind.i64.wrap (i + (1 : Int))) w1)) (
    socklaw_Alike.L2 x m0 top (0 : Int) w  R)
theorem socklaw_Alike.L1b_eq (d x m0 l_b : Option Addr) (l_l l_c : Nat) (top i : Int) (w : World)  (N1 : Option Addr → Option Addr → Option Addr → Option Addr → Nat → Nat → Int → Int → World → Prop) (R : Bool → World → Prop) (sL2 : Option Addr → Option Addr → Int → Int → World → Prop) :
    (
  Bm (decide (i < ((l_l : Nat) : Int))) (
    Pn l_b fun a =>
    (0 ≤ i ∧ i < ((l_l : Nat) : Int)) ∧
    LdI .i64 (Addr.add a (i.toNat * 1)) w fun x36 =>
    socklaw_SameRow.Call d x36 w fun r37 w1 =>
    Bm (!r37) (
      R false w1) (
      Pn l_b fun a_1 =>
      (0 ≤ i ∧ i < ((l_l : Nat) : Int)) ∧
      LdI .i64 (Addr.add a_1 (i.toNat * 1)) w1 fun x42 =>
      N1 d x m0 l_b l_l l_c x42 (IntKind.i64.wrap (i + (1 : Int))) w1)) (
    sL2 x m0 top (0 : Int) w)) = kstep Try.prog 64 Try.f9.results.toList (Try.f9.body.getD .skip) (socklaw_Alike.RV R) (kvc Try.prog 64 Try.f9.results.toList (Try.f9.body.getD .skip) (socklaw_Alike.RV R) [([(0, [1, 1, 1, 1, 1, 1, 0, 1, 0, 0]), (2, [1, 1, 1, 1, 1, 1, 0, 1, 0, 0]), (1, [0]), (0, [1, 1, 1, 1, 1, 1, 1])], fun σ w => dP (slotOf σ 0) fun d_ => dP (slotOf σ 3) fun x_ => dP (slotOf σ 4) fun m0_ => dL (slotOf σ 5) fun l_b_ l_l_ l_c_ => dI .i64 (slotOf σ 6) fun top_ => dI .i64 (slotOf σ 7) fun i_ => N1 d_ x_ m0_ l_b_ l_l_ l_c_ top_ i_ w),
    ([(0, [1, 1, 1, 1, 1, 1, 1, 0, 1, 0, 0]), (2, [1, 1, 1, 1, 1, 1, 1, 0, 1, 0, 0]), (1, [2]), (0, [1, 1, 1, 1, 1, 1, 1, 1])], fun σ w => dP (slotOf σ 3) fun x_ => dP (slotOf σ 4) fun m0_ => dI .i64 (slotOf σ 6) fun top_ => dI .i64 (slotOf σ 8) fun p_ => sL2 x_ m0_ top_ p_ w)] 2000) [(0, [1, 1, 1, 1, 1, 1, 0, 1, 0, 0]), (2, [1, 1, 1, 1, 1, 1, 0, 1, 0, 0]), (1, [0]), (0, [1, 1, 1, 1, 1, 1, 1])] [(0, .pointer d), (3, .pointer x), (4, .pointer m0), (5, .slice l_b l_l l_c), (6, .int .i64 top), (7, .int .i64 i)] w := by kernel_rfl
theorem socklaw_Alike.L1b_sound {R : Bool → World → Prop} {N1 : Option Addr → Option Addr → Option Addr → Option Addr → Nat → Nat → Int → Int → World → Prop} (hN1 : ∀ d x m0 l_b l_l l_c top i w, N1 d x m0 l_b l_l l_c top i w → KW Try.prog 9 64 (socklaw_Alike.RV R) ([(0, [1, 1, 1, 1, 1, 1, 0, 1, 0, 0]), (2, [1, 1, 1, 1, 1, 1, 0, 1, 0, 0]), (1, [0]), (0, [1, 1, 1, 1, 1, 1, 1])].map (toItem (Try.f9.body.getD .skip))) [(0, .pointer d), (3, .pointer x), (4, .pointer m0), (5, .slice l_b l_l l_c), (6, .int .i64 top), (7, .int .i64 i)] w) (d x m0 l_b : Option Addr) (l_l l_c : Nat) (top i : Int) (w : World) (h : socklaw_Alike.L1b d x m0 l_b l_l l_c top i w  N1 R) :
    KW Try.prog 9 64 (socklaw_Alike.RV R) ([(0, [1, 1, 1, 1, 1, 1, 0, 1, 0, 0]), (2, [1, 1, 1, 1, 1, 1, 0, 1, 0, 0]), (1, [0]), (0, [1, 1, 1, 1, 1, 1, 1])].map (toItem (Try.f9.body.getD .skip))) [(0, .pointer d), (3, .pointer x), (4, .pointer m0), (5, .slice l_b l_l l_c), (6, .int .i64 top), (7, .int .i64 i)] w := by
  exact block_spec Try.func9 Try.mixed (stops_cons (fun σ w h => by
      obtain ⟨d_, e0, h⟩ := dP_elim h
      obtain ⟨x_, e1, h⟩ := dP_elim h
      obtain ⟨m0_, e2, h⟩ := dP_elim h
      obtain ⟨l_b_, l_l_, l_c_, e3, h⟩ := dL_elim h
      obtain ⟨top_, e4, h⟩ := dI_elim h
      obtain ⟨i_, e5, h⟩ := dI_elim h
      exact (hN1 d_ x_ m0_ l_b_ l_l_ l_c_ top_ i_ w h).weaken (Sub.cons (Sub.cons (Sub.cons (Sub.cons (Sub.cons (Sub.cons (Sub.nil _) e5) e4) e3) e2) e1) e0)) (stops_cons (fun σ w h => by
      obtain ⟨x_, e0, h⟩ := dP_elim h
      obtain ⟨m0_, e1, h⟩ := dP_elim h
      obtain ⟨top_, e2, h⟩ := dI_elim h
      obtain ⟨p_, e3, h⟩ := dI_elim h
      exact (socklaw_Alike.L2_sound  x_ m0_ top_ p_ w h).weaken (Sub.cons (Sub.cons (Sub.cons (Sub.cons (Sub.nil _) e3) e2) e1) e0)) stops_nil)) (Eq.mp (socklaw_Alike.L1b_eq d x m0 l_b l_l l_c top i w  N1 R (fun x_ m0_ top_ p_ w => socklaw_Alike.L2 x_ m0_ top_ p_ w  R)) h)
def socklaw_Alike.L1 (d x m0 l_b : Option Addr) (l_l l_c : Nat) (top i : Int) (w : World)  (R : Bool → World → Prop) : Prop :=
  ∃ (I : Nat → Option Addr → Option Addr → Option Addr → Option Addr → Nat → Nat → Int → Int → World → Prop) (m : Nat), I m d x m0 l_b l_l l_c top i w ∧ ∀ m d x m0 l_b l_l l_c top i w, I m d x m0 l_b l_l l_c top i w → socklaw_Alike.L1b d x m0 l_b l_l l_c top i w  (fun d' x' m0' l_b' l_l' l_c' top' i' w' => ∃ m', m' < m ∧ I m' d' x' m0' l_b' l_l' l_c' top' i' w') R
theorem socklaw_Alike.L1_sound {R : Bool → World → Prop}  (d x m0 l_b : Option Addr) (l_l l_c : Nat) (top i : Int) (w : World) (h : socklaw_Alike.L1 d x m0 l_b l_l l_c top i w  R) :
    KW Try.prog 9 64 (socklaw_Alike.RV R) ([(0, [1, 1, 1, 1, 1, 1, 0, 1, 0, 0]), (2, [1, 1, 1, 1, 1, 1, 0, 1, 0, 0]), (1, [0]), (0, [1, 1, 1, 1, 1, 1, 1])].map (toItem (Try.f9.body.getD .skip))) [(0, .pointer d), (3, .pointer x), (4, .pointer m0), (5, .slice l_b l_l l_c), (6, .int .i64 top), (7, .int .i64 i)] w := by
  obtain ⟨I, m, hBase, hr⟩ := h
  refine KW.loop (fun m σ w => ∃ (d x m0 l_b : Option Addr) (l_l l_c : Nat) (top i : Int), σ = [(0, .pointer d), (3, .pointer x), (4, .pointer m0), (5, .slice l_b l_l l_c), (6, .int .i64 top), (7, .int .i64 i)] ∧ I m d x m0 l_b l_l l_c top i w) ?_ m _ w ⟨d, x, m0, l_b, l_l, l_c, top, i, rfl, hBase⟩
  rintro m ih σ w ⟨d, x, m0, l_b, l_l, l_c, top, i, rfl, hI⟩
  exact socklaw_Alike.L1b_sound  (N1 := fun d' x' m0' l_b' l_l' l_c' top' i' w' => ∃ m', m' < m ∧ I m' d' x' m0' l_b' l_l' l_c' top' i' w') (fun d' x' m0' l_b' l_l' l_c' top' i' w' hx => by obtain ⟨m', hlt, hI'⟩ := hx; exact ih m' hlt _ w' ⟨d', x', m0', l_b', l_l', l_c', top', i', rfl, hI'⟩) d x m0 l_b l_l l_c top i w (hr m d x m0 l_b l_l l_c top i w hI)
def socklaw_Alike.B0 (d : Option Addr) (w : World)   (R : Bool → World → Prop) : Prop :=
  Pn d fun a =>
  LdP a w.drew fun x12 =>
  Pn d fun a_1 =>
  LdP (a_1.add 1) w.drew fun x16 =>
  socklaw_SameNext.Call x12 x16 w.drew fun r19 w1 =>
  Bm (!r19) (
    R false w1) (
    socklaw_SameList.Call d w1 fun r22 w2 =>
    Bm (!r22) (
      R false w2) (
      sockm_Table_List.Call x16 w2 fun r25_b r25_l r25_c w3 =>
      socklaw_Alike.L1 d x12 x16 r25_b r25_l r25_c (0 : Int) (0 : Int) w3  R))
theorem socklaw_Alike.B0_eq (d : Option Addr) (w : World)   (R : Bool → World → Prop) (sL1 : Option Addr → Option Addr → Option Addr → Option Addr → Nat → Nat → Int → Int → World → Prop) :
    (
  Pn d fun a =>
  LdP a w.drew fun x12 =>
  Pn d fun a_1 =>
  LdP (a_1.add 1) w.drew fun x16 =>
  socklaw_SameNext.Call x12 x16 w.drew fun r19 w1 =>
  Bm (!r19) (
    R false w1) (
    socklaw_SameList.Call d w1 fun r22 w2 =>
    Bm (!r22) (
      R false w2) (
      sockm_Table_List.Call x16 w2 fun r25_b r25_l r25_c w3 =>
      sL1 d x12 x16 r25_b r25_l r25_c (0 : Int) (0 : Int) w3))) = kstep Try.prog 64 Try.f9.results.toList (Try.f9.body.getD .skip) (socklaw_Alike.RV R) (kvc Try.prog 64 Try.f9.results.toList (Try.f9.body.getD .skip) (socklaw_Alike.RV R) [([(0, [1, 1, 1, 1, 1, 1, 0, 1, 0, 0]), (2, [1, 1, 1, 1, 1, 1, 0, 1, 0, 0]), (1, [0]), (0, [1, 1, 1, 1, 1, 1, 1])], fun σ w => dP (slotOf σ 0) fun d_ => dP (slotOf σ 3) fun x_ => dP (slotOf σ 4) fun m0_ => dL (slotOf σ 5) fun l_b_ l_l_ l_c_ => dI .i64 (slotOf σ 6) fun top_ => dI .i64 (slotOf σ 7) fun i_ => sL1 d_ x_ m0_ l_b_ l_l_ l_c_ top_ i_ w)] 2000) [(0, [])] [(0, .pointer d)] w := by kernel_rfl
theorem socklaw_Alike.B0_sound {R : Bool → World → Prop}  (d : Option Addr) (w : World) (h : socklaw_Alike.B0 d w   R) :
    KW Try.prog 9 64 (socklaw_Alike.RV R) ([(0, [])].map (toItem (Try.f9.body.getD .skip))) [(0, .pointer d)] w := by
  exact block_spec Try.func9 Try.mixed (stops_cons (fun σ w h => by
      obtain ⟨d_, e0, h⟩ := dP_elim h
      obtain ⟨x_, e1, h⟩ := dP_elim h
      obtain ⟨m0_, e2, h⟩ := dP_elim h
      obtain ⟨l_b_, l_l_, l_c_, e3, h⟩ := dL_elim h
      obtain ⟨top_, e4, h⟩ := dI_elim h
      obtain ⟨i_, e5, h⟩ := dI_elim h
      exact (socklaw_Alike.L1_sound  d_ x_ m0_ l_b_ l_l_ l_c_ top_ i_ w h).weaken (Sub.cons (Sub.cons (Sub.cons (Sub.cons (Sub.cons (Sub.cons (Sub.nil _) e5) e4) e3) e2) e1) e0)) stops_nil) (Eq.mp (socklaw_Alike.B0_eq d w   R (fun d_ x_ m0_ l_b_ l_l_ l_c_ top_ i_ w => socklaw_Alike.L1 d_ x_ m0_ l_b_ l_l_ l_c_ top_ i_ w  R)) h)
theorem socklaw_Alike.sound (d : Option Addr) (w : World) (R : Bool → World → Prop) (h : socklaw_Alike.B0 d w R) : socklaw_Alike.Call d w R := by
  have hc := calls_of_block (args := #[.pointer d]) Try.func9 (body := (Try.f9.body.getD .skip)) (by kernel_rfl) (by kernel_rfl) (args_slot _) (socklaw_Alike.B0_sound d w h)
  exact hc.mono fun e w' he => by
    obtain ⟨v, rfl, hv⟩ := he
    exact socklaw_Alike.RV_elim hv
def socklaw_Play.B0 (d : Option Addr) (o_0 o_1 o_2 o_3 : Int) (o_4 o_5 : ByteArray) (w : World)   (R : Bool → World → Prop) : Prop :=
  New (.cells #[.int .i64 o_0, .int .i64 o_1, .int .i64 o_2, .int .i64 o_3, .string o_4, .string o_5] 38) w fun o_ w1 =>
  Pn d fun a =>
  LdP a w1.drew fun x10 =>
  Pn d fun a_1 =>
  LdP (a_1.add 1) w1.drew fun x14 =>
  LdI .i64 ⟨o_, 0, none⟩ w1.drew fun x16 =>
  Bm (x16 == (1 : Int)) (
    LdI .i64 ⟨o_, 1, none⟩ w1.drew fun x22 =>
    socklaw_SameListen.Call x10 x14 x22 w1.drew fun r23 w2 =>
    R r23 w2) (
    Bm (x16 == (2 : Int)) (
      LdI .i64 ⟨o_, 1, none⟩ w1.drew fun x29 =>
      LdI .i64 ⟨o_, 2, none⟩ w1.drew fun x31 =>
      socklaw_SameConnect.Call x10 x14 x29 x31 w1.drew fun r32 w3 =>
      R r32 w3) (
      Bm (x16 == (3 : Int)) (
        LdI .i64 ⟨o_, 1, none⟩ w1.drew fun x38 =>
        LdI .i64 ⟨o_, 2, none⟩ w1.drew fun x40 =>
        LdI .i64 ⟨o_, 3, none⟩ w1.drew fun x42 =>
        socklaw_SameChild.Call x10 x14 x38 x40 x42 w1.drew fun r43 w4 =>
        R r43 w4) (
        Bm (x16 == (4 : Int)) (
          LdI .i64 ⟨o_, 1, none⟩ w1.drew fun x49 =>
          socklaw_SameReady.Call x10 x14 x49 w1.drew fun r50 w5 =>
          R r50 w5) (
          Bm (x16 == (5 : Int)) (
            LdI .i64 ⟨o_, 1, none⟩ w1.drew fun x56 =>
            socklaw_SameAccept.Call x10 x14 x56 w1.drew fun r57 w6 =>
            R r57 w6) (
            Bm (x16 == (6 : Int)) (
              LdI .i64 ⟨o_, 1, none⟩ w1.drew fun x63 =>
              socklaw_SameFree.Call x10 x14 x63 w1.drew fun r64 w7 =>
              R r64 w7) (
              Bm (x16 == (7 : Int)) (
                LdI .i64 ⟨o_, 1, none⟩ w1.drew fun x70 =>
                LdI .i64 ⟨o_, 2, none⟩ w1.drew fun x72 =>
                LdI .i64 ⟨o_, 3, none⟩ w1.drew fun x74 =>
                socklaw_SameLookup.Call x10 x14 x70 x72 x74 w1.drew fun r75 w8 =>
                R r75 w8) (
                Bm (x16 == (8 : Int)) (
                  LdI .i64 ⟨o_, 1, none⟩ w1.drew fun x81 =>
                  socklaw_SameListener.Call x10 x14 x81 w1.drew fun r82 w9 =>
                  R r82 w9) (
                  Bm (x16 == (9 : Int)) (
                    LdI .i64 ⟨o_, 1, none⟩ w1.drew fun x88 =>
                    socklaw_SameGet.Call x10 x14 x88 w1.drew fun r89 w10 =>
                    R r89 w10) (
                    Bm (x16 == (10 : Int)) (
                      LdI .i64 ⟨o_, 1, none⟩ w1.drew fun x94 =>
                      socklaw_SameQueue.Call d x94 w1.drew fun r95 w11 =>
                      R r95 w11) (
                      Bm (x16 == (11 : Int)) (
                        socklaw_SameList.Call d w1.drew fun r99 w12 =>
                        R r99 w12) (
                        Bm (x16 == (12 : Int)) (
                          sock_Table_Check.Call x10 w1.drew fun r103 w13 =>
                          R r103 w13) (
                          Bm (x16 == (13 : Int)) (
                            socklaw_SameNext.Call x10 x14 w1.drew fun r108 w14 =>
                            R r108 w14) (
                            R true w1.drew)))))))))))))
theorem socklaw_Play.B0_eq (d : Option Addr) (o_0 o_1 o_2 o_3 : Int) (o_4 o_5 : ByteArray) (w : World)   (R : Bool → World → Prop)  :
    (
  New (.cells #[.int .i64 o_0, .int .i64 o_1, .int .i64 o_2, .int .i64 o_3, .string o_4, .string o_5] 38) w fun o_ w1 =>
  Pn d fun a =>
  LdP a w1.drew fun x10 =>
  Pn d fun a_1 =>
  LdP (a_1.add 1) w1.drew fun x14 =>
  LdI .i64 ⟨o_, 0, none⟩ w1.drew fun x16 =>
  Bm (x16 == (1 : Int)) (
    LdI .i64 ⟨o_, 1, none⟩ w1.drew fun x22 =>
    socklaw_SameListen.Call x10 x14 x22 w1.drew fun r23 w2 =>
    R r23 w2) (
    Bm (x16 == (2 : Int)) (
      LdI .i64 ⟨o_, 1, none⟩ w1.drew fun x29 =>
      LdI .i64 ⟨o_, 2, none⟩ w1.drew fun x31 =>
      socklaw_SameConnect.Call x10 x14 x29 x31 w1.drew fun r32 w3 =>
      R r32 w3) (
      Bm (x16 == (3 : Int)) (
        LdI .i64 ⟨o_, 1, none⟩ w1.drew fun x38 =>
        LdI .i64 ⟨o_, 2, none⟩ w1.drew fun x40 =>
        LdI .i64 ⟨o_, 3, none⟩ w1.drew fun x42 =>
        socklaw_SameChild.Call x10 x14 x38 x40 x42 w1.drew fun r43 w4 =>
        R r43 w4) (
        Bm (x16 == (4 : Int)) (
          LdI .i64 ⟨o_, 1, none⟩ w1.drew fun x49 =>
          socklaw_SameReady.Call x10 x14 x49 w1.drew fun r50 w5 =>
          R r50 w5) (
          Bm (x16 == (5 : Int)) (
            LdI .i64 ⟨o_, 1, none⟩ w1.drew fun x56 =>
            socklaw_SameAccept.Call x10 x14 x56 w1.drew fun r57 w6 =>
            R r57 w6) (
            Bm (x16 == (6 : Int)) (
              LdI .i64 ⟨o_, 1, none⟩ w1.drew fun x63 =>
              socklaw_SameFree.Call x10 x14 x63 w1.drew fun r64 w7 =>
              R r64 w7) (
              Bm (x16 == (7 : Int)) (
                LdI .i64 ⟨o_, 1, none⟩ w1.drew fun x70 =>
                LdI .i64 ⟨o_, 2, none⟩ w1.drew fun x72 =>
                LdI .i64 ⟨o_, 3, none⟩ w1.drew fun x74 =>
                socklaw_SameLookup.Call x10 x14 x70 x72 x74 w1.drew fun r75 w8 =>
                R r75 w8) (
                Bm (x16 == (8 : Int)) (
                  LdI .i64 ⟨o_, 1, none⟩ w1.drew fun x81 =>
                  socklaw_SameListener.Call x10 x14 x81 w1.drew fun r82 w9 =>
                  R r82 w9) (
                  Bm (x16 == (9 : Int)) (
                    LdI .i64 ⟨o_, 1, none⟩ w1.drew fun x88 =>
                    socklaw_SameGet.Call x10 x14 x88 w1.drew fun r89 w10 =>
                    R r89 w10) (
                    Bm (x16 == (10 : Int)) (
                      LdI .i64 ⟨o_, 1, none⟩ w1.drew fun x94 =>
                      socklaw_SameQueue.Call d x94 w1.drew fun r95 w11 =>
                      R r95 w11) (
                      Bm (x16 == (11 : Int)) (
                        socklaw_SameList.Call d w1.drew fun r99 w12 =>
                        R r99 w12) (
                        Bm (x16 == (12 : Int)) (
                          sock_Table_Check.Call x10 w1.drew fun r103 w13 =>
                          R r103 w13) (
                          Bm (x16 == (13 : Int)) (
                            socklaw_SameNext.Call x10 x14 w1.drew fun r108 w14 =>
                            R r108 w14) (
                            R true w1.drew)))))))))))))) = kstep Try.prog 109 Try.f10.results.toList (Try.f10.body.getD .skip) (socklaw_Play.RV R) (kvc Try.prog 109 Try.f10.results.toList (Try.f10.body.getD .skip) (socklaw_Play.RV R) [] 2000) [(0, [])] [(0, .pointer d), (1, .agg #[.int .i64 o_0, .int .i64 o_1, .int .i64 o_2, .int .i64 o_3, .string o_4, .string o_5])] w := by kernel_rfl
theorem socklaw_Play.B0_sound {R : Bool → World → Prop}  (d : Option Addr) (o_0 o_1 o_2 o_3 : Int) (o_4 o_5 : ByteArray) (w : World) (h : socklaw_Play.B0 d o_0 o_1 o_2 o_3 o_4 o_5 w   R) :
    KW Try.prog 10 109 (socklaw_Play.RV R) ([(0, [])].map (toItem (Try.f10.body.getD .skip))) [(0, .pointer d), (1, .agg #[.int .i64 o_0, .int .i64 o_1, .int .i64 o_2, .int .i64 o_3, .string o_4, .string o_5])] w := by
  exact block_spec Try.func10 Try.mixed stops_nil (Eq.mp (socklaw_Play.B0_eq d o_0 o_1 o_2 o_3 o_4 o_5 w   R ) h)
theorem socklaw_Play.sound (d : Option Addr) (o_0 o_1 o_2 o_3 : Int) (o_4 o_5 : ByteArray) (w : World) (R : Bool → World → Prop) (h : socklaw_Play.B0 d o_0 o_1 o_2 o_3 o_4 o_5 w R) : socklaw_Play.Call d o_0 o_1 o_2 o_3 o_4 o_5 w R := by
  have hc := calls_of_block (args := #[.pointer d, .agg #[.int .i64 o_0, .int .i64 o_1, .int .i64 o_2, .int .i64 o_3, .string o_4, .string o_5]]) Try.func10 (body := (Try.f10.body.getD .skip)) (by kernel_rfl) (by kernel_rfl) (args_slot _) (socklaw_Play.B0_sound d o_0 o_1 o_2 o_3 o_4 o_5 w h)
  exact hc.mono fun e w' he => by
    obtain ⟨v, rfl, hv⟩ := he
    exact socklaw_Play.RV_elim hv
end Go.Proofs.Qxb6500427a
