import Derived.Test.Qxb6500428aSig
set_option maxRecDepth 100000
set_option linter.unusedVariables false
open Go.Vc
namespace Go.Proofs.Qxb6500428a
def electlaw_RefinesUpTo.B0 (script_b : Option Addr) (script_l script_c : Nat) (w : World)   (R : Int → World → Prop) : Prop :=
  electlaw_walk.Call script_b script_l script_c false w fun r7_0 r7_1 w1 =>
  R r7_0 w1
theorem electlaw_RefinesUpTo.B0_eq (script_b : Option Addr) (script_l script_c : Nat) (w : World)   (R : Int → World → Prop)  :
    (
  electlaw_walk.Call script_b script_l script_c false w fun r7_0 r7_1 w1 =>
  R r7_0 w1) = kstep Try.prog 11 Try.f7.results.toList (Try.f7.body.getD .skip) (electlaw_RefinesUpTo.RV R) (kvc Try.prog 11 Try.f7.results.toList (Try.f7.body.getD .skip) (electlaw_RefinesUpTo.RV R) [] 2000) [(0, [])] [(0, .slice script_b script_l script_c)] w := by kernel_rfl
theorem electlaw_RefinesUpTo.B0_sound {R : Int → World → Prop}  (script_b : Option Addr) (script_l script_c : Nat) (w : World) (h : electlaw_RefinesUpTo.B0 script_b script_l script_c w   R) :
    KW Try.prog 7 11 (electlaw_RefinesUpTo.RV R) ([(0, [])].map (toItem (Try.f7.body.getD .skip))) [(0, .slice script_b script_l script_c)] w := by
  exact block_spec Try.func7 Try.mixed stops_nil (Eq.mp (electlaw_RefinesUpTo.B0_eq script_b script_l script_c w   R ) h)
theorem electlaw_RefinesUpTo.sound (script_b : Option Addr) (script_l script_c : Nat) (w : World) (R : Int → World → Prop) (h : electlaw_RefinesUpTo.B0 script_b script_l script_c w R) : electlaw_RefinesUpTo.Call script_b script_l script_c w R := by
  have hc := calls_of_block (args := #[.slice script_b script_l script_c]) Try.func7 (body := (Try.f7.body.getD .skip)) (by kernel_rfl) (by kernel_rfl) (args_slot _) (electlaw_RefinesUpTo.B0_sound script_b script_l script_c w h)
  exact hc.mono fun e w' he => by
    obtain ⟨v, rfl, hv⟩ := he
    exact electlaw_RefinesUpTo.RV_elim hv
def electlaw_walk.B4 (script_b : Option Addr) (script_l script_c : Nat) (quiet : Bool) (x m0 : Option Addr) (i : Int) (t57 : Bool) (w : World) (N1 : Option Addr → Nat → Nat → Bool → Option Addr → Option Addr → Int → World → Prop)  (R : Int → Int → World → Prop) : Prop :=
  Bm t57 (
    R i i w) (
    N1 script_b script_l script_c quiet x m0 (IntKind.i64.wrap (i + (1 : Int))) w)
theorem electlaw_walk.B4_eq (script_b : Option Addr) (script_l script_c : Nat) (quiet : Bool) (x m0 : Option Addr) (i : Int) (t57 : Bool) (w : World) (N1 : Option Addr → Nat → Nat → Bool → Option Addr → Option Addr → Int → World → Prop)  (R : Int → Int → World → Prop)  :
    (
  Bm t57 (
    R i i w) (
    N1 script_b script_l script_c quiet x m0 (IntKind.i64.wrap (i + (1 : Int))) w)) = kstep Try.prog 65 Try.f8.results.toList (Try.f8.body.getD .skip) (electlaw_walk.RV R) (kvc Try.prog 65 Try.f8.results.toList (Try.f8.body.getD .skip) (electlaw_walk.RV R) [([(0, [1, 1, 1, 1, 0, 1, 0, 0]), (2, [1, 1, 1, 1, 0, 1, 0, 0]), (1, [0]), (0, [1, 1, 1, 1, 1])], fun σ w => dL (slotOf σ 0) fun script_b_ script_l_ script_c_ => dB (slotOf σ 1) fun quiet_ => dP (slotOf σ 6) fun x_ => dP (slotOf σ 7) fun m0_ => dI .i64 (slotOf σ 8) fun i_ => N1 script_b_ script_l_ script_c_ quiet_ x_ m0_ i_ w)] 2000) [(0, [1, 1, 1, 1, 0, 1, 0, 0, 1, 0, 0, 1, 1, 1]), (1, [1]), (0, [1, 1, 1, 1, 0, 1, 0, 0, 1, 1]), (2, [1, 1, 1, 1, 0, 1, 0, 0]), (1, [0]), (0, [1, 1, 1, 1, 1])] [(0, .slice script_b script_l script_c), (1, .bool quiet), (6, .pointer x), (7, .pointer m0), (8, .int .i64 i), (57, .bool t57)] w := by kernel_rfl
theorem electlaw_walk.B4_sound {R : Int → Int → World → Prop} {N1 : Option Addr → Nat → Nat → Bool → Option Addr → Option Addr → Int → World → Prop} (hN1 : ∀ script_b script_l script_c quiet x m0 i w, N1 script_b script_l script_c quiet x m0 i w → KW Try.prog 8 65 (electlaw_walk.RV R) ([(0, [1, 1, 1, 1, 0, 1, 0, 0]), (2, [1, 1, 1, 1, 0, 1, 0, 0]), (1, [0]), (0, [1, 1, 1, 1, 1])].map (toItem (Try.f8.body.getD .skip))) [(0, .slice script_b script_l script_c), (1, .bool quiet), (6, .pointer x), (7, .pointer m0), (8, .int .i64 i)] w) (script_b : Option Addr) (script_l script_c : Nat) (quiet : Bool) (x m0 : Option Addr) (i : Int) (t57 : Bool) (w : World) (h : electlaw_walk.B4 script_b script_l script_c quiet x m0 i t57 w N1  R) :
    KW Try.prog 8 65 (electlaw_walk.RV R) ([(0, [1, 1, 1, 1, 0, 1, 0, 0, 1, 0, 0, 1, 1, 1]), (1, [1]), (0, [1, 1, 1, 1, 0, 1, 0, 0, 1, 1]), (2, [1, 1, 1, 1, 0, 1, 0, 0]), (1, [0]), (0, [1, 1, 1, 1, 1])].map (toItem (Try.f8.body.getD .skip))) [(0, .slice script_b script_l script_c), (1, .bool quiet), (6, .pointer x), (7, .pointer m0), (8, .int .i64 i), (57, .bool t57)] w := by
  exact block_spec Try.func8 Try.mixed (stops_cons (fun σ w h => by
      obtain ⟨script_b_, script_l_, script_c_, e0, h⟩ := dL_elim h
      obtain ⟨quiet_, e1, h⟩ := dB_elim h
      obtain ⟨x_, e2, h⟩ := dP_elim h
      obtain ⟨m0_, e3, h⟩ := dP_elim h
      obtain ⟨i_, e4, h⟩ := dI_elim h
      exact (hN1 script_b_ script_l_ script_c_ quiet_ x_ m0_ i_ w h).weaken (Sub.cons (Sub.cons (Sub.cons (Sub.cons (Sub.cons (Sub.nil _) e4) e3) e2) e1) e0)) stops_nil) (Eq.mp (electlaw_walk.B4_eq script_b script_l script_c quiet x m0 i t57 w N1  R ) h)
def electlaw_walk.B3 (script_b : Option Addr) (script_l script_c : Nat) (quiet : Bool) (x m0 : Option Addr) (i : Int) (w : World) (N1 : Option Addr → Nat → Nat → Bool → Option Addr → Option Addr → Int → World → Prop)  (R : Int → Int → World → Prop) : Prop :=
  Bm (!quiet) (
    electlaw_Alike.Call x m0 w fun r55 w1 =>
    electlaw_walk.B4 script_b script_l script_c quiet x m0 i (!r55) w1 N1 R) (
    electlaw_walk.B4 script_b script_l script_c quiet x m0 i false w N1 R)
theorem electlaw_walk.B3_eq (script_b : Option Addr) (script_l script_c : Nat) (quiet : Bool) (x m0 : Option Addr) (i : Int) (w : World) (N1 : Option Addr → Nat → Nat → Bool → Option Addr → Option Addr → Int → World → Prop)  (R : Int → Int → World → Prop) (sB4 : Option Addr → Nat → Nat → Bool → Option Addr → Option Addr → Int → Bool → World → Prop) :
    (
  Bm (!quiet) (
    electlaw_Alike.Call x m0 w fun r55 w1 =>
    sB4 script_b script_l script_c quiet x m0 i (!r55) w1) (
    sB4 script_b script_l script_c quiet x m0 i false w)) = kstep Try.prog 65 Try.f8.results.toList (Try.f8.body.getD .skip) (electlaw_walk.RV R) (kvc Try.prog 65 Try.f8.results.toList (Try.f8.body.getD .skip) (electlaw_walk.RV R) [([(0, [1, 1, 1, 1, 0, 1, 0, 0, 1, 0, 0, 1, 1, 1]), (1, [1]), (0, [1, 1, 1, 1, 0, 1, 0, 0, 1, 1]), (2, [1, 1, 1, 1, 0, 1, 0, 0]), (1, [0]), (0, [1, 1, 1, 1, 1])], fun σ w => dL (slotOf σ 0) fun script_b_ script_l_ script_c_ => dB (slotOf σ 1) fun quiet_ => dP (slotOf σ 6) fun x_ => dP (slotOf σ 7) fun m0_ => dI .i64 (slotOf σ 8) fun i_ => dB (slotOf σ 57) fun t57_ => sB4 script_b_ script_l_ script_c_ quiet_ x_ m0_ i_ t57_ w)] 2000) [(0, [1, 1, 1, 1, 0, 1, 0, 0, 1, 0, 0, 1, 1]), (1, [1]), (0, [1, 1, 1, 1, 0, 1, 0, 0, 1, 1]), (2, [1, 1, 1, 1, 0, 1, 0, 0]), (1, [0]), (0, [1, 1, 1, 1, 1])] [(0, .slice script_b script_l script_c), (1, .bool quiet), (6, .pointer x), (7, .pointer m0), (8, .int .i64 i)] w := by kernel_rfl
theorem electlaw_walk.B3_sound {R : Int → Int → World → Prop} {N1 : Option Addr → Nat → Nat → Bool → Option Addr → Option Addr → Int → World → Prop} (hN1 : ∀ script_b script_l script_c quiet x m0 i w, N1 script_b script_l script_c quiet x m0 i w → KW Try.prog 8 65 (electlaw_walk.RV R) ([(0, [1, 1, 1, 1, 0, 1, 0, 0]), (2, [1, 1, 1, 1, 0, 1, 0, 0]), (1, [0]), (0, [1, 1, 1, 1, 1])].map (toItem (Try.f8.body.getD .skip))) [(0, .slice script_b script_l script_c), (1, .bool quiet), (6, .pointer x), (7, .pointer m0), (8, .int .i64 i)] w) (script_b : Option Addr) (script_l script_c : Nat) (quiet : Bool) (x m0 : Option Addr) (i : Int) (w : World) (h : electlaw_walk.B3 script_b script_l script_c quiet x m0 i w N1  R) :
    KW Try.prog 8 65 (electlaw_walk.RV R) ([(0, [1, 1, 1, 1, 0, 1, 0, 0, 1, 0, 0, 1, 1]), (1, [1]), (0, [1, 1, 1, 1, 0, 1, 0, 0, 1, 1]), (2, [1, 1, 1, 1, 0, 1, 0, 0]), (1, [0]), (0, [1, 1, 1, 1, 1])].map (toItem (Try.f8.body.getD .skip))) [(0, .slice script_b script_l script_c), (1, .bool quiet), (6, .pointer x), (7, .pointer m0), (8, .int .i64 i)] w := by
  exact block_spec Try.func8 Try.mixed (stops_cons (fun σ w h => by
      obtain ⟨script_b_, script_l_, script_c_, e0, h⟩ := dL_elim h
      obtain ⟨quiet_, e1, h⟩ := dB_elim h
      obtain ⟨x_, e2, h⟩ := dP_elim h
      obtain ⟨m0_, e3, h⟩ := dP_elim h
      obtain ⟨i_, e4, h⟩ := dI_elim h
      obtain ⟨t57_, e5, h⟩ := dB_elim h
      exact (electlaw_walk.B4_sound hN1 script_b_ script_l_ script_c_ quiet_ x_ m0_ i_ t57_ w h).weaken (Sub.cons (Sub.cons (Sub.cons (Sub.cons (Sub.cons (Sub.cons (Sub.nil _) e5) e4) e3) e2) e1) e0)) stops_nil) (Eq.mp (electlaw_walk.B3_eq script_b script_l script_c quiet x m0 i w N1  R (fun script_b_ script_l_ script_c_ quiet_ x_ m0_ i_ t57_ w => electlaw_walk.B4 script_b_ script_l_ script_c_ quiet_ x_ m0_ i_ t57_ w N1 R)) h)
def electlaw_walk.B2 (script_b : Option Addr) (script_l script_c : Nat) (quiet : Bool) (x m0 : Option Addr) (i : Int) (t27 : Bool) (w : World) (N1 : Option Addr → Nat → Nat → Bool → Option Addr → Option Addr → Int → World → Prop)  (R : Int → Int → World → Prop) : Prop :=
  Bm t27 (
    Pn script_b fun a =>
    (0 ≤ i ∧ i < ((script_l : Nat) : Int)) ∧
    LdI .i64 (Addr.add a (i.toNat * 6)) w fun x33_0 =>
    LdI .i64 ((Addr.add a (i.toNat * 6)).add 1) w fun x33_1 =>
    LdI .i64 ((Addr.add a (i.toNat * 6)).add 2) w fun x33_2 =>
    LdI .i64 ((Addr.add a (i.toNat * 6)).add 3) w fun x33_3 =>
    LdS ((Addr.add a (i.toNat * 6)).add 4) w fun x33_4 =>
    LdS ((Addr.add a (i.toNat * 6)).add 5) w fun x33_5 =>
    New (.cells #[.int .i64 (0 : Int), .int .i64 (0 : Int), .int .i64 (0 : Int), .int .i64 (0 : Int), .string (ByteArray.mk #[]), .string (ByteArray.mk #[])] 30) w fun o_ w1 =>
    Sts [.int .i64 x33_0, .int .i64 x33_1, .int .i64 x33_2, .int .i64 x33_3, .string x33_4, .string x33_5] ⟨o_, 0, none⟩ 0 w1 fun w2 =>
    LdI .i64 ⟨o_, 0, none⟩ w2 fun x35 =>
    Bm (x35 == (7 : Int)) (
      LdI .i64 ⟨o_, 1, none⟩ w2 fun x38 =>
      elect_New.Call x38 w2 fun r39 w3 =>
      LdI .i64 ⟨o_, 1, none⟩ w3 fun x41 =>
      electm_New.Call x41 w3 fun r42 w4 =>
      electlaw_walk.B3 script_b script_l script_c quiet r39 r42 i w4 N1 R) (
      LdI .i64 ⟨o_, 0, none⟩ w2 fun x45_0 =>
      LdI .i64 ⟨o_, 1, none⟩ w2 fun x45_1 =>
      LdI .i64 ⟨o_, 2, none⟩ w2 fun x45_2 =>
      LdI .i64 ⟨o_, 3, none⟩ w2 fun x45_3 =>
      LdS ⟨o_, 4, none⟩ w2 fun x45_4 =>
      LdS ⟨o_, 5, none⟩ w2 fun x45_5 =>
      electlaw_Play.Call x m0 x45_0 x45_1 x45_2 x45_3 x45_4 x45_5 w2 fun r46 w5 =>
      Bm (!r46) (
        R i i w5) (
        electlaw_walk.B3 script_b script_l script_c quiet x m0 i w5 N1 R))) (
    Bm (decide (((script_l : Nat) : Int) < (4398046511104 : Int))) (
      R (-1 : Int) ((script_l : Nat) : Int) w) (
      R (-1 : Int) (4398046511104 : Int) w))
theorem electlaw_walk.B2_eq (script_b : Option Addr) (script_l script_c : Nat) (quiet : Bool) (x m0 : Option Addr) (i : Int) (t27 : Bool) (w : World) (N1 : Option Addr → Nat → Nat → Bool → Option Addr → Option Addr → Int → World → Prop)  (R : Int → Int → World → Prop) (sB3 : Option Addr → Nat → Nat → Bool → Option Addr → Option Addr → Int → World → Prop) :
    (
  Bm t27 (
    Pn script_b fun a =>
    (0 ≤ i ∧ i < ((script_l : Nat) : Int)) ∧
    LdI .i64 (Addr.add a (i.toNat * 6)) w fun x33_0 =>
    LdI .i64 ((Addr.add a (i.toNat * 6)).add 1) w fun x33_1 =>
    LdI .i64 ((Addr.add a (i.toNat * 6)).add 2) w fun x33_2 =>
    LdI .i64 ((Addr.add a (i.toNat * 6)).add 3) w fun x33_3 =>
    LdS ((Addr.add a (i.toNat * 6)).add 4) w fun x33_4 =>
    LdS ((Addr.add a (i.toNat * 6)).add 5) w fun x33_5 =>
    New (.cells #[.int .i64 (0 : Int), .int .i64 (0 : Int), .int .i64 (0 : Int), .int .i64 (0 : Int), .string (ByteArray.mk #[]), .string (ByteArray.mk #[])] 30) w fun o_ w1 =>
    Sts [.int .i64 x33_0, .int .i64 x33_1, .int .i64 x33_2, .int .i64 x33_3, .string x33_4, .string x33_5] ⟨o_, 0, none⟩ 0 w1 fun w2 =>
    LdI .i64 ⟨o_, 0, none⟩ w2 fun x35 =>
    Bm (x35 == (7 : Int)) (
      LdI .i64 ⟨o_, 1, none⟩ w2 fun x38 =>
      elect_New.Call x38 w2 fun r39 w3 =>
      LdI .i64 ⟨o_, 1, none⟩ w3 fun x41 =>
      electm_New.Call x41 w3 fun r42 w4 =>
      sB3 script_b script_l script_c quiet r39 r42 i w4) (
      LdI .i64 ⟨o_, 0, none⟩ w2 fun x45_0 =>
      LdI .i64 ⟨o_, 1, none⟩ w2 fun x45_1 =>
      LdI .i64 ⟨o_, 2, none⟩ w2 fun x45_2 =>
      LdI .i64 ⟨o_, 3, none⟩ w2 fun x45_3 =>
      LdS ⟨o_, 4, none⟩ w2 fun x45_4 =>
      LdS ⟨o_, 5, none⟩ w2 fun x45_5 =>
      electlaw_Play.Call x m0 x45_0 x45_1 x45_2 x45_3 x45_4 x45_5 w2 fun r46 w5 =>
      Bm (!r46) (
        R i i w5) (
        sB3 script_b script_l script_c quiet x m0 i w5))) (
    Bm (decide (((script_l : Nat) : Int) < (4398046511104 : Int))) (
      R (-1 : Int) ((script_l : Nat) : Int) w) (
      R (-1 : Int) (4398046511104 : Int) w))) = kstep Try.prog 65 Try.f8.results.toList (Try.f8.body.getD .skip) (electlaw_walk.RV R) (kvc Try.prog 65 Try.f8.results.toList (Try.f8.body.getD .skip) (electlaw_walk.RV R) [([(0, [1, 1, 1, 1, 0, 1, 0, 0, 1, 0, 0, 1, 1]), (1, [1]), (0, [1, 1, 1, 1, 0, 1, 0, 0, 1, 1]), (2, [1, 1, 1, 1, 0, 1, 0, 0]), (1, [0]), (0, [1, 1, 1, 1, 1])], fun σ w => dL (slotOf σ 0) fun script_b_ script_l_ script_c_ => dB (slotOf σ 1) fun quiet_ => dP (slotOf σ 6) fun x_ => dP (slotOf σ 7) fun m0_ => dI .i64 (slotOf σ 8) fun i_ => sB3 script_b_ script_l_ script_c_ quiet_ x_ m0_ i_ w)] 2000) [(0, [1, 1, 1, 1, 0, 1, 0, 0, 0, 1]), (0, [1, 1, 1, 1, 0, 1, 0, 0, 1]), (2, [1, 1, 1, 1, 0, 1, 0, 0]), (1, [0]), (0, [1, 1, 1, 1, 1])] [(0, .slice script_b script_l script_c), (1, .bool quiet), (6, .pointer x), (7, .pointer m0), (8, .int .i64 i), (27, .bool t27)] w := by kernel_rfl
theorem electlaw_walk.B2_sound {R : Int → Int → World → Prop} {N1 : Option Addr → Nat → Nat → Bool → Option Addr → Option Addr → Int → World → Prop} (hN1 : ∀ script_b script_l script_c quiet x m0 i w, N1 script_b script_l script_c quiet x m0 i w → KW Try.prog 8 65 (electlaw_walk.RV R) ([(0, [1, 1, 1, 1, 0, 1, 0, 0]), (2, [1, 1, 1, 1, 0, 1, 0, 0]), (1, [0]), (0, [1, 1, 1, 1, 1])].map (toItem (Try.f8.body.getD .skip))) [(0, .slice script_b script_l script_c), (1, .bool quiet), (6, .pointer x), (7, .pointer m0), (8, .int .i64 i)] w) (script_b : Option Addr) (script_l script_c : Nat) (quiet : Bool) (x m0 : Option Addr) (i : Int) (t27 : Bool) (w : World) (h : electlaw_walk.B2 script_b script_l script_c quiet x m0 i t27 w N1  R) :
    KW Try.prog 8 65 (electlaw_walk.RV R) ([(0, [1, 1, 1, 1, 0, 1, 0, 0, 0, 1]), (0, [1, 1, 1, 1, 0, 1, 0, 0, 1]), (2, [1, 1, 1, 1, 0, 1, 0, 0]), (1, [0]), (0, [1, 1, 1, 1, 1])].map (toItem (Try.f8.body.getD .skip))) [(0, .slice script_b script_l script_c), (1, .bool quiet), (6, .pointer x), (7, .pointer m0), (8, .int .i64 i), (27, .bool t27)] w := by
  exact block_spec Try.func8 Try.mixed (stops_cons (fun σ w h => by
      obtain ⟨script_b_, script_l_, script_c_, e0, h⟩ := dL_elim h
      obtain ⟨quiet_, e1, h⟩ := dB_elim h
      obtain ⟨x_, e2, h⟩ := dP_elim h
      obtain ⟨m0_, e3, h⟩ := dP_elim h
      obtain ⟨i_, e4, h⟩ := dI_elim h
      exact (electlaw_walk.B3_sound hN1 script_b_ script_l_ script_c_ quiet_ x_ m0_ i_ w h).weaken (Sub.cons (Sub.cons (Sub.cons (Sub.cons (Sub.cons (Sub.nil _) e4) e3) e2) e1) e0)) stops_nil) (Eq.mp (electlaw_walk.B2_eq script_b script_l script_c quiet x m0 i t27 w N1  R (fun script_b_ script_l_ script_c_ quiet_ x_ m0_ i_ w => electlaw_walk.B3 script_b_ script_l_ script_c_ quiet_ x_ m0_ i_ w N1 R)) h)
def electlaw_walk.L1b (script_b : Option Addr) (script_l script_c : Nat) (quiet : Bool) (x m0 : Option Addr) (i : Int) (w : World)  (N1 : Option Addr → Nat → Nat → Bool → Option Addr → Option Addr → Int → World → Prop) (R : Int → Int → World → Prop) : Prop :=
  Bm (decide (i < ((script_l : Nat) : Int))) (
    electlaw_walk.B2 script_b script_l script_c quiet x m0 i (decide (i < (4398046511104 : Int))) w N1 R) (
    electlaw_walk.B2 script_b script_l script_c quiet x m0 i false w N1 R)
theorem electlaw_walk.L1b_eq (script_b : Option Addr) (script_l script_c : Nat) (quiet : Bool) (x m0 : Option Addr) (i : Int) (w : World)  (N1 : Option Addr → Nat → Nat → Bool → Option Addr → Option Addr → Int → World → Prop) (R : Int → Int → World → Prop) (sB2 : Option Addr → Nat → Nat → Bool → Option Addr → Option Addr → Int → Bool → World → Prop) :
    (
  Bm (decide (i < ((script_l : Nat) : Int))) (
    sB2 script_b script_l script_c quiet x m0 i (decide (i < (4398046511104 : Int))) w) (
    sB2 script_b script_l script_c quiet x m0 i false w)) = kstep Try.prog 65 Try.f8.results.toList (Try.f8.body.getD .skip) (electlaw_walk.RV R) (kvc Try.prog 65 Try.f8.results.toList (Try.f8.body.getD .skip) (electlaw_walk.RV R) [([(0, [1, 1, 1, 1, 0, 1, 0, 0, 0, 1]), (0, [1, 1, 1, 1, 0, 1, 0, 0, 1]), (2, [1, 1, 1, 1, 0, 1, 0, 0]), (1, [0]), (0, [1, 1, 1, 1, 1])], fun σ w => dL (slotOf σ 0) fun script_b_ script_l_ script_c_ => dB (slotOf σ 1) fun quiet_ => dP (slotOf σ 6) fun x_ => dP (slotOf σ 7) fun m0_ => dI .i64 (slotOf σ 8) fun i_ => dB (slotOf σ 27) fun t27_ => sB2 script_b_ script_l_ script_c_ quiet_ x_ m0_ i_ t27_ w)] 2000) [(0, [1, 1, 1, 1, 0, 1, 0, 0]), (2, [1, 1, 1, 1, 0, 1, 0, 0]), (1, [0]), (0, [1, 1, 1, 1, 1])] [(0, .slice script_b script_l script_c), (1, .bool quiet), (6, .pointer x), (7, .pointer m0), (8, .int .i64 i)] w := by kernel_rfl
theorem electlaw_walk.L1b_sound {R : Int → Int → World → Prop} {N1 : Option Addr → Nat → Nat → Bool → Option Addr → Option Addr → Int → World → Prop} (hN1 : ∀ script_b script_l script_c quiet x m0 i w, N1 script_b script_l script_c quiet x m0 i w → KW Try.prog 8 65 (electlaw_walk.RV R) ([(0, [1, 1, 1, 1, 0, 1, 0, 0]), (2, [1, 1, 1, 1, 0, 1, 0, 0]), (1, [0]), (0, [1, 1, 1, 1, 1])].map (toItem (Try.f8.body.getD .skip))) [(0, .slice script_b script_l script_c), (1, .bool quiet), (6, .pointer x), (7, .pointer m0), (8, .int .i64 i)] w) (script_b : Option Addr) (script_l script_c : Nat) (quiet : Bool) (x m0 : Option Addr) (i : Int) (w : World) (h : electlaw_walk.L1b script_b script_l script_c quiet x m0 i w  N1 R) :
    KW Try.prog 8 65 (electlaw_walk.RV R) ([(0, [1, 1, 1, 1, 0, 1, 0, 0]), (2, [1, 1, 1, 1, 0, 1, 0, 0]), (1, [0]), (0, [1, 1, 1, 1, 1])].map (toItem (Try.f8.body.getD .skip))) [(0, .slice script_b script_l script_c), (1, .bool quiet), (6, .pointer x), (7, .pointer m0), (8, .int .i64 i)] w := by
  exact block_spec Try.func8 Try.mixed (stops_cons (fun σ w h => by
      obtain ⟨script_b_, script_l_, script_c_, e0, h⟩ := dL_elim h
      obtain ⟨quiet_, e1, h⟩ := dB_elim h
      obtain ⟨x_, e2, h⟩ := dP_elim h
      obtain ⟨m0_, e3, h⟩ := dP_elim h
      obtain ⟨i_, e4, h⟩ := dI_elim h
      obtain ⟨t27_, e5, h⟩ := dB_elim h
      exact (electlaw_walk.B2_sound hN1 script_b_ script_l_ script_c_ quiet_ x_ m0_ i_ t27_ w h).weaken (Sub.cons (Sub.cons (Sub.cons (Sub.cons (Sub.cons (Sub.cons (Sub.nil _) e5) e4) e3) e2) e1) e0)) stops_nil) (Eq.mp (electlaw_walk.L1b_eq script_b script_l script_c quiet x m0 i w  N1 R (fun script_b_ script_l_ script_c_ quiet_ x_ m0_ i_ t27_ w => electlaw_walk.B2 script_b_ script_l_ script_c_ quiet_ x_ m0_ i_ t27_ w N1 R)) h)
def electlaw_walk.L1 (script_b : Option Addr) (script_l script_c : Nat) (quiet : Bool) (x m0 : Option Addr) (i : Int) (w : World)  (R : Int → Int → World → Prop) : Prop :=
  ∃ (I : Nat → Option Addr → Nat → Nat → Bool → Option Addr → Option Addr → Int → World → Prop) (m : Nat), I m script_b script_l script_c quiet x m0 i w ∧ ∀ m script_b script_l script_c quiet x m0 i w, I m script_b script_l script_c quiet x m0 i w → electlaw_walk.L1b script_b script_l script_c quiet x m0 i w  (fun script_b' script_l' script_c' quiet' x' m0' i' w' => ∃ m', m' < m ∧ I m' script_b' script_l' script_c' quiet' x' m0' i' w') R
theorem electlaw_walk.L1_sound {R : Int → Int → World → Prop}  (script_b : Option Addr) (script_l script_c : Nat) (quiet : Bool) (x m0 : Option Addr) (i : Int) (w : World) (h : electlaw_walk.L1 script_b script_l script_c quiet x m0 i w  R) :
    KW Try.prog 8 65 (electlaw_walk.RV R) ([(0, [1, 1, 1, 1, 0, 1, 0, 0]), (2, [1, 1, 1, 1, 0, 1, 0, 0]), (1, [0]), (0, [1, 1, 1, 1, 1])].map (toItem (Try.f8.body.getD .skip))) [(0, .slice script_b script_l script_c), (1, .bool quiet), (6, .pointer x), (7, .pointer m0), (8, .int .i64 i)] w := by
  obtain ⟨I, m, h0, hr⟩ := h
  refine KW.loop (fun m σ w => ∃ (script_b : Option Addr) (script_l script_c : Nat) (quiet : Bool) (x m0 : Option Addr) (i : Int), σ = [(0, .slice script_b script_l script_c), (1, .bool quiet), (6, .pointer x), (7, .pointer m0), (8, .int .i64 i)] ∧ I m script_b script_l script_c quiet x m0 i w) ?_ m _ w ⟨script_b, script_l, script_c, quiet, x, m0, i, rfl, h0⟩
  rintro m ih σ w ⟨script_b, script_l, script_c, quiet, x, m0, i, rfl, hI⟩
  exact electlaw_walk.L1b_sound  (N1 := fun script_b' script_l' script_c' quiet' x' m0' i' w' => ∃ m', m' < m ∧ I m' script_b' script_l' script_c' quiet' x' m0' i' w') (fun script_b' script_l' script_c' quiet' x' m0' i' w' hx => by obtain ⟨m', hlt, hI'⟩ := hx; exact ih m' hlt _ w' ⟨script_b', script_l', script_c', quiet', x', m0', i', rfl, hI'⟩) script_b script_l script_c quiet x m0 i w (hr m script_b script_l script_c quiet x m0 i w hI)
def electlaw_walk.B1 (script_b : Option Addr) (script_l script_c : Nat) (quiet : Bool) (x m0 : Option Addr) (t19 : Bool) (w : World)   (R : Int → Int → World → Prop) : Prop :=
  Bm t19 (
    R (0 : Int) (0 : Int) w) (
    electlaw_walk.L1 script_b script_l script_c quiet x m0 (0 : Int) w  R)
theorem electlaw_walk.B1_eq (script_b : Option Addr) (script_l script_c : Nat) (quiet : Bool) (x m0 : Option Addr) (t19 : Bool) (w : World)   (R : Int → Int → World → Prop) (sL1 : Option Addr → Nat → Nat → Bool → Option Addr → Option Addr → Int → World → Prop) :
    (
  Bm t19 (
    R (0 : Int) (0 : Int) w) (
    sL1 script_b script_l script_c quiet x m0 (0 : Int) w)) = kstep Try.prog 65 Try.f8.results.toList (Try.f8.body.getD .skip) (electlaw_walk.RV R) (kvc Try.prog 65 Try.f8.results.toList (Try.f8.body.getD .skip) (electlaw_walk.RV R) [([(0, [1, 1, 1, 1, 0, 1, 0, 0]), (2, [1, 1, 1, 1, 0, 1, 0, 0]), (1, [0]), (0, [1, 1, 1, 1, 1])], fun σ w => dL (slotOf σ 0) fun script_b_ script_l_ script_c_ => dB (slotOf σ 1) fun quiet_ => dP (slotOf σ 6) fun x_ => dP (slotOf σ 7) fun m0_ => dI .i64 (slotOf σ 8) fun i_ => sL1 script_b_ script_l_ script_c_ quiet_ x_ m0_ i_ w)] 2000) [(0, [1, 1, 1, 0, 1]), (0, [1, 1, 1, 1])] [(0, .slice script_b script_l script_c), (1, .bool quiet), (6, .pointer x), (7, .pointer m0), (19, .bool t19)] w := by kernel_rfl
theorem electlaw_walk.B1_sound {R : Int → Int → World → Prop}  (script_b : Option Addr) (script_l script_c : Nat) (quiet : Bool) (x m0 : Option Addr) (t19 : Bool) (w : World) (h : electlaw_walk.B1 script_b script_l script_c quiet x m0 t19 w   R) :
    KW Try.prog 8 65 (electlaw_walk.RV R) ([(0, [1, 1, 1, 0, 1]), (0, [1, 1, 1, 1])].map (toItem (Try.f8.body.getD .skip))) [(0, .slice script_b script_l script_c), (1, .bool quiet), (6, .pointer x), (7, .pointer m0), (19, .bool t19)] w := by
  exact block_spec Try.func8 Try.mixed (stops_cons (fun σ w h => by
      obtain ⟨script_b_, script_l_, script_c_, e0, h⟩ := dL_elim h
      obtain ⟨quiet_, e1, h⟩ := dB_elim h
      obtain ⟨x_, e2, h⟩ := dP_elim h
      obtain ⟨m0_, e3, h⟩ := dP_elim h
      obtain ⟨i_, e4, h⟩ := dI_elim h
      exact (electlaw_walk.L1_sound  script_b_ script_l_ script_c_ quiet_ x_ m0_ i_ w h).weaken (Sub.cons (Sub.cons (Sub.cons (Sub.cons (Sub.cons (Sub.nil _) e4) e3) e2) e1) e0)) stops_nil) (Eq.mp (electlaw_walk.B1_eq script_b script_l script_c quiet x m0 t19 w   R (fun script_b_ script_l_ script_c_ quiet_ x_ m0_ i_ w => electlaw_walk.L1 script_b_ script_l_ script_c_ quiet_ x_ m0_ i_ w  R)) h)
def electlaw_walk.B0 (script_b : Option Addr) (script_l script_c : Nat) (quiet : Bool) (w : World)   (R : Int → Int → World → Prop) : Prop :=
  elect_New.Call (0 : Int) w fun r10 w1 =>
  electm_New.Call (0 : Int) w1 fun r11 w2 =>
  Bm (!quiet) (
    electlaw_Alike.Call r10 r11 w2 fun r17 w3 =>
    electlaw_walk.B1 script_b script_l script_c quiet r10 r11 (!r17) w3  R) (
    electlaw_walk.B1 script_b script_l script_c quiet r10 r11 false w2  R)
theorem electlaw_walk.B0_eq (script_b : Option Addr) (script_l script_c : Nat) (quiet : Bool) (w : World)   (R : Int → Int → World → Prop) (sB1 : Option Addr → Nat → Nat → Bool → Option Addr → Option Addr → Bool → World → Prop) :
    (
  elect_New.Call (0 : Int) w fun r10 w1 =>
  electm_New.Call (0 : Int) w1 fun r11 w2 =>
  Bm (!quiet) (
    electlaw_Alike.Call r10 r11 w2 fun r17 w3 =>
    sB1 script_b script_l script_c quiet r10 r11 (!r17) w3) (
    sB1 script_b script_l script_c quiet r10 r11 false w2)) = kstep Try.prog 65 Try.f8.results.toList (Try.f8.body.getD .skip) (electlaw_walk.RV R) (kvc Try.prog 65 Try.f8.results.toList (Try.f8.body.getD .skip) (electlaw_walk.RV R) [([(0, [1, 1, 1, 0, 1]), (0, [1, 1, 1, 1])], fun σ w => dL (slotOf σ 0) fun script_b_ script_l_ script_c_ => dB (slotOf σ 1) fun quiet_ => dP (slotOf σ 6) fun x_ => dP (slotOf σ 7) fun m0_ => dB (slotOf σ 19) fun t19_ => sB1 script_b_ script_l_ script_c_ quiet_ x_ m0_ t19_ w)] 2000) [(0, [])] [(0, .slice script_b script_l script_c), (1, .bool quiet)] w := by kernel_rfl
theorem electlaw_walk.B0_sound {R : Int → Int → World → Prop}  (script_b : Option Addr) (script_l script_c : Nat) (quiet : Bool) (w : World) (h : electlaw_walk.B0 script_b script_l script_c quiet w   R) :
    KW Try.prog 8 65 (electlaw_walk.RV R) ([(0, [])].map (toItem (Try.f8.body.getD .skip))) [(0, .slice script_b script_l script_c), (1, .bool quiet)] w := by
  exact block_spec Try.func8 Try.mixed (stops_cons (fun σ w h => by
      obtain ⟨script_b_, script_l_, script_c_, e0, h⟩ := dL_elim h
      obtain ⟨quiet_, e1, h⟩ := dB_elim h
      obtain ⟨x_, e2, h⟩ := dP_elim h
      obtain ⟨m0_, e3, h⟩ := dP_elim h
      obtain ⟨t19_, e4, h⟩ := dB_elim h
      exact (electlaw_walk.B1_sound  script_b_ script_l_ script_c_ quiet_ x_ m0_ t19_ w h).weaken (Sub.cons (Sub.cons (Sub.cons (Sub.cons (Sub.cons (Sub.nil _) e4) e3) e2) e1) e0)) stops_nil) (Eq.mp (electlaw_walk.B0_eq script_b script_l script_c quiet w   R (fun script_b_ script_l_ script_c_ quiet_ x_ m0_ t19_ w => electlaw_walk.B1 script_b_ script_l_ script_c_ quiet_ x_ m0_ t19_ w  R)) h)
theorem electlaw_walk.sound (script_b : Option Addr) (script_l script_c : Nat) (quiet : Bool) (w : World) (R : Int → Int → World → Prop) (h : electlaw_walk.B0 script_b script_l script_c quiet w R) : electlaw_walk.Call script_b script_l script_c quiet w R := by
  have hc := calls_of_block (args := #[.slice script_b script_l script_c, .bool quiet]) Try.func8 (body := (Try.f8.body.getD .skip)) (by kernel_rfl) (by kernel_rfl) (args_slot _) (electlaw_walk.B0_sound script_b script_l script_c quiet w h)
  exact hc.mono fun e w' he => by
    obtain ⟨v, rfl, hv⟩ := he
    exact electlaw_walk.RV_elim hv
def electm_New.B2 (id0 : Int) (w : World)   (R : Option Addr → World → Prop) : Prop :=
  New (.cells #[.int .i64 id0, .int .i64 (0 : Int), .int .i64 (-1 : Int), .int .i64 (0 : Int), .int .i64 (-1 : Int), .int .i64 (0 : Int), .bool false, .bool false, .bool false] 50) w fun b11 w1 =>
  R (some ⟨b11, 0, none⟩) w1
theorem electm_New.B2_eq (id0 : Int) (w : World)   (R : Option Addr → World → Prop)  :
    (
  New (.cells #[.int .i64 id0, .int .i64 (0 : Int), .int .i64 (-1 : Int), .int .i64 (0 : Int), .int .i64 (-1 : Int), .int .i64 (0 : Int), .bool false, .bool false, .bool false] 50) w fun b11 w1 =>
  R (some ⟨b11, 0, none⟩) w1) = kstep Try.prog 12 Try.f9.results.toList (Try.f9.body.getD .skip) (electm_New.RV R) (kvc Try.prog 12 Try.f9.results.toList (Try.f9.body.getD .skip) (electm_New.RV R) [] 2000) [(0, [1, 1])] [(0, .int .i64 id0)] w := by kernel_rfl
theorem electm_New.B2_sound {R : Option Addr → World → Prop}  (id0 : Int) (w : World) (h : electm_New.B2 id0 w   R) :
    KW Try.prog 9 12 (electm_New.RV R) ([(0, [1, 1])].map (toItem (Try.f9.body.getD .skip))) [(0, .int .i64 id0)] w := by
  exact block_spec Try.func9 Try.mixed stops_nil (Eq.mp (electm_New.B2_eq id0 w   R ) h)
def electm_New.B1 (id0 : Int) (t8 : Bool) (w : World)   (R : Option Addr → World → Prop) : Prop :=
  Bm t8 (
    electm_New.B2 (0 : Int) w  R) (
    electm_New.B2 id0 w  R)
theorem electm_New.B1_eq (id0 : Int) (t8 : Bool) (w : World)   (R : Option Addr → World → Prop) (sB2 : Int → World → Prop) :
    (
  Bm t8 (
    sB2 (0 : Int) w) (
    sB2 id0 w)) = kstep Try.prog 12 Try.f9.results.toList (Try.f9.body.getD .skip) (electm_New.RV R) (kvc Try.prog 12 Try.f9.results.toList (Try.f9.body.getD .skip) (electm_New.RV R) [([(0, [1, 1])], fun σ w => dI .i64 (slotOf σ 0) fun id0_ => sB2 id0_ w)] 2000) [(0, [1, 0, 1]), (0, [1, 1])] [(0, .int .i64 id0), (8, .bool t8)] w := by kernel_rfl
theorem electm_New.B1_sound {R : Option Addr → World → Prop}  (id0 : Int) (t8 : Bool) (w : World) (h : electm_New.B1 id0 t8 w   R) :
    KW Try.prog 9 12 (electm_New.RV R) ([(0, [1, 0, 1]), (0, [1, 1])].map (toItem (Try.f9.body.getD .skip))) [(0, .int .i64 id0), (8, .bool t8)] w := by
  exact block_spec Try.func9 Try.mixed (stops_cons (fun σ w h => by
      obtain ⟨id0_, e0, h⟩ := dI_elim h
      exact (electm_New.B2_sound  id0_ w h).weaken (Sub.cons (Sub.nil _) e0)) stops_nil) (Eq.mp (electm_New.B1_eq id0 t8 w   R (fun id0_ w => electm_New.B2 id0_ w  R)) h)
def electm_New.B0 (id0 : Int) (w : World)   (R : Option Addr → World → Prop) : Prop :=
  Bm (decide (id0 < (0 : Int))) (
    electm_New.B1 id0 true w  R) (
    electm_New.B1 id0 (decide (id0 ≥ (3 : Int))) w  R)
theorem electm_New.B0_eq (id0 : Int) (w : World)   (R : Option Addr → World → Prop) (sB1 : Int → Bool → World → Prop) :
    (
  Bm (decide (id0 < (0 : Int))) (
    sB1 id0 true w) (
    sB1 id0 (decide (id0 ≥ (3 : Int))) w)) = kstep Try.prog 12 Try.f9.results.toList (Try.f9.body.getD .skip) (electm_New.RV R) (kvc Try.prog 12 Try.f9.results.toList (Try.f9.body.getD .skip) (electm_New.RV R) [([(0, [1, 0, 1]), (0, [1, 1])], fun σ w => dI .i64 (slotOf σ 0) fun id0_ => dB (slotOf σ 8) fun t8_ => sB1 id0_ t8_ w)] 2000) [(0, [])] [(0, .int .i64 id0)] w := by kernel_rfl
theorem electm_New.B0_sound {R : Option Addr → World → Prop}  (id0 : Int) (w : World) (h : electm_New.B0 id0 w   R) :
    KW Try.prog 9 12 (electm_New.RV R) ([(0, [])].map (toItem (Try.f9.body.getD .skip))) [(0, .int .i64 id0)] w := by
  exact block_spec Try.func9 Try.mixed (stops_cons (fun σ w h => by
      obtain ⟨id0_, e0, h⟩ := dI_elim h
      obtain ⟨t8_, e1, h⟩ := dB_elim h
      exact (electm_New.B1_sound  id0_ t8_ w h).weaken (Sub.cons (Sub.cons (Sub.nil _) e1) e0)) stops_nil) (Eq.mp (electm_New.B0_eq id0 w   R (fun id0_ t8_ w => electm_New.B1 id0_ t8_ w  R)) h)
theorem electm_New.sound (id0 : Int) (w : World) (R : Option Addr → World → Prop) (h : electm_New.B0 id0 w R) : electm_New.Call id0 w R := by
  have hc := calls_of_block (args := #[.int .i64 id0]) Try.func9 (body := (Try.f9.body.getD .skip)) (by kernel_rfl) (by kernel_rfl) (args_slot _) (electm_New.B0_sound id0 w h)
  exact hc.mono fun e w' he => by
    obtain ⟨v, rfl, hv⟩ := he
    exact electm_New.RV_elim hv
def electlaw_FaceOf.B0 (m0 : Option Addr) (w : World)   (R : Int → Int → Int → World → Prop) : Prop :=
  New (.cells #[.int .i64 (0 : Int), .int .i64 (0 : Int), .int .i64 (0 : Int)] 32) w fun b2 w1 =>
  electm_Elect_Term.Call m0 w1 fun r7 w2 =>
  electm_Elect_Vote.Call m0 w2 fun r9 w3 =>
  electm_Elect_Role.Call m0 w3 fun r11 w4 =>
  Sts [.int .i64 r7, .int .i64 r9, .int .i64 r11] ⟨b2, 0, none⟩ 0 w4 fun w5 =>
  LdI .i64 ⟨b2, 0, none⟩ w5 fun r_0 =>
  LdI .i64 ⟨b2, 1, none⟩ w5 fun r_1 =>
  LdI .i64 ⟨b2, 2, none⟩ w5 fun r_2 =>
  R r_0 r_1 r_2 w5
theorem electlaw_FaceOf.B0_eq (m0 : Option Addr) (w : World)   (R : Int → Int → Int → World → Prop)  :
    (
  New (.cells #[.int .i64 (0 : Int), .int .i64 (0 : Int), .int .i64 (0 : Int)] 32) w fun b2 w1 =>
  electm_Elect_Term.Call m0 w1 fun r7 w2 =>
  electm_Elect_Vote.Call m0 w2 fun r9 w3 =>
  electm_Elect_Role.Call m0 w3 fun r11 w4 =>
  Sts [.int .i64 r7, .int .i64 r9, .int .i64 r11] ⟨b2, 0, none⟩ 0 w4 fun w5 =>
  LdI .i64 ⟨b2, 0, none⟩ w5 fun r_0 =>
  LdI .i64 ⟨b2, 1, none⟩ w5 fun r_1 =>
  LdI .i64 ⟨b2, 2, none⟩ w5 fun r_2 =>
  R r_0 r_1 r_2 w5) = kstep Try.prog 16 Try.f10.results.toList (Try.f10.body.getD .skip) (electlaw_FaceOf.RV R) (kvc Try.prog 16 Try.f10.results.toList (Try.f10.body.getD .skip) (electlaw_FaceOf.RV R) [] 2000) [(0, [])] [(0, .pointer m0)] w := by kernel_rfl
theorem electlaw_FaceOf.B0_sound {R : Int → Int → Int → World → Prop}  (m0 : Option Addr) (w : World) (h : electlaw_FaceOf.B0 m0 w   R) :
    KW Try.prog 10 16 (electlaw_FaceOf.RV R) ([(0, [])].map (toItem (Try.f10.body.getD .skip))) [(0, .pointer m0)] w := by
  exact block_spec Try.func10 Try.mixed stops_nil (Eq.mp (electlaw_FaceOf.B0_eq m0 w   R ) h)
theorem electlaw_FaceOf.sound (m0 : Option Addr) (w : World) (R : Int → Int → Int → World → Prop) (h : electlaw_FaceOf.B0 m0 w R) : electlaw_FaceOf.Call m0 w R := by
  have hc := calls_of_block (args := #[.pointer m0]) Try.func10 (body := (Try.f10.body.getD .skip)) (by kernel_rfl) (by kernel_rfl) (args_slot _) (electlaw_FaceOf.B0_sound m0 w h)
  exact hc.mono fun e w' he => by
    obtain ⟨v, rfl, hv⟩ := he
    exact electlaw_FaceOf.RV_elim hv
def electm_Elect_Tick.B0 (e : Option Addr) (w : World)   (R : Int → World → Prop) : Prop :=
  Pn e fun a =>
  LdI .i64 (a.add 3) w fun x6 =>
  Bm (x6 == (2 : Int)) (
    R (2 : Int) w) (
    Pn e fun a_1 =>
    LdI .i64 (a_1.add 5) w fun x11 =>
    Pn e fun a_2 =>
    Sts [.int .i64 (IntKind.i64.wrap (x11 + (1 : Int)))] (a_2.add 5) 0 w fun w1 =>
    Pn e fun a_3 =>
    LdI .i64 (a_3.add 5) w1.drew fun x18 =>
    Pn e fun a_4 =>
    LdI .i64 a_4 w1.drew fun x22 =>
    api_Timeout.Call x22 w1.drew fun r23 w2 =>
    w2.cell? (a_3.add 5) = some (.int .i64 x18) ∧
    Bm (decide (x18 < r23)) (
      R (0 : Int) w2) (
      Pn e fun a_5 =>
      Sts [.int .i64 (0 : Int)] (a_5.add 5) 0 w2 fun w3 =>
      Pn e fun a_6 =>
      LdI .i64 (a_6.add 1) w3 fun x31 =>
      Bm (decide (x31 ≥ (72057594037927936 : Int))) (
        R (0 : Int) w3) (
        Pn e fun a_7 =>
        LdI .i64 (a_7.add 1) w3.drew fun x40 =>
        Pn e fun a_8 =>
        LdI .i64 a_8 w3.drew fun x45 =>
        Pn e fun a_9 =>
        Sts [.int .i64 (IntKind.i64.wrap (x40 + (1 : Int)))] (a_9.add 1) 0 w3.drew fun w4 =>
        Pn e fun a_10 =>
        Sts [.int .i64 x45] (a_10.add 2) 0 w4 fun w5 =>
        Pn e fun a_11 =>
        Sts [.int .i64 (1 : Int)] (a_11.add 3) 0 w5 fun w6 =>
        Pn e fun a_12 =>
        Sts [.int .i64 (-1 : Int)] (a_12.add 4) 0 w6 fun w7 =>
        Pn e fun a_13 =>
        Sts [.bool false, .bool false, .bool false] (a_13.add 6) 0 w7 fun w8 =>
        Pn e fun a_14 =>
        LdI .i64 a_14 w8.drew fun x62 =>
        Pn e fun a_15 =>
        (0 ≤ x62 ∧ x62 < ((3 : Nat) : Int)) ∧
        Sts [.bool true] (Addr.add (a_15.add 6) (x62.toNat * 1)) 0 w8.drew fun w9 =>
        R (1 : Int) w9)))
theorem electm_Elect_Tick.B0_eq (e : Option Addr) (w : World)   (R : Int → World → Prop)  :
    (
  Pn e fun a =>
  LdI .i64 (a.add 3) w fun x6 =>
  Bm (x6 == (2 : Int)) (
    R (2 : Int) w) (
    Pn e fun a_1 =>
    LdI .i64 (a_1.add 5) w fun x11 =>
    Pn e fun a_2 =>
    Sts [.int .i64 (IntKind.i64.wrap (x11 + (1 : Int)))] (a_2.add 5) 0 w fun w1 =>
    Pn e fun a_3 =>
    LdI .i64 (a_3.add 5) w1.drew fun x18 =>
    Pn e fun a_4 =>
    LdI .i64 a_4 w1.drew fun x22 =>
    api_Timeout.Call x22 w1.drew fun r23 w2 =>
    w2.cell? (a_3.add 5) = some (.int .i64 x18) ∧
    Bm (decide (x18 < r23)) (
      R (0 : Int) w2) (
      Pn e fun a_5 =>
      Sts [.int .i64 (0 : Int)] (a_5.add 5) 0 w2 fun w3 =>
      Pn e fun a_6 =>
      LdI .i64 (a_6.add 1) w3 fun x31 =>
      Bm (decide (x31 ≥ (72057594037927936 : Int))) (
        R (0 : Int) w3) (
        Pn e fun a_7 =>
        LdI .i64 (a_7.add 1) w3.drew fun x40 =>
        Pn e fun a_8 =>
        LdI .i64 a_8 w3.drew fun x45 =>
        Pn e fun a_9 =>
        Sts [.int .i64 (IntKind.i64.wrap (x40 + (1 : Int)))] (a_9.add 1) 0 w3.drew fun w4 =>
        Pn e fun a_10 =>
        Sts [.int .i64 x45] (a_10.add 2) 0 w4 fun w5 =>
        Pn e fun a_11 =>
        Sts [.int .i64 (1 : Int)] (a_11.add 3) 0 w5 fun w6 =>
        Pn e fun a_12 =>
        Sts [.int .i64 (-1 : Int)] (a_12.add 4) 0 w6 fun w7 =>
        Pn e fun a_13 =>
        Sts [.bool false, .bool false, .bool false] (a_13.add 6) 0 w7 fun w8 =>
        Pn e fun a_14 =>
        LdI .i64 a_14 w8.drew fun x62 =>
        Pn e fun a_15 =>
        (0 ≤ x62 ∧ x62 < ((3 : Nat) : Int)) ∧
        Sts [.bool true] (Addr.add (a_15.add 6) (x62.toNat * 1)) 0 w8.drew fun w9 =>
        R (1 : Int) w9)))) = kstep Try.prog 66 Try.f11.results.toList (Try.f11.body.getD .skip) (electm_Elect_Tick.RV R) (kvc Try.prog 66 Try.f11.results.toList (Try.f11.body.getD .skip) (electm_Elect_Tick.RV R) [] 2000) [(0, [])] [(0, .pointer e)] w := by kernel_rfl
theorem electm_Elect_Tick.B0_sound {R : Int → World → Prop}  (e : Option Addr) (w : World) (h : electm_Elect_Tick.B0 e w   R) :
    KW Try.prog 11 66 (electm_Elect_Tick.RV R) ([(0, [])].map (toItem (Try.f11.body.getD .skip))) [(0, .pointer e)] w := by
  exact block_spec Try.func11 Try.mixed stops_nil (Eq.mp (electm_Elect_Tick.B0_eq e w   R ) h)
theorem electm_Elect_Tick.sound (e : Option Addr) (w : World) (R : Int → World → Prop) (h : electm_Elect_Tick.B0 e w R) : electm_Elect_Tick.Call e w R := by
  have hc := calls_of_block (args := #[.pointer e]) Try.func11 (body := (Try.f11.body.getD .skip)) (by kernel_rfl) (by kernel_rfl) (args_slot _) (electm_Elect_Tick.B0_sound e w h)
  exact hc.mono fun e w' he => by
    obtain ⟨v, rfl, hv⟩ := he
    exact electm_Elect_Tick.RV_elim hv
def electm_Elect_Id.B0 (e : Option Addr) (w : World)   (R : Int → World → Prop) : Prop :=
  Pn e fun a =>
  LdI .i64 a w fun x6 =>
  R x6 w
theorem electm_Elect_Id.B0_eq (e : Option Addr) (w : World)   (R : Int → World → Prop)  :
    (
  Pn e fun a =>
  LdI .i64 a w fun x6 =>
  R x6 w) = kstep Try.prog 7 Try.f12.results.toList (Try.f12.body.getD .skip) (electm_Elect_Id.RV R) (kvc Try.prog 7 Try.f12.results.toList (Try.f12.body.getD .skip) (electm_Elect_Id.RV R) [] 2000) [(0, [])] [(0, .pointer e)] w := by kernel_rfl
theorem electm_Elect_Id.B0_sound {R : Int → World → Prop}  (e : Option Addr) (w : World) (h : electm_Elect_Id.B0 e w   R) :
    KW Try.prog 12 7 (electm_Elect_Id.RV R) ([(0, [])].map (toItem (Try.f12.body.getD .skip))) [(0, .pointer e)] w := by
  exact block_spec Try.func12 Try.mixed stops_nil (Eq.mp (electm_Elect_Id.B0_eq e w   R ) h)
theorem electm_Elect_Id.sound (e : Option Addr) (w : World) (R : Int → World → Prop) (h : electm_Elect_Id.B0 e w R) : electm_Elect_Id.Call e w R := by
  have hc := calls_of_block (args := #[.pointer e]) Try.func12 (body := (Try.f12.body.getD .skip)) (by kernel_rfl) (by kernel_rfl) (args_slot _) (electm_Elect_Id.B0_sound e w h)
  exact hc.mono fun e w' he => by
    obtain ⟨v, rfl, hv⟩ := he
    exact electm_Elect_Id.RV_elim hv
def api_Timeout.B1 (id0 : Int) (t8 : Bool) (w : World)   (R : Int → World → Prop) : Prop :=
  Bm t8 (
    R (3 : Int) w) (
    R (IntKind.i64.wrap ((3 : Int) + (IntKind.i64.wrap ((2 : Int) * id0)))) w)
theorem api_Timeout.B1_eq (id0 : Int) (t8 : Bool) (w : World)   (R : Int → World → Prop)  :
    (
  Bm t8 (
    R (3 : Int) w) (
    R (IntKind.i64.wrap ((3 : Int) + (IntKind.i64.wrap ((2 : Int) * id0)))) w)) = kstep Try.prog 12 Try.f13.results.toList (Try.f13.body.getD .skip) (api_Timeout.RV R) (kvc Try.prog 12 Try.f13.results.toList (Try.f13.body.getD .skip) (api_Timeout.RV R) [] 2000) [(0, [1, 0, 1]), (0, [1, 1])] [(0, .int .i64 id0), (8, .bool t8)] w := by kernel_rfl
theorem api_Timeout.B1_sound {R : Int → World → Prop}  (id0 : Int) (t8 : Bool) (w : World) (h : api_Timeout.B1 id0 t8 w   R) :
    KW Try.prog 13 12 (api_Timeout.RV R) ([(0, [1, 0, 1]), (0, [1, 1])].map (toItem (Try.f13.body.getD .skip))) [(0, .int .i64 id0), (8, .bool t8)] w := by
  exact block_spec Try.func13 Try.mixed stops_nil (Eq.mp (api_Timeout.B1_eq id0 t8 w   R ) h)
def api_Timeout.B0 (id0 : Int) (w : World)   (R : Int → World → Prop) : Prop :=
  Bm (decide (id0 < (0 : Int))) (
    api_Timeout.B1 id0 true w  R) (
    api_Timeout.B1 id0 (decide (id0 ≥ (3 : Int))) w  R)
theorem api_Timeout.B0_eq (id0 : Int) (w : World)   (R : Int → World → Prop) (sB1 : Int → Bool → World → Prop) :
    (
  Bm (decide (id0 < (0 : Int))) (
    sB1 id0 true w) (
    sB1 id0 (decide (id0 ≥ (3 : Int))) w)) = kstep Try.prog 12 Try.f13.results.toList (Try.f13.body.getD .skip) (api_Timeout.RV R) (kvc Try.prog 12 Try.f13.results.toList (Try.f13.body.getD .skip) (api_Timeout.RV R) [([(0, [1, 0, 1]), (0, [1, 1])], fun σ w => dI .i64 (slotOf σ 0) fun id0_ => dB (slotOf σ 8) fun t8_ => sB1 id0_ t8_ w)] 2000) [(0, [])] [(0, .int .i64 id0)] w := by kernel_rfl
theorem api_Timeout.B0_sound {R : Int → World → Prop}  (id0 : Int) (w : World) (h : api_Timeout.B0 id0 w   R) :
    KW Try.prog 13 12 (api_Timeout.RV R) ([(0, [])].map (toItem (Try.f13.body.getD .skip))) [(0, .int .i64 id0)] w := by
  exact block_spec Try.func13 Try.mixed (stops_cons (fun σ w h => by
      obtain ⟨id0_, e0, h⟩ := dI_elim h
      obtain ⟨t8_, e1, h⟩ := dB_elim h
      exact (api_Timeout.B1_sound  id0_ t8_ w h).weaken (Sub.cons (Sub.cons (Sub.nil _) e1) e0)) stops_nil) (Eq.mp (api_Timeout.B0_eq id0 w   R (fun id0_ t8_ w => api_Timeout.B1 id0_ t8_ w  R)) h)
theorem api_Timeout.sound (id0 : Int) (w : World) (R : Int → World → Prop) (h : api_Timeout.B0 id0 w R) : api_Timeout.Call id0 w R := by
  have hc := calls_of_block (args := #[.int .i64 id0]) Try.func13 (body := (Try.f13.body.getD .skip)) (by kernel_rfl) (by kernel_rfl) (args_slot _) (api_Timeout.B0_sound id0 w h)
  exact hc.mono fun e w' he => by
    obtain ⟨v, rfl, hv⟩ := he
    exact api_Timeout.RV_elim hv
def electm_Elect_See.B1 (e : Option Addr) (term : Int) (t14 : Bool) (w : World)   (R : Bool → World → Prop) : Prop :=
  Bm t14 (
    R false w) (
    Pn e fun a =>
    Sts [.int .i64 term] (a.add 1) 0 w fun w1 =>
    Pn e fun a_1 =>
    Sts [.int .i64 (-1 : Int)] (a_1.add 2) 0 w1 fun w2 =>
    Pn e fun a_2 =>
    Sts [.int .i64 (0 : Int)] (a_2.add 3) 0 w2 fun w3 =>
    Pn e fun a_3 =>
    Sts [.int .i64 (-1 : Int)] (a_3.add 4) 0 w3 fun w4 =>
    Pn e fun a_4 =>
    Sts [.bool false, .bool false, .bool false] (a_4.add 6) 0 w4 fun w5 =>
    R true w5)
theorem electm_Elect_See.B1_eq (e : Option Addr) (term : Int) (t14 : Bool) (w : World)   (R : Bool → World → Prop)  :
    (
  Bm t14 (
    R false w) (
    Pn e fun a =>
    Sts [.int .i64 term] (a.add 1) 0 w fun w1 =>
    Pn e fun a_1 =>
    Sts [.int .i64 (-1 : Int)] (a_1.add 2) 0 w1 fun w2 =>
    Pn e fun a_2 =>
    Sts [.int .i64 (0 : Int)] (a_2.add 3) 0 w2 fun w3 =>
    Pn e fun a_3 =>
    Sts [.int .i64 (-1 : Int)] (a_3.add 4) 0 w3 fun w4 =>
    Pn e fun a_4 =>
    Sts [.bool false, .bool false, .bool false] (a_4.add 6) 0 w4 fun w5 =>
    R true w5)) = kstep Try.prog 32 Try.f14.results.toList (Try.f14.body.getD .skip) (electm_Elect_See.RV R) (kvc Try.prog 32 Try.f14.results.toList (Try.f14.body.getD .skip) (electm_Elect_See.RV R) [] 2000) [(0, [1, 0, 1]), (0, [1, 1])] [(0, .pointer e), (1, .int .i64 term), (14, .bool t14)] w := by kernel_rfl
theorem electm_Elect_See.B1_sound {R : Bool → World → Prop}  (e : Option Addr) (term : Int) (t14 : Bool) (w : World) (h : electm_Elect_See.B1 e term t14 w   R) :
    KW Try.prog 14 32 (electm_Elect_See.RV R) ([(0, [1, 0, 1]), (0, [1, 1])].map (toItem (Try.f14.body.getD .skip))) [(0, .pointer e), (1, .int .i64 term), (14, .bool t14)] w := by
  exact block_spec Try.func14 Try.mixed stops_nil (Eq.mp (electm_Elect_See.B1_eq e term t14 w   R ) h)
def electm_Elect_See.B0 (e : Option Addr) (term : Int) (w : World)   (R : Bool → World → Prop) : Prop :=
  Pn e fun a =>
  LdI .i64 (a.add 1) w fun x9 =>
  Bm (decide (term ≤ x9)) (
    electm_Elect_See.B1 e term true w  R) (
    electm_Elect_See.B1 e term (decide (term > (72057594037927936 : Int))) w  R)
theorem electm_Elect_See.B0_eq (e : Option Addr) (term : Int) (w : World)   (R : Bool → World → Prop) (sB1 : Option Addr → Int → Bool → World → Prop) :
    (
  Pn e fun a =>
  LdI .i64 (a.add 1) w fun x9 =>
  Bm (decide (term ≤ x9)) (
    sB1 e term true w) (
    sB1 e term (decide (term > (72057594037927936 : Int))) w)) = kstep Try.prog 32 Try.f14.results.toList (Try.f14.body.getD .skip) (electm_Elect_See.RV R) (kvc Try.prog 32 Try.f14.results.toList (Try.f14.body.getD .skip) (electm_Elect_See.RV R) [([(0, [1, 0, 1]), (0, [1, 1])], fun σ w => dP (slotOf σ 0) fun e_ => dI .i64 (slotOf σ 1) fun term_ => dB (slotOf σ 14) fun t14_ => sB1 e_ term_ t14_ w)] 2000) [(0, [])] [(0, .pointer e), (1, .int .i64 term)] w := by kernel_rfl
theorem electm_Elect_See.B0_sound {R : Bool → World → Prop}  (e : Option Addr) (term : Int) (w : World) (h : electm_Elect_See.B0 e term w   R) :
    KW Try.prog 14 32 (electm_Elect_See.RV R) ([(0, [])].map (toItem (Try.f14.body.getD .skip))) [(0, .pointer e), (1, .int .i64 term)] w := by
  exact block_spec Try.func14 Try.mixed (stops_cons (fun σ w h => by
      obtain ⟨e_, e0, h⟩ := dP_elim h
      obtain ⟨term_, e1, h⟩ := dI_elim h
      obtain ⟨t14_, e2, h⟩ := dB_elim h
      exact (electm_Elect_See.B1_sound  e_ term_ t14_ w h).weaken (Sub.cons (Sub.cons (Sub.cons (Sub.nil _) e2) e1) e0)) stops_nil) (Eq.mp (electm_Elect_See.B0_eq e term w   R (fun e_ term_ t14_ w => electm_Elect_See.B1 e_ term_ t14_ w  R)) h)
theorem electm_Elect_See.sound (e : Option Addr) (term : Int) (w : World) (R : Bool → World → Prop) (h : electm_Elect_See.B0 e term w R) : electm_Elect_See.Call e term w R := by
  have hc := calls_of_block (args := #[.pointer e, .int .i64 term]) Try.func14 (body := (Try.f14.body.getD .skip)) (by kernel_rfl) (by kernel_rfl) (args_slot _) (electm_Elect_See.B0_sound e term w h)
  exact hc.mono fun e w' he => by
    obtain ⟨v, rfl, hv⟩ := he
    exact electm_Elect_See.RV_elim hv
def electm_Elect_Term.B0 (e : Option Addr) (w : World)   (R : Int → World → Prop) : Prop :=
  Pn e fun a =>
  LdI .i64 (a.add 1) w fun x6 =>
  R x6 w
theorem electm_Elect_Term.B0_eq (e : Option Addr) (w : World)   (R : Int → World → Prop)  :
    (
  Pn e fun a =>
  LdI .i64 (a.add 1) w fun x6 =>
  R x6 w) = kstep Try.prog 7 Try.f15.results.toList (Try.f15.body.getD .skip) (electm_Elect_Term.RV R) (kvc Try.prog 7 Try.f15.results.toList (Try.f15.body.getD .skip) (electm_Elect_Term.RV R) [] 2000) [(0, [])] [(0, .pointer e)] w := by kernel_rfl
theorem electm_Elect_Term.B0_sound {R : Int → World → Prop}  (e : Option Addr) (w : World) (h : electm_Elect_Term.B0 e w   R) :
    KW Try.prog 15 7 (electm_Elect_Term.RV R) ([(0, [])].map (toItem (Try.f15.body.getD .skip))) [(0, .pointer e)] w := by
  exact block_spec Try.func15 Try.mixed stops_nil (Eq.mp (electm_Elect_Term.B0_eq e w   R ) h)
theorem electm_Elect_Term.sound (e : Option Addr) (w : World) (R : Int → World → Prop) (h : electm_Elect_Term.B0 e w R) : electm_Elect_Term.Call e w R := by
  have hc := calls_of_block (args := #[.pointer e]) Try.func15 (body := (Try.f15.body.getD .skip)) (by kernel_rfl) (by kernel_rfl) (args_slot _) (electm_Elect_Term.B0_sound e w h)
  exact hc.mono fun e w' he => by
    obtain ⟨v, rfl, hv⟩ := he
    exact electm_Elect_Term.RV_elim hv
def electm_Elect_AskedVote.B2 (e : Option Addr) (from0 : Int) (t44 : Bool) (w : World)   (R : Bool → World → Prop) : Prop :=
  Bm t44 (
    R false w) (
    Pn e fun a =>
    Sts [.int .i64 from0] (a.add 2) 0 w fun w1 =>
    Pn e fun a_1 =>
    Sts [.int .i64 (0 : Int)] (a_1.add 5) 0 w1 fun w2 =>
    R true w2)
theorem electm_Elect_AskedVote.B2_eq (e : Option Addr) (from0 : Int) (t44 : Bool) (w : World)   (R : Bool → World → Prop)  :
    (
  Bm t44 (
    R false w) (
    Pn e fun a =>
    Sts [.int .i64 from0] (a.add 2) 0 w fun w1 =>
    Pn e fun a_1 =>
    Sts [.int .i64 (0 : Int)] (a_1.add 5) 0 w1 fun w2 =>
    R true w2)) = kstep Try.prog 52 Try.f16.results.toList (Try.f16.body.getD .skip) (electm_Elect_AskedVote.RV R) (kvc Try.prog 52 Try.f16.results.toList (Try.f16.body.getD .skip) (electm_Elect_AskedVote.RV R) [] 2000) [(0, [1, 1, 1, 0, 1]), (0, [1, 1, 1, 1])] [(0, .pointer e), (1, .int .i64 from0), (44, .bool t44)] w := by kernel_rfl
theorem electm_Elect_AskedVote.B2_sound {R : Bool → World → Prop}  (e : Option Addr) (from0 : Int) (t44 : Bool) (w : World) (h : electm_Elect_AskedVote.B2 e from0 t44 w   R) :
    KW Try.prog 16 52 (electm_Elect_AskedVote.RV R) ([(0, [1, 1, 1, 0, 1]), (0, [1, 1, 1, 1])].map (toItem (Try.f16.body.getD .skip))) [(0, .pointer e), (1, .int .i64 from0), (44, .bool t44)] w := by
  exact block_spec Try.func16 Try.mixed stops_nil (Eq.mp (electm_Elect_AskedVote.B2_eq e from0 t44 w   R ) h)
def electm_Elect_AskedVote.B1 (e : Option Addr) (from0 term : Int) (upToDate t16 : Bool) (w : World)   (R : Bool → World → Prop) : Prop :=
  Bm t16 (
    R false w) (
    electm_Elect_See.Call e term w fun r19 w1 =>
    Pn e fun a =>
    LdI .i64 (a.add 1) w1 fun x24 =>
    Bm (decide (term < x24)) (
      electm_Elect_AskedVote.B2 e from0 true w1  R) (
      Bm (!upToDate) (
        electm_Elect_AskedVote.B2 e from0 true w1  R) (
        Pn e fun a_1 =>
        LdI .i64 (a_1.add 2) w1 fun x34 =>
        Bm (x34 != (-1 : Int)) (
          Pn e fun a_2 =>
          LdI .i64 (a_2.add 2) w1 fun x40 =>
          electm_Elect_AskedVote.B2 e from0 (x40 != from0) w1  R) (
          electm_Elect_AskedVote.B2 e from0 false w1  R))))
theorem electm_Elect_AskedVote.B1_eq (e : Option Addr) (from0 term : Int) (upToDate t16 : Bool) (w : World)   (R : Bool → World → Prop) (sB2 : Option Addr → Int → Bool → World → Prop) :
    (
  Bm t16 (
    R false w) (
    electm_Elect_See.Call e term w fun r19 w1 =>
    Pn e fun a =>
    LdI .i64 (a.add 1) w1 fun x24 =>
    Bm (decide (term < x24)) (
      sB2 e from0 true w1) (
      Bm (!upToDate) (
        sB2 e from0 true w1) (
        Pn e fun a_1 =>
        LdI .i64 (a_1.add 2) w1 fun x34 =>
        Bm (x34 != (-1 : Int)) (
          Pn e fun a_2 =>
          LdI .i64 (a_2.add 2) w1 fun x40 =>
          sB2 e from0 (x40 != from0) w1) (
          sB2 e from0 false w1))))) = kstep Try.prog 52 Try.f16.results.toList (Try.f16.body.getD .skip) (electm_Elect_AskedVote.RV R) (kvc Try.prog 52 Try.f16.results.toList (Try.f16.body.getD .skip) (electm_Elect_AskedVote.RV R) [([(0, [1, 1, 1, 0, 1]), (0, [1, 1, 1, 1])], fun σ w => dP (slotOf σ 0) fun e_ => dI .i64 (slotOf σ 1) fun from0_ => dB (slotOf σ 44) fun t44_ => sB2 e_ from0_ t44_ w)] 2000) [(0, [1, 0, 1]), (0, [1, 1])] [(0, .pointer e), (1, .int .i64 from0), (2, .int .i64 term), (3, .bool upToDate), (16, .bool t16)] w := by kernel_rfl
theorem electm_Elect_AskedVote.B1_sound {R : Bool → World → Prop}  (e : Option Addr) (from0 term : Int) (upToDate t16 : Bool) (w : World) (h : electm_Elect_AskedVote.B1 e from0 term upToDate t16 w   R) :
    KW Try.prog 16 52 (electm_Elect_AskedVote.RV R) ([(0, [1, 0, 1]), (0, [1, 1])].map (toItem (Try.f16.body.getD .skip))) [(0, .pointer e), (1, .int .i64 from0), (2, .int .i64 term), (3, .bool upToDate), (16, .bool t16)] w := by
  exact block_spec Try.func16 Try.mixed (stops_cons (fun σ w h => by
      obtain ⟨e_, e0, h⟩ := dP_elim h
      obtain ⟨from0_, e1, h⟩ := dI_elim h
      obtain ⟨t44_, e2, h⟩ := dB_elim h
      exact (electm_Elect_AskedVote.B2_sound  e_ from0_ t44_ w h).weaken (Sub.cons (Sub.cons (Sub.cons (Sub.nil _) e2) e1) e0)) stops_nil) (Eq.mp (electm_Elect_AskedVote.B1_eq e from0 term upToDate t16 w   R (fun e_ from0_ t44_ w => electm_Elect_AskedVote.B2 e_ from0_ t44_ w  R)) h)
def electm_Elect_AskedVote.B0 (e : Option Addr) (from0 term : Int) (upToDate : Bool) (w : World)   (R : Bool → World → Prop) : Prop :=
  electm_Elect_peer.Call e from0 w fun r11 w1 =>
  Bm (!r11) (
    electm_Elect_AskedVote.B1 e from0 term upToDate true w1  R) (
    electm_Elect_AskedVote.B1 e from0 term upToDate (decide (term > (72057594037927936 : Int))) w1  R)
theorem electm_Elect_AskedVote.B0_eq (e : Option Addr) (from0 term : Int) (upToDate : Bool) (w : World)   (R : Bool → World → Prop) (sB1 : Option Addr → Int → Int → Bool → Bool → World → Prop) :
    (
  electm_Elect_peer.Call e from0 w fun r11 w1 =>
  Bm (!r11) (
    sB1 e from0 term upToDate true w1) (
    sB1 e from0 term upToDate (decide (term > (72057594037927936 : Int))) w1)) = kstep Try.prog 52 Try.f16.results.toList (Try.f16.body.getD .skip) (electm_Elect_AskedVote.RV R) (kvc Try.prog 52 Try.f16.results.toList (Try.f16.body.getD .skip) (electm_Elect_AskedVote.RV R) [([(0, [1, 0, 1]), (0, [1, 1])], fun σ w => dP (slotOf σ 0) fun e_ => dI .i64 (slotOf σ 1) fun from0_ => dI .i64 (slotOf σ 2) fun term_ => dB (slotOf σ 3) fun upToDate_ => dB (slotOf σ 16) fun t16_ => sB1 e_ from0_ term_ upToDate_ t16_ w)] 2000) [(0, [])] [(0, .pointer e), (1, .int .i64 from0), (2, .int .i64 term), (3, .bool upToDate)] w := by kernel_rfl
theorem electm_Elect_AskedVote.B0_sound {R : Bool → World → Prop}  (e : Option Addr) (from0 term : Int) (upToDate : Bool) (w : World) (h : electm_Elect_AskedVote.B0 e from0 term upToDate w   R) :
    KW Try.prog 16 52 (electm_Elect_AskedVote.RV R) ([(0, [])].map (toItem (Try.f16.body.getD .skip))) [(0, .pointer e), (1, .int .i64 from0), (2, .int .i64 term), (3, .bool upToDate)] w := by
  exact block_spec Try.func16 Try.mixed (stops_cons (fun σ w h => by
      obtain ⟨e_, e0, h⟩ := dP_elim h
      obtain ⟨from0_, e1, h⟩ := dI_elim h
      obtain ⟨term_, e2, h⟩ := dI_elim h
      obtain ⟨upToDate_, e3, h⟩ := dB_elim h
      obtain ⟨t16_, e4, h⟩ := dB_elim h
      exact (electm_Elect_AskedVote.B1_sound  e_ from0_ term_ upToDate_ t16_ w h).weaken (Sub.cons (Sub.cons (Sub.cons (Sub.cons (Sub.cons (Sub.nil _) e4) e3) e2) e1) e0)) stops_nil) (Eq.mp (electm_Elect_AskedVote.B0_eq e from0 term upToDate w   R (fun e_ from0_ term_ upToDate_ t16_ w => electm_Elect_AskedVote.B1 e_ from0_ term_ upToDate_ t16_ w  R)) h)
theorem electm_Elect_AskedVote.sound (e : Option Addr) (from0 term : Int) (upToDate : Bool) (w : World) (R : Bool → World → Prop) (h : electm_Elect_AskedVote.B0 e from0 term upToDate w R) : electm_Elect_AskedVote.Call e from0 term upToDate w R := by
  have hc := calls_of_block (args := #[.pointer e, .int .i64 from0, .int .i64 term, .bool upToDate]) Try.func16 (body := (Try.f16.body.getD .skip)) (by kernel_rfl) (by kernel_rfl) (args_slot _) (electm_Elect_AskedVote.B0_sound e from0 term upToDate w h)
  exact hc.mono fun e w' he => by
    obtain ⟨v, rfl, hv⟩ := he
    exact electm_Elect_AskedVote.RV_elim hv
def electlaw_Meant.B0 (m0 : Option Addr) (from0 term : Int) (w : World)   (R : Bool → World → Prop) : Prop :=
  electm_Elect_Vote.Call m0 w fun r10 w1 =>
  electm_Elect_Term.Call m0 w1 fun r12 w2 =>
  Bm (r10 == from0) (
    R (r12 == term) w2) (
    R false w2)
theorem electlaw_Meant.B0_eq (m0 : Option Addr) (from0 term : Int) (w : World)   (R : Bool → World → Prop)  :
    (
  electm_Elect_Vote.Call m0 w fun r10 w1 =>
  electm_Elect_Term.Call m0 w1 fun r12 w2 =>
  Bm (r10 == from0) (
    R (r12 == term) w2) (
    R false w2)) = kstep Try.prog 21 Try.f17.results.toList (Try.f17.body.getD .skip) (electlaw_Meant.RV R) (kvc Try.prog 21 Try.f17.results.toList (Try.f17.body.getD .skip) (electlaw_Meant.RV R) [] 2000) [(0, [])] [(0, .pointer m0), (1, .int .i64 from0), (2, .int .i64 term)] w := by kernel_rfl
theorem electlaw_Meant.B0_sound {R : Bool → World → Prop}  (m0 : Option Addr) (from0 term : Int) (w : World) (h : electlaw_Meant.B0 m0 from0 term w   R) :
    KW Try.prog 17 21 (electlaw_Meant.RV R) ([(0, [])].map (toItem (Try.f17.body.getD .skip))) [(0, .pointer m0), (1, .int .i64 from0), (2, .int .i64 term)] w := by
  exact block_spec Try.func17 Try.mixed stops_nil (Eq.mp (electlaw_Meant.B0_eq m0 from0 term w   R ) h)
theorem electlaw_Meant.sound (m0 : Option Addr) (from0 term : Int) (w : World) (R : Bool → World → Prop) (h : electlaw_Meant.B0 m0 from0 term w R) : electlaw_Meant.Call m0 from0 term w R := by
  have hc := calls_of_block (args := #[.pointer m0, .int .i64 from0, .int .i64 term]) Try.func17 (body := (Try.f17.body.getD .skip)) (by kernel_rfl) (by kernel_rfl) (args_slot _) (electlaw_Meant.B0_sound m0 from0 term w h)
  exact hc.mono fun e w' he => by
    obtain ⟨v, rfl, hv⟩ := he
    exact electlaw_Meant.RV_elim hv
def electm_Elect_GotVote.B3 (e : Option Addr) (n p : Int) (w : World) (N1 : Option Addr → Int → Int → World → Prop)  (R : Bool → World → Prop) : Prop :=
  N1 e n (IntKind.i64.wrap (p + (1 : Int))) w
theorem electm_Elect_GotVote.B3_eq (e : Option Addr) (n p : Int) (w : World) (N1 : Option Addr → Int → Int → World → Prop)  (R : Bool → World → Prop)  :
    (
  N1 e n (IntKind.i64.wrap (p + (1 : Int))) w) = kstep Try.prog 73 Try.f18.results.toList (Try.f18.body.getD .skip) (electm_Elect_GotVote.RV R) (kvc Try.prog 73 Try.f18.results.toList (Try.f18.body.getD .skip) (electm_Elect_GotVote.RV R) [([(0, [1, 1, 1, 1, 1, 0, 1, 0, 0]), (2, [1, 1, 1, 1, 1, 0, 1, 0, 0]), (1, [0]), (0, [1, 1, 1, 1, 1, 1])], fun σ w => dP (slotOf σ 0) fun e_ => dI .i64 (slotOf σ 9) fun n_ => dI .i64 (slotOf σ 10) fun p_ => N1 e_ n_ p_ w)] 2000) [(0, [1, 1, 1, 1, 1, 0, 1, 0, 0, 1, 1]), (2, [1, 1, 1, 1, 1, 0, 1, 0, 0]), (1, [0]), (0, [1, 1, 1, 1, 1, 1])] [(0, .pointer e), (9, .int .i64 n), (10, .int .i64 p)] w := by kernel_rfl
theorem electm_Elect_GotVote.B3_sound {R : Bool → World → Prop} {N1 : Option Addr → Int → Int → World → Prop} (hN1 : ∀ e n p w, N1 e n p w → KW Try.prog 18 73 (electm_Elect_GotVote.RV R) ([(0, [1, 1, 1, 1, 1, 0, 1, 0, 0]), (2, [1, 1, 1, 1, 1, 0, 1, 0, 0]), (1, [0]), (0, [1, 1, 1, 1, 1, 1])].map (toItem (Try.f18.body.getD .skip))) [(0, .pointer e), (9, .int .i64 n), (10, .int .i64 p)] w) (e : Option Addr) (n p : Int) (w : World) (h : electm_Elect_GotVote.B3 e n p w N1  R) :
    KW Try.prog 18 73 (electm_Elect_GotVote.RV R) ([(0, [1, 1, 1, 1, 1, 0, 1, 0, 0, 1, 1]), (2, [1, 1, 1, 1, 1, 0, 1, 0, 0]), (1, [0]), (0, [1, 1, 1, 1, 1, 1])].map (toItem (Try.f18.body.getD .skip))) [(0, .pointer e), (9, .int .i64 n), (10, .int .i64 p)] w := by
  exact block_spec Try.func18 Try.mixed (stops_cons (fun σ w h => by
      obtain ⟨e_, e0, h⟩ := dP_elim h
      obtain ⟨n_, e1, h⟩ := dI_elim h
      obtain ⟨p_, e2, h⟩ := dI_elim h
      exact (hN1 e_ n_ p_ w h).weaken (Sub.cons (Sub.cons (Sub.cons (Sub.nil _) e2) e1) e0)) stops_nil) (Eq.mp (electm_Elect_GotVote.B3_eq e n p w N1  R ) h)
def electm_Elect_GotVote.L1b (e : Option Addr) (n p : Int) (w : World)  (N1 : Option Addr → Int → Int → World → Prop) (R : Bool → World → Prop) : Prop :=
  Bm (decide (p < (3 : Int))) (
    Pn e fun a =>
    (0 ≤ p ∧ p < ((3 : Nat) : Int)) ∧
    LdB (Addr.add (a.add 6) (p.toNat * 1)) w fun x55 =>
    Bm x55 (
      electm_Elect_GotVote.B3 e (IntKind.i64.wrap (n + (1 : Int))) p w N1 R) (
      electm_Elect_GotVote.B3 e n p w N1 R)) (
    Bm (decide (n < (2 : Int))) (
      R false w) (
      Pn e fun a_1 =>
      LdI .i64 a_1 w fun x66 =>
      Pn e fun a_2 =>
      Sts [.int .i64 (2 : Int)] (a_2.add 3) 0 w fun w1 =>
      Pn e fun a_3 =>
      Sts [.int .i64 x66] (a_3.add 4) 0 w1 fun w2 =>
      Pn e fun a_4 =>
      Sts [.int .i64 (0 : Int)] (a_4.add 5) 0 w2 fun w3 =>
      R true w3))
theorem electm_Elect_GotVote.L1b_eq (e : Option Addr) (n p : Int) (w : World)  (N1 : Option Addr → Int → Int → World → Prop) (R : Bool → World → Prop) (sB3 : Option Addr → Int → Int → World → Prop) :
    (
  Bm (decide (p < (3 : Int))) (
    Pn e fun a =>
    (0 ≤ p ∧ p < ((3 : Nat) : Int)) ∧
    LdB (Addr.add (a.add 6) (p.toNat * 1)) w fun x55 =>
    Bm x55 (
      sB3 e (IntKind.i64.wrap (n + (1 : Int))) p w) (
      sB3 e n p w)) (
    Bm (decide (n < (2 : Int))) (
      R false w) (
      Pn e fun a_1 =>
      LdI .i64 a_1 w fun x66 =>
      Pn e fun a_2 =>
      Sts [.int .i64 (2 : Int)] (a_2.add 3) 0 w fun w1 =>
      Pn e fun a_3 =>
      Sts [.int .i64 x66] (a_3.add 4) 0 w1 fun w2 =>
      Pn e fun a_4 =>
      Sts [.int .i64 (0 : Int)] (a_4.add 5) 0 w2 fun w3 =>
      R true w3))) = kstep Try.prog 73 Try.f18.results.toList (Try.f18.body.getD .skip) (electm_Elect_GotVote.RV R) (kvc Try.prog 73 Try.f18.results.toList (Try.f18.body.getD .skip) (electm_Elect_GotVote.RV R) [([(0, [1, 1, 1, 1, 1, 0, 1, 0, 0, 1, 1]), (2, [1, 1, 1, 1, 1, 0, 1, 0, 0]), (1, [0]), (0, [1, 1, 1, 1, 1, 1])], fun σ w => dP (slotOf σ 0) fun e_ => dI .i64 (slotOf σ 9) fun n_ => dI .i64 (slotOf σ 10) fun p_ => sB3 e_ n_ p_ w)] 2000) [(0, [1, 1, 1, 1, 1, 0, 1, 0, 0]), (2, [1, 1, 1, 1, 1, 0, 1, 0, 0]), (1, [0]), (0, [1, 1, 1, 1, 1, 1])] [(0, .pointer e), (9, .int .i64 n), (10, .int .i64 p)] w := by kernel_rfl
theorem electm_Elect_GotVote.L1b_sound {R : Bool → World → Prop} {N1 : Option Addr → Int → Int → World → Prop} (hN1 : ∀ e n p w, N1 e n p w → KW Try.prog 18 73 (electm_Elect_GotVote.RV R) ([(0, [1, 1, 1, 1, 1, 0, 1, 0, 0]), (2, [1, 1, 1, 1, 1, 0, 1, 0, 0]), (1, [0]), (0, [1, 1, 1, 1, 1, 1])].map (toItem (Try.f18.body.getD .skip))) [(0, .pointer e), (9, .int .i64 n), (10, .int .i64 p)] w) (e : Option Addr) (n p : Int) (w : World) (h : electm_Elect_GotVote.L1b e n p w  N1 R) :
    KW Try.prog 18 73 (electm_Elect_GotVote.RV R) ([(0, [1, 1, 1, 1, 1, 0, 1, 0, 0]), (2, [1, 1, 1, 1, 1, 0, 1, 0, 0]), (1, [0]), (0, [1, 1, 1, 1, 1, 1])].map (toItem (Try.f18.body.getD .skip))) [(0, .pointer e), (9, .int .i64 n), (10, .int .i64 p)] w := by
  exact block_spec Try.func18 Try.mixed (stops_cons (fun σ w h => by
      obtain ⟨e_, e0, h⟩ := dP_elim h
      obtain ⟨n_, e1, h⟩ := dI_elim h
      obtain ⟨p_, e2, h⟩ := dI_elim h
      exact (electm_Elect_GotVote.B3_sound hN1 e_ n_ p_ w h).weaken (Sub.cons (Sub.cons (Sub.cons (Sub.nil _) e2) e1) e0)) stops_nil) (Eq.mp (electm_Elect_GotVote.L1b_eq e n p w  N1 R (fun e_ n_ p_ w => electm_Elect_GotVote.B3 e_ n_ p_ w N1 R)) h)
def electm_Elect_GotVote.L1 (e : Option Addr) (n p : Int) (w : World)  (R : Bool → World → Prop) : Prop :=
  ∃ (I : Nat → Option Addr → Int → Int → World → Prop) (m : Nat), I m e n p w ∧ ∀ m e n p w, I m e n p w → electm_Elect_GotVote.L1b e n p w  (fun e' n' p' w' => ∃ m', m' < m ∧ I m' e' n' p' w') R
theorem electm_Elect_GotVote.L1_sound {R : Bool → World → Prop}  (e : Option Addr) (n p : Int) (w : World) (h : electm_Elect_GotVote.L1 e n p w  R) :
    KW Try.prog 18 73 (electm_Elect_GotVote.RV R) ([(0, [1, 1, 1, 1, 1, 0, 1, 0, 0]), (2, [1, 1, 1, 1, 1, 0, 1, 0, 0]), (1, [0]), (0, [1, 1, 1, 1, 1, 1])].map (toItem (Try.f18.body.getD .skip))) [(0, .pointer e), (9, .int .i64 n), (10, .int .i64 p)] w := by
  obtain ⟨I, m, h0, hr⟩ := h
  refine KW.loop (fun m σ w => ∃ (e : Option Addr) (n p : Int), σ = [(0, .pointer e), (9, .int .i64 n), (10, .int .i64 p)] ∧ I m e n p w) ?_ m _ w ⟨e, n, p, rfl, h0⟩
  rintro m ih σ w ⟨e, n, p, rfl, hI⟩
  exact electm_Elect_GotVote.L1b_sound  (N1 := fun e' n' p' w' => ∃ m', m' < m ∧ I m' e' n' p' w') (fun e' n' p' w' hx => by obtain ⟨m', hlt, hI'⟩ := hx; exact ih m' hlt _ w' ⟨e', n', p', rfl, hI'⟩) e n p w (hr m e n p w hI)
def electm_Elect_GotVote.B2 (e : Option Addr) (from0 : Int) (t40 : Bool) (w : World)   (R : Bool → World → Prop) : Prop :=
  Bm t40 (
    R false w) (
    Pn e fun a =>
    (0 ≤ from0 ∧ from0 < ((3 : Nat) : Int)) ∧
    Sts [.bool true] (Addr.add (a.add 6) (from0.toNat * 1)) 0 w fun w1 =>
    electm_Elect_GotVote.L1 e (0 : Int) (0 : Int) w1  R)
theorem electm_Elect_GotVote.B2_eq (e : Option Addr) (from0 : Int) (t40 : Bool) (w : World)   (R : Bool → World → Prop) (sL1 : Option Addr → Int → Int → World → Prop) :
    (
  Bm t40 (
    R false w) (
    Pn e fun a =>
    (0 ≤ from0 ∧ from0 < ((3 : Nat) : Int)) ∧
    Sts [.bool true] (Addr.add (a.add 6) (from0.toNat * 1)) 0 w fun w1 =>
    sL1 e (0 : Int) (0 : Int) w1)) = kstep Try.prog 73 Try.f18.results.toList (Try.f18.body.getD .skip) (electm_Elect_GotVote.RV R) (kvc Try.prog 73 Try.f18.results.toList (Try.f18.body.getD .skip) (electm_Elect_GotVote.RV R) [([(0, [1, 1, 1, 1, 1, 0, 1, 0, 0]), (2, [1, 1, 1, 1, 1, 0, 1, 0, 0]), (1, [0]), (0, [1, 1, 1, 1, 1, 1])], fun σ w => dP (slotOf σ 0) fun e_ => dI .i64 (slotOf σ 9) fun n_ => dI .i64 (slotOf σ 10) fun p_ => sL1 e_ n_ p_ w)] 2000) [(0, [1, 1, 0, 1]), (0, [1, 1, 1])] [(0, .pointer e), (1, .int .i64 from0), (40, .bool t40)] w := by kernel_rfl
theorem electm_Elect_GotVote.B2_sound {R : Bool → World → Prop}  (e : Option Addr) (from0 : Int) (t40 : Bool) (w : World) (h : electm_Elect_GotVote.B2 e from0 t40 w   R) :
    KW Try.prog 18 73 (electm_Elect_GotVote.RV R) ([(0, [1, 1, 0, 1]), (0, [1, 1, 1])].map (toItem (Try.f18.body.getD .skip))) [(0, .pointer e), (1, .int .i64 from0), (40, .bool t40)] w := by
  exact block_spec Try.func18 Try.mixed (stops_cons (fun σ w h => by
      obtain ⟨e_, e0, h⟩ := dP_elim h
      obtain ⟨n_, e1, h⟩ := dI_elim h
      obtain ⟨p_, e2, h⟩ := dI_elim h
      exact (electm_Elect_GotVote.L1_sound  e_ n_ p_ w h).weaken (Sub.cons (Sub.cons (Sub.cons (Sub.nil _) e2) e1) e0)) stops_nil) (Eq.mp (electm_Elect_GotVote.B2_eq e from0 t40 w   R (fun e_ n_ p_ w => electm_Elect_GotVote.L1 e_ n_ p_ w  R)) h)
def electm_Elect_GotVote.B1 (e : Option Addr) (from0 term : Int) (granted t18 : Bool) (w : World)   (R : Bool → World → Prop) : Prop :=
  Bm t18 (
    R false w) (
    electm_Elect_See.Call e term w fun r21 w1 =>
    Bm r21 (
      electm_Elect_GotVote.B2 e from0 true w1  R) (
      Pn e fun a =>
      LdI .i64 (a.add 1) w1 fun x27 =>
      Bm (decide (term < x27)) (
        electm_Elect_GotVote.B2 e from0 true w1  R) (
        Pn e fun a_1 =>
        LdI .i64 (a_1.add 3) w1 fun x34 =>
        Bm (x34 != (1 : Int)) (
          electm_Elect_GotVote.B2 e from0 true w1  R) (
          electm_Elect_GotVote.B2 e from0 (!granted) w1  R))))
theorem electm_Elect_GotVote.B1_eq (e : Option Addr) (from0 term : Int) (granted t18 : Bool) (w : World)   (R : Bool → World → Prop) (sB2 : Option Addr → Int → Bool → World → Prop) :
    (
  Bm t18 (
    R false w) (
    electm_Elect_See.Call e term w fun r21 w1 =>
    Bm r21 (
      sB2 e from0 true w1) (
      Pn e fun a =>
      LdI .i64 (a.add 1) w1 fun x27 =>
      Bm (decide (term < x27)) (
        sB2 e from0 true w1) (
        Pn e fun a_1 =>
        LdI .i64 (a_1.add 3) w1 fun x34 =>
        Bm (x34 != (1 : Int)) (
          sB2 e from0 true w1) (
          sB2 e from0 (!granted) w1))))) = kstep Try.prog 73 Try.f18.results.toList (Try.f18.body.getD .skip) (electm_Elect_GotVote.RV R) (kvc Try.prog 73 Try.f18.results.toList (Try.f18.body.getD .skip) (electm_Elect_GotVote.RV R) [([(0, [1, 1, 0, 1]), (0, [1, 1, 1])], fun σ w => dP (slotOf σ 0) fun e_ => dI .i64 (slotOf σ 1) fun from0_ => dB (slotOf σ 40) fun t40_ => sB2 e_ from0_ t40_ w)] 2000) [(0, [1, 0, 1]), (0, [1, 1])] [(0, .pointer e), (1, .int .i64 from0), (2, .int .i64 term), (3, .bool granted), (18, .bool t18)] w := by kernel_rfl
theorem electm_Elect_GotVote.B1_sound {R : Bool → World → Prop}  (e : Option Addr) (from0 term : Int) (granted t18 : Bool) (w : World) (h : electm_Elect_GotVote.B1 e from0 term granted t18 w   R) :
    KW Try.prog 18 73 (electm_Elect_GotVote.RV R) ([(0, [1, 0, 1]), (0, [1, 1])].map (toItem (Try.f18.body.getD .skip))) [(0, .pointer e), (1, .int .i64 from0), (2, .int .i64 term), (3, .bool granted), (18, .bool t18)] w := by
  exact block_spec Try.func18 Try.mixed (stops_cons (fun σ w h => by
      obtain ⟨e_, e0, h⟩ := dP_elim h
      obtain ⟨from0_, e1, h⟩ := dI_elim h
      obtain ⟨t40_, e2, h⟩ := dB_elim h
      exact (electm_Elect_GotVote.B2_sound  e_ from0_ t40_ w h).weaken (Sub.cons (Sub.cons (Sub.cons (Sub.nil _) e2) e1) e0)) stops_nil) (Eq.mp (electm_Elect_GotVote.B1_eq e from0 term granted t18 w   R (fun e_ from0_ t40_ w => electm_Elect_GotVote.B2 e_ from0_ t40_ w  R)) h)
def electm_Elect_GotVote.B0 (e : Option Addr) (from0 term : Int) (granted : Bool) (w : World)   (R : Bool → World → Prop) : Prop :=
  electm_Elect_peer.Call e from0 w fun r13 w1 =>
  Bm (!r13) (
    electm_Elect_GotVote.B1 e from0 term granted true w1  R) (
    electm_Elect_GotVote.B1 e from0 term granted (decide (term > (72057594037927936 : Int))) w1  R)
theorem electm_Elect_GotVote.B0_eq (e : Option Addr) (from0 term : Int) (granted : Bool) (w : World)   (R : Bool → World → Prop) (sB1 : Option Addr → Int → Int → Bool → Bool → World → Prop) :
    (
  electm_Elect_peer.Call e from0 w fun r13 w1 =>
  Bm (!r13) (
    sB1 e from0 term granted true w1) (
    sB1 e from0 term granted (decide (term > (72057594037927936 : Int))) w1)) = kstep Try.prog 73 Try.f18.results.toList (Try.f18.body.getD .skip) (electm_Elect_GotVote.RV R) (kvc Try.prog 73 Try.f18.results.toList (Try.f18.body.getD .skip) (electm_Elect_GotVote.RV R) [([(0, [1, 0, 1]), (0, [1, 1])], fun σ w => dP (slotOf σ 0) fun e_ => dI .i64 (slotOf σ 1) fun from0_ => dI .i64 (slotOf σ 2) fun term_ => dB (slotOf σ 3) fun granted_ => dB (slotOf σ 18) fun t18_ => sB1 e_ from0_ term_ granted_ t18_ w)] 2000) [(0, [])] [(0, .pointer e), (1, .int .i64 from0), (2, .int .i64 term), (3, .bool granted)] w := by kernel_rfl
theorem electm_Elect_GotVote.B0_sound {R : Bool → World → Prop}  (e : Option Addr) (from0 term : Int) (granted : Bool) (w : World) (h : electm_Elect_GotVote.B0 e from0 term granted w   R) :
    KW Try.prog 18 73 (electm_Elect_GotVote.RV R) ([(0, [])].map (toItem (Try.f18.body.getD .skip))) [(0, .pointer e), (1, .int .i64 from0), (2, .int .i64 term), (3, .bool granted)] w := by
  exact block_spec Try.func18 Try.mixed (stops_cons (fun σ w h => by
      obtain ⟨e_, e0, h⟩ := dP_elim h
      obtain ⟨from0_, e1, h⟩ := dI_elim h
      obtain ⟨term_, e2, h⟩ := dI_elim h
      obtain ⟨granted_, e3, h⟩ := dB_elim h
      obtain ⟨t18_, e4, h⟩ := dB_elim h
      exact (electm_Elect_GotVote.B1_sound  e_ from0_ term_ granted_ t18_ w h).weaken (Sub.cons (Sub.cons (Sub.cons (Sub.cons (Sub.cons (Sub.nil _) e4) e3) e2) e1) e0)) stops_nil) (Eq.mp (electm_Elect_GotVote.B0_eq e from0 term granted w   R (fun e_ from0_ term_ granted_ t18_ w => electm_Elect_GotVote.B1 e_ from0_ term_ granted_ t18_ w  R)) h)
theorem electm_Elect_GotVote.sound (e : Option Addr) (from0 term : Int) (granted : Bool) (w : World) (R : Bool → World → Prop) (h : electm_Elect_GotVote.B0 e from0 term granted w R) : electm_Elect_GotVote.Call e from0 term granted w R := by
  have hc := calls_of_block (args := #[.pointer e, .int .i64 from0, .int .i64 term, .bool granted]) Try.func18 (body := (Try.f18.body.getD .skip)) (by kernel_rfl) (by kernel_rfl) (args_slot _) (electm_Elect_GotVote.B0_sound e from0 term granted w h)
  exact hc.mono fun e w' he => by
    obtain ⟨v, rfl, hv⟩ := he
    exact electm_Elect_GotVote.RV_elim hv
end Go.Proofs.Qxb6500428a
