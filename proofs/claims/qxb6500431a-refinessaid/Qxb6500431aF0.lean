import Derived.Test.Qxb6500431aSig
set_option maxRecDepth 100000
set_option linter.unusedVariables false
open Go.Vc
namespace Go.Proofs.Qxb6500431a
def rloglaw_Refines.B0 (script_b : Option Addr) (script_l script_c : Nat) (w : World)   (R : Bool → World → Prop) : Prop :=
  rloglaw_RefinesUpTo.Call script_b script_l script_c w fun r4 w1 =>
  R (r4 == (-1 : Int)) w1
theorem rloglaw_Refines.B0_eq (script_b : Option Addr) (script_l script_c : Nat) (w : World)   (R : Bool → World → Prop)  :
    (
  rloglaw_RefinesUpTo.Call script_b script_l script_c w fun r4 w1 =>
  R (r4 == (-1 : Int)) w1) = kstep Try.prog 6 Try.f3.results.toList (Try.f3.body.getD .skip) (rloglaw_Refines.RV R) (kvc Try.prog 6 Try.f3.results.toList (Try.f3.body.getD .skip) (rloglaw_Refines.RV R) [] 2000) [(0, [])] [(0, .slice script_b script_l script_c)] w := by kernel_rfl
theorem rloglaw_Refines.B0_sound {R : Bool → World → Prop}  (script_b : Option Addr) (script_l script_c : Nat) (w : World) (h : rloglaw_Refines.B0 script_b script_l script_c w   R) :
    KW Try.prog 3 6 (rloglaw_Refines.RV R) ([(0, [])].map (toItem (Try.f3.body.getD .skip))) [(0, .slice script_b script_l script_c)] w := by
  exact block_spec Try.func3 Try.mixed stops_nil (Eq.mp (rloglaw_Refines.B0_eq script_b script_l script_c w   R ) h)
theorem rloglaw_Refines.sound (script_b : Option Addr) (script_l script_c : Nat) (w : World) (R : Bool → World → Prop) (h : rloglaw_Refines.B0 script_b script_l script_c w R) : rloglaw_Refines.Call script_b script_l script_c w R := by
  have hc := calls_of_block (args := #[.slice script_b script_l script_c]) Try.func3 (body := (Try.f3.body.getD .skip)) (by kernel_rfl) (by kernel_rfl) (args_slot _) (rloglaw_Refines.B0_sound script_b script_l script_c w h)
  exact hc.mono fun e w' he => by
    obtain ⟨v, rfl, hv⟩ := he
    exact rloglaw_Refines.RV_elim hv
def rloglaw_RefinesSteady.B0 (script_b : Option Addr) (script_l script_c : Nat) (w : World)   (R : Bool → World → Prop) : Prop :=
  rloglaw_walk.Call script_b script_l script_c true false w fun r7_0 r7_1 w1 =>
  R (r7_0 == (-1 : Int)) w1
theorem rloglaw_RefinesSteady.B0_eq (script_b : Option Addr) (script_l script_c : Nat) (w : World)   (R : Bool → World → Prop)  :
    (
  rloglaw_walk.Call script_b script_l script_c true false w fun r7_0 r7_1 w1 =>
  R (r7_0 == (-1 : Int)) w1) = kstep Try.prog 12 Try.f4.results.toList (Try.f4.body.getD .skip) (rloglaw_RefinesSteady.RV R) (kvc Try.prog 12 Try.f4.results.toList (Try.f4.body.getD .skip) (rloglaw_RefinesSteady.RV R) [] 2000) [(0, [])] [(0, .slice script_b script_l script_c)] w := by kernel_rfl
theorem rloglaw_RefinesSteady.B0_sound {R : Bool → World → Prop}  (script_b : Option Addr) (script_l script_c : Nat) (w : World) (h : rloglaw_RefinesSteady.B0 script_b script_l script_c w   R) :
    KW Try.prog 4 12 (rloglaw_RefinesSteady.RV R) ([(0, [])].map (toItem (Try.f4.body.getD .skip))) [(0, .slice script_b script_l script_c)] w := by
  exact block_spec Try.func4 Try.mixed stops_nil (Eq.mp (rloglaw_RefinesSteady.B0_eq script_b script_l script_c w   R ) h)
theorem rloglaw_RefinesSteady.sound (script_b : Option Addr) (script_l script_c : Nat) (w : World) (R : Bool → World → Prop) (h : rloglaw_RefinesSteady.B0 script_b script_l script_c w R) : rloglaw_RefinesSteady.Call script_b script_l script_c w R := by
  have hc := calls_of_block (args := #[.slice script_b script_l script_c]) Try.func4 (body := (Try.f4.body.getD .skip)) (by kernel_rfl) (by kernel_rfl) (args_slot _) (rloglaw_RefinesSteady.B0_sound script_b script_l script_c w h)
  exact hc.mono fun e w' he => by
    obtain ⟨v, rfl, hv⟩ := he
    exact rloglaw_RefinesSteady.RV_elim hv
def rloglaw_RefinesQuiet.B0 (script_b : Option Addr) (script_l script_c : Nat) (w : World)   (R : Bool → World → Prop) : Prop :=
  rloglaw_walk.Call script_b script_l script_c false true w fun r7_0 r7_1 w1 =>
  R (r7_0 == (-1 : Int)) w1
theorem rloglaw_RefinesQuiet.B0_eq (script_b : Option Addr) (script_l script_c : Nat) (w : World)   (R : Bool → World → Prop)  :
    (
  rloglaw_walk.Call script_b script_l script_c false true w fun r7_0 r7_1 w1 =>
  R (r7_0 == (-1 : Int)) w1) = kstep Try.prog 12 Try.f5.results.toList (Try.f5.body.getD .skip) (rloglaw_RefinesQuiet.RV R) (kvc Try.prog 12 Try.f5.results.toList (Try.f5.body.getD .skip) (rloglaw_RefinesQuiet.RV R) [] 2000) [(0, [])] [(0, .slice script_b script_l script_c)] w := by kernel_rfl
theorem rloglaw_RefinesQuiet.B0_sound {R : Bool → World → Prop}  (script_b : Option Addr) (script_l script_c : Nat) (w : World) (h : rloglaw_RefinesQuiet.B0 script_b script_l script_c w   R) :
    KW Try.prog 5 12 (rloglaw_RefinesQuiet.RV R) ([(0, [])].map (toItem (Try.f5.body.getD .skip))) [(0, .slice script_b script_l script_c)] w := by
  exact block_spec Try.func5 Try.mixed stops_nil (Eq.mp (rloglaw_RefinesQuiet.B0_eq script_b script_l script_c w   R ) h)
theorem rloglaw_RefinesQuiet.sound (script_b : Option Addr) (script_l script_c : Nat) (w : World) (R : Bool → World → Prop) (h : rloglaw_RefinesQuiet.B0 script_b script_l script_c w R) : rloglaw_RefinesQuiet.Call script_b script_l script_c w R := by
  have hc := calls_of_block (args := #[.slice script_b script_l script_c]) Try.func5 (body := (Try.f5.body.getD .skip)) (by kernel_rfl) (by kernel_rfl) (args_slot _) (rloglaw_RefinesQuiet.B0_sound script_b script_l script_c w h)
  exact hc.mono fun e w' he => by
    obtain ⟨v, rfl, hv⟩ := he
    exact rloglaw_RefinesQuiet.RV_elim hv
def rloglaw_RefinesUpTo.B0 (script_b : Option Addr) (script_l script_c : Nat) (w : World)   (R : Int → World → Prop) : Prop :=
  rloglaw_walk.Call script_b script_l script_c false false w fun r7_0 r7_1 w1 =>
  R r7_0 w1
theorem rloglaw_RefinesUpTo.B0_eq (script_b : Option Addr) (script_l script_c : Nat) (w : World)   (R : Int → World → Prop)  :
    (
  rloglaw_walk.Call script_b script_l script_c false false w fun r7_0 r7_1 w1 =>
  R r7_0 w1) = kstep Try.prog 11 Try.f6.results.toList (Try.f6.body.getD .skip) (rloglaw_RefinesUpTo.RV R) (kvc Try.prog 11 Try.f6.results.toList (Try.f6.body.getD .skip) (rloglaw_RefinesUpTo.RV R) [] 2000) [(0, [])] [(0, .slice script_b script_l script_c)] w := by kernel_rfl
theorem rloglaw_RefinesUpTo.B0_sound {R : Int → World → Prop}  (script_b : Option Addr) (script_l script_c : Nat) (w : World) (h : rloglaw_RefinesUpTo.B0 script_b script_l script_c w   R) :
    KW Try.prog 6 11 (rloglaw_RefinesUpTo.RV R) ([(0, [])].map (toItem (Try.f6.body.getD .skip))) [(0, .slice script_b script_l script_c)] w := by
  exact block_spec Try.func6 Try.mixed stops_nil (Eq.mp (rloglaw_RefinesUpTo.B0_eq script_b script_l script_c w   R ) h)
theorem rloglaw_RefinesUpTo.sound (script_b : Option Addr) (script_l script_c : Nat) (w : World) (R : Int → World → Prop) (h : rloglaw_RefinesUpTo.B0 script_b script_l script_c w R) : rloglaw_RefinesUpTo.Call script_b script_l script_c w R := by
  have hc := calls_of_block (args := #[.slice script_b script_l script_c]) Try.func6 (body := (Try.f6.body.getD .skip)) (by kernel_rfl) (by kernel_rfl) (args_slot _) (rloglaw_RefinesUpTo.B0_sound script_b script_l script_c w h)
  exact hc.mono fun e w' he => by
    obtain ⟨v, rfl, hv⟩ := he
    exact rloglaw_RefinesUpTo.RV_elim hv
def rloglaw_walk.B5 (script_b : Option Addr) (script_l script_c : Nat) (steady quiet : Bool) (b : Nat) (x m0 : Option Addr) (i : Int) (w : World) (N1 : Option Addr → Nat → Nat → Bool → Bool → Nat → Option Addr → Option Addr → Int → World → Prop)  (R : Int → Int → World → Prop) : Prop :=
  N1 script_b script_l script_c steady quiet b x m0 (IntKind.i64.wrap (i + (1 : Int))) w
theorem rloglaw_walk.B5_eq (script_b : Option Addr) (script_l script_c : Nat) (steady quiet : Bool) (b : Nat) (x m0 : Option Addr) (i : Int) (w : World) (N1 : Option Addr → Nat → Nat → Bool → Bool → Nat → Option Addr → Option Addr → Int → World → Prop)  (R : Int → Int → World → Prop)  :
    (
  N1 script_b script_l script_c steady quiet b x m0 (IntKind.i64.wrap (i + (1 : Int))) w) = kstep Try.prog 173 Try.f7.results.toList (Try.f7.body.getD .skip) (rloglaw_walk.RV R) (kvc Try.prog 173 Try.f7.results.toList (Try.f7.body.getD .skip) (rloglaw_walk.RV R) [([(0, [1, 1, 1, 1, 1, 1, 0, 1, 0, 0]), (2, [1, 1, 1, 1, 1, 1, 0, 1, 0, 0]), (1, [0]), (0, [1, 1, 1, 1, 1, 1, 1])], fun σ w => dL (slotOf σ 0) fun script_b_ script_l_ script_c_ => dB (slotOf σ 1) fun steady_ => dB (slotOf σ 2) fun quiet_ => dK (slotOf σ 8) fun b_ => dP (slotOf σ 9) fun x_ => dP (slotOf σ 10) fun m0_ => dI .i64 (slotOf σ 11) fun i_ => N1 script_b_ script_l_ script_c_ steady_ quiet_ b_ x_ m0_ i_ w)] 2000) [(0, [1, 1, 1, 1, 1, 1, 0, 1, 0, 0, 1, 1]), (2, [1, 1, 1, 1, 1, 1, 0, 1, 0, 0]), (1, [0]), (0, [1, 1, 1, 1, 1, 1, 1])] [(0, .slice script_b script_l script_c), (1, .bool steady), (2, .bool quiet), (8, .pointer (some ⟨b, 0, none⟩)), (9, .pointer x), (10, .pointer m0), (11, .int .i64 i)] w := by kernel_rfl
theorem rloglaw_walk.B5_sound {R : Int → Int → World → Prop} {N1 : Option Addr → Nat → Nat → Bool → Bool → Nat → Option Addr → Option Addr → Int → World → Prop} (hN1 : ∀ script_b script_l script_c steady quiet b x m0 i w, N1 script_b script_l script_c steady quiet b x m0 i w → KW Try.prog 7 173 (rloglaw_walk.RV R) ([(0, [1, 1, 1, 1, 1, 1, 0, 1, 0, 0]), (2, [1, 1, 1, 1, 1, 1, 0, 1, 0, 0]), (1, [0]), (0, [1, 1, 1, 1, 1, 1, 1])].map (toItem (Try.f7.body.getD .skip))) [(0, .slice script_b script_l script_c), (1, .bool steady), (2, .bool quiet), (8, .pointer (some ⟨b, 0, none⟩)), (9, .pointer x), (10, .pointer m0), (11, .int .i64 i)] w) (script_b : Option Addr) (script_l script_c : Nat) (steady quiet : Bool) (b : Nat) (x m0 : Option Addr) (i : Int) (w : World) (h : rloglaw_walk.B5 script_b script_l script_c steady quiet b x m0 i w N1  R) :
    KW Try.prog 7 173 (rloglaw_walk.RV R) ([(0, [1, 1, 1, 1, 1, 1, 0, 1, 0, 0, 1, 1]), (2, [1, 1, 1, 1, 1, 1, 0, 1, 0, 0]), (1, [0]), (0, [1, 1, 1, 1, 1, 1, 1])].map (toItem (Try.f7.body.getD .skip))) [(0, .slice script_b script_l script_c), (1, .bool steady), (2, .bool quiet), (8, .pointer (some ⟨b, 0, none⟩)), (9, .pointer x), (10, .pointer m0), (11, .int .i64 i)] w := by
  exact block_spec Try.func7 Try.mixed (stops_cons (fun σ w h => by
      obtain ⟨script_b_, script_l_, script_c_, e0, h⟩ := dL_elim h
      obtain ⟨steady_, e1, h⟩ := dB_elim h
      obtain ⟨quiet_, e2, h⟩ := dB_elim h
      obtain ⟨b_, e3, h⟩ := dK_elim h
      obtain ⟨x_, e4, h⟩ := dP_elim h
      obtain ⟨m0_, e5, h⟩ := dP_elim h
      obtain ⟨i_, e6, h⟩ := dI_elim h
      exact (hN1 script_b_ script_l_ script_c_ steady_ quiet_ b_ x_ m0_ i_ w h).weaken (Sub.cons (Sub.cons (Sub.cons (Sub.cons (Sub.cons (Sub.cons (Sub.cons (Sub.nil _) e6) e5) e4) e3) e2) e1) e0)) stops_nil) (Eq.mp (rloglaw_walk.B5_eq script_b script_l script_c steady quiet b x m0 i w N1  R ) h)
def rloglaw_walk.B3 (script_b : Option Addr) (script_l script_c : Nat) (steady quiet : Bool) (b : Nat) (x m0 : Option Addr) (i : Int) (t85 : Bool) (w : World) (N1 : Option Addr → Nat → Nat → Bool → Bool → Nat → Option Addr → Option Addr → Int → World → Prop)  (R : Int → Int → World → Prop) : Prop :=
  Bm t85 (
    R i i w) (
    rloglaw_walk.B5 script_b script_l script_c steady quiet b x m0 i w N1 R)
theorem rloglaw_walk.B3_eq (script_b : Option Addr) (script_l script_c : Nat) (steady quiet : Bool) (b : Nat) (x m0 : Option Addr) (i : Int) (t85 : Bool) (w : World) (N1 : Option Addr → Nat → Nat → Bool → Bool → Nat → Option Addr → Option Addr → Int → World → Prop)  (R : Int → Int → World → Prop) (sB5 : Option Addr → Nat → Nat → Bool → Bool → Nat → Option Addr → Option Addr → Int → World → Prop) :
    (
  Bm t85 (
    R i i w) (
    sB5 script_b script_l script_c steady quiet b x m0 i w)) = kstep Try.prog 173 Try.f7.results.toList (Try.f7.body.getD .skip) (rloglaw_walk.RV R) (kvc Try.prog 173 Try.f7.results.toList (Try.f7.body.getD .skip) (rloglaw_walk.RV R) [([(0, [1, 1, 1, 1, 1, 1, 0, 1, 0, 0, 1, 1]), (2, [1, 1, 1, 1, 1, 1, 0, 1, 0, 0]), (1, [0]), (0, [1, 1, 1, 1, 1, 1, 1])], fun σ w => dL (slotOf σ 0) fun script_b_ script_l_ script_c_ => dB (slotOf σ 1) fun steady_ => dB (slotOf σ 2) fun quiet_ => dK (slotOf σ 8) fun b_ => dP (slotOf σ 9) fun x_ => dP (slotOf σ 10) fun m0_ => dI .i64 (slotOf σ 11) fun i_ => sB5 script_b_ script_l_ script_c_ steady_ quiet_ b_ x_ m0_ i_ w)] 2000) [(0, [1, 1, 1, 1, 1, 1, 0, 1, 0, 0, 1, 0, 0, 1, 1, 0, 1, 1, 1, 1, 1, 1]), (1, [1]), (0, [1, 1, 1, 1, 1, 1, 0, 1, 0, 0, 1, 1]), (2, [1, 1, 1, 1, 1, 1, 0, 1, 0, 0]), (1, [0]), (0, [1, 1, 1, 1, 1, 1, 1])] [(0, .slice script_b script_l script_c), (1, .bool steady), (2, .bool quiet), (8, .pointer (some ⟨b, 0, none⟩)), (9, .pointer x), (10, .pointer m0), (11, .int .i64 i), (85, .bool t85)] w := by kernel_rfl
theorem rloglaw_walk.B3_sound {R : Int → Int → World → Prop} {N1 : Option Addr → Nat → Nat → Bool → Bool → Nat → Option Addr → Option Addr → Int → World → Prop} (hN1 : ∀ script_b script_l script_c steady quiet b x m0 i w, N1 script_b script_l script_c steady quiet b x m0 i w → KW Try.prog 7 173 (rloglaw_walk.RV R) ([(0, [1, 1, 1, 1, 1, 1, 0, 1, 0, 0]), (2, [1, 1, 1, 1, 1, 1, 0, 1, 0, 0]), (1, [0]), (0, [1, 1, 1, 1, 1, 1, 1])].map (toItem (Try.f7.body.getD .skip))) [(0, .slice script_b script_l script_c), (1, .bool steady), (2, .bool quiet), (8, .pointer (some ⟨b, 0, none⟩)), (9, .pointer x), (10, .pointer m0), (11, .int .i64 i)] w) (script_b : Option Addr) (script_l script_c : Nat) (steady quiet : Bool) (b : Nat) (x m0 : Option Addr) (i : Int) (t85 : Bool) (w : World) (h : rloglaw_walk.B3 script_b script_l script_c steady quiet b x m0 i t85 w N1  R) :
    KW Try.prog 7 173 (rloglaw_walk.RV R) ([(0, [1, 1, 1, 1, 1, 1, 0, 1, 0, 0, 1, 0, 0, 1, 1, 0, 1, 1, 1, 1, 1, 1]), (1, [1]), (0, [1, 1, 1, 1, 1, 1, 0, 1, 0, 0, 1, 1]), (2, [1, 1, 1, 1, 1, 1, 0, 1, 0, 0]), (1, [0]), (0, [1, 1, 1, 1, 1, 1, 1])].map (toItem (Try.f7.body.getD .skip))) [(0, .slice script_b script_l script_c), (1, .bool steady), (2, .bool quiet), (8, .pointer (some ⟨b, 0, none⟩)), (9, .pointer x), (10, .pointer m0), (11, .int .i64 i), (85, .bool t85)] w := by
  exact block_spec Try.func7 Try.mixed (stops_cons (fun σ w h => by
      obtain ⟨script_b_, script_l_, script_c_, e0, h⟩ := dL_elim h
      obtain ⟨steady_, e1, h⟩ := dB_elim h
      obtain ⟨quiet_, e2, h⟩ := dB_elim h
      obtain ⟨b_, e3, h⟩ := dK_elim h
      obtain ⟨x_, e4, h⟩ := dP_elim h
      obtain ⟨m0_, e5, h⟩ := dP_elim h
      obtain ⟨i_, e6, h⟩ := dI_elim h
      exact (rloglaw_walk.B5_sound hN1 script_b_ script_l_ script_c_ steady_ quiet_ b_ x_ m0_ i_ w h).weaken (Sub.cons (Sub.cons (Sub.cons (Sub.cons (Sub.cons (Sub.cons (Sub.cons (Sub.nil _) e6) e5) e4) e3) e2) e1) e0)) stops_nil) (Eq.mp (rloglaw_walk.B3_eq script_b script_l script_c steady quiet b x m0 i t85 w N1  R (fun script_b_ script_l_ script_c_ steady_ quiet_ b_ x_ m0_ i_ w => rloglaw_walk.B5 script_b_ script_l_ script_c_ steady_ quiet_ b_ x_ m0_ i_ w N1 R)) h)
def rloglaw_walk.B7 (script_b : Option Addr) (script_l script_c : Nat) (steady quiet : Bool) (b : Nat) (x m0 : Option Addr) (i : Int) (o b0 : Nat) (j : Int) (t154 : Bool) (w : World) (N1 : Option Addr → Nat → Nat → Bool → Bool → Nat → Option Addr → Option Addr → Int → World → Prop)  (R : Int → Int → World → Prop) : Prop :=
  Bm t154 (
    R i i w) (
    rlogm_Log_After.Call m0 j w fun r159 w1 =>
    Bm quiet (
      LdP ⟨b0, 0, none⟩ w1 fun x161_0 =>
      LdP ⟨b0, 1, none⟩ w1 fun x161_1 =>
      LdI .i64 ⟨o, 1, none⟩ w1 fun x163 =>
      rloglaw_After.Call x161_0 x161_1 x163 w1 fun r164_0 r164_1 w2 =>
      Sts [.pointer r164_0, .pointer r164_1] ⟨b, 0, none⟩ 0 w2 fun w3 =>
      LdP ⟨b, 1, none⟩ w3 fun x166 =>
      rlog_Open.Call x166 w3 fun r167 w4 =>
      rloglaw_walk.B5 script_b script_l script_c steady quiet b r167 r159 i w4 N1 R) (
      rloglaw_walk.B5 script_b script_l script_c steady quiet b x r159 i w1 N1 R))
theorem rloglaw_walk.B7_eq (script_b : Option Addr) (script_l script_c : Nat) (steady quiet : Bool) (b : Nat) (x m0 : Option Addr) (i : Int) (o b0 : Nat) (j : Int) (t154 : Bool) (w : World) (N1 : Option Addr → Nat → Nat → Bool → Bool → Nat → Option Addr → Option Addr → Int → World → Prop)  (R : Int → Int → World → Prop) (sB5 : Option Addr → Nat → Nat → Bool → Bool → Nat → Option Addr → Option Addr → Int → World → Prop) :
    (
  Bm t154 (
    R i i w) (
    rlogm_Log_After.Call m0 j w fun r159 w1 =>
    Bm quiet (
      LdP ⟨b0, 0, none⟩ w1 fun x161_0 =>
      LdP ⟨b0, 1, none⟩ w1 fun x161_1 =>
      LdI .i64 ⟨o, 1, none⟩ w1 fun x163 =>
      rloglaw_After.Call x161_0 x161_1 x163 w1 fun r164_0 r164_1 w2 =>
      Sts [.pointer r164_0, .pointer r164_1] ⟨b, 0, none⟩ 0 w2 fun w3 =>
      LdP ⟨b, 1, none⟩ w3 fun x166 =>
      rlog_Open.Call x166 w3 fun r167 w4 =>
      sB5 script_b script_l script_c steady quiet b r167 r159 i w4) (
      sB5 script_b script_l script_c steady quiet b x r159 i w1))) = kstep Try.prog 173 Try.f7.results.toList (Try.f7.body.getD .skip) (rloglaw_walk.RV R) (kvc Try.prog 173 Try.f7.results.toList (Try.f7.body.getD .skip) (rloglaw_walk.RV R) [([(0, [1, 1, 1, 1, 1, 1, 0, 1, 0, 0, 1, 1]), (2, [1, 1, 1, 1, 1, 1, 0, 1, 0, 0]), (1, [0]), (0, [1, 1, 1, 1, 1, 1, 1])], fun σ w => dL (slotOf σ 0) fun script_b_ script_l_ script_c_ => dB (slotOf σ 1) fun steady_ => dB (slotOf σ 2) fun quiet_ => dK (slotOf σ 8) fun b_ => dP (slotOf σ 9) fun x_ => dP (slotOf σ 10) fun m0_ => dI .i64 (slotOf σ 11) fun i_ => sB5 script_b_ script_l_ script_c_ steady_ quiet_ b_ x_ m0_ i_ w)] 2000) [(0, [1, 1, 1, 1, 1, 1, 0, 1, 0, 0, 1, 0, 0, 1, 1, 1, 1, 0, 1, 1, 1, 1, 1, 1, 1, 1, 1, 1, 1, 1, 1, 1, 0, 1]), (0, [1, 1, 1, 1, 1, 1, 0, 1, 0, 0, 1, 0, 0, 1, 1, 1, 1, 0, 1, 1, 1, 1, 1, 1, 1, 1, 1, 1, 1, 1, 1, 1, 1]), (1, [1]), (0, [1, 1, 1, 1, 1, 1, 0, 1, 0, 0, 1, 1]), (2, [1, 1, 1, 1, 1, 1, 0, 1, 0, 0]), (1, [0]), (0, [1, 1, 1, 1, 1, 1, 1])] [(0, .slice script_b script_l script_c), (1, .bool steady), (2, .bool quiet), (8, .pointer (some ⟨b, 0, none⟩)), (9, .pointer x), (10, .pointer m0), (11, .int .i64 i), (12, .pointer (some ⟨o, 0, none⟩)), (15, .pointer (some ⟨b0, 0, none⟩)), (19, .int .i64 j), (154, .bool t154)] w := by kernel_rfl
theorem rloglaw_walk.B7_sound {R : Int → Int → World → Prop} {N1 : Option Addr → Nat → Nat → Bool → Bool → Nat → Option Addr → Option Addr → Int → World → Prop} (hN1 : ∀ script_b script_l script_c steady quiet b x m0 i w, N1 script_b script_l script_c steady quiet b x m0 i w → KW Try.prog 7 173 (rloglaw_walk.RV R) ([(0, [1, 1, 1, 1, 1, 1, 0, 1, 0, 0]), (2, [1, 1, 1, 1, 1, 1, 0, 1, 0, 0]), (1, [0]), (0, [1, 1, 1, 1, 1, 1, 1])].map (toItem (Try.f7.body.getD .skip))) [(0, .slice script_b script_l script_c), (1, .bool steady), (2, .bool quiet), (8, .pointer (some ⟨b, 0, none⟩)), (9, .pointer x), (10, .pointer m0), (11, .int .i64 i)] w) (script_b : Option Addr) (script_l script_c : Nat) (steady quiet : Bool) (b : Nat) (x m0 : Option Addr) (i : Int) (o b0 : Nat) (j : Int) (t154 : Bool) (w : World) (h : rloglaw_walk.B7 script_b script_l script_c steady quiet b x m0 i o b0 j t154 w N1  R) :
    KW Try.prog 7 173 (rloglaw_walk.RV R) ([(0, [1, 1, 1, 1, 1, 1, 0, 1, 0, 0, 1, 0, 0, 1, 1, 1, 1, 0, 1, 1, 1, 1, 1, 1, 1, 1, 1, 1, 1, 1, 1, 1, 0, 1]), (0, [1, 1, 1, 1, 1, 1, 0, 1, 0, 0, 1, 0, 0, 1, 1, 1, 1, 0, 1, 1, 1, 1, 1, 1, 1, 1, 1, 1, 1, 1, 1, 1, 1]), (1, [1]), (0, [1, 1, 1, 1, 1, 1, 0, 1, 0, 0, 1, 1]), (2, [1, 1, 1, 1, 1, 1, 0, 1, 0, 0]), (1, [0]), (0, [1, 1, 1, 1, 1, 1, 1])].map (toItem (Try.f7.body.getD .skip))) [(0, .slice script_b script_l script_c), (1, .bool steady), (2, .bool quiet), (8, .pointer (some ⟨b, 0, none⟩)), (9, .pointer x), (10, .pointer m0), (11, .int .i64 i), (12, .pointer (some ⟨o, 0, none⟩)), (15, .pointer (some ⟨b0, 0, none⟩)), (19, .int .i64 j), (154, .bool t154)] w := by
  exact block_spec Try.func7 Try.mixed (stops_cons (fun σ w h => by
      obtain ⟨script_b_, script_l_, script_c_, e0, h⟩ := dL_elim h
      obtain ⟨steady_, e1, h⟩ := dB_elim h
      obtain ⟨quiet_, e2, h⟩ := dB_elim h
      obtain ⟨b_, e3, h⟩ := dK_elim h
      obtain ⟨x_, e4, h⟩ := dP_elim h
      obtain ⟨m0_, e5, h⟩ := dP_elim h
      obtain ⟨i_, e6, h⟩ := dI_elim h
      exact (rloglaw_walk.B5_sound hN1 script_b_ script_l_ script_c_ steady_ quiet_ b_ x_ m0_ i_ w h).weaken (Sub.cons (Sub.cons (Sub.cons (Sub.cons (Sub.cons (Sub.cons (Sub.cons (Sub.nil _) e6) e5) e4) e3) e2) e1) e0)) stops_nil) (Eq.mp (rloglaw_walk.B7_eq script_b script_l script_c steady quiet b x m0 i o b0 j t154 w N1  R (fun script_b_ script_l_ script_c_ steady_ quiet_ b_ x_ m0_ i_ w => rloglaw_walk.B5 script_b_ script_l_ script_c_ steady_ quiet_ b_ x_ m0_ i_ w N1 R)) h)
def rloglaw_walk.B6 (script_b : Option Addr) (script_l script_c : Nat) (steady quiet : Bool) (b : Nat) (x m0 : Option Addr) (i : Int) (o : Nat) (n : Int) (b0 : Nat) (j : Int) (whole t144 : Bool) (w : World) (N1 : Option Addr → Nat → Nat → Bool → Bool → Nat → Option Addr → Option Addr → Int → World → Prop)  (R : Int → Int → World → Prop) : Prop :=
  Bm t144 (
    R i i w) (
    LdI .i64 ⟨o, 1, none⟩ w fun x148 =>
    Bm (decide (x148 ≥ n)) (
      rloglaw_walk.B7 script_b script_l script_c steady quiet b x m0 i o b0 j (!whole) w N1 R) (
      rloglaw_walk.B7 script_b script_l script_c steady quiet b x m0 i o b0 j false w N1 R))
theorem rloglaw_walk.B6_eq (script_b : Option Addr) (script_l script_c : Nat) (steady quiet : Bool) (b : Nat) (x m0 : Option Addr) (i : Int) (o : Nat) (n : Int) (b0 : Nat) (j : Int) (whole t144 : Bool) (w : World) (N1 : Option Addr → Nat → Nat → Bool → Bool → Nat → Option Addr → Option Addr → Int → World → Prop)  (R : Int → Int → World → Prop) (sB7 : Option Addr → Nat → Nat → Bool → Bool → Nat → Option Addr → Option Addr → Int → Nat → Nat → Int → Bool → World → Prop) :
    (
  Bm t144 (
    R i i w) (
    LdI .i64 ⟨o, 1, none⟩ w fun x148 =>
    Bm (decide (x148 ≥ n)) (
      sB7 script_b script_l script_c steady quiet b x m0 i o b0 j (!whole) w) (
      sB7 script_b script_l script_c steady quiet b x m0 i o b0 j false w))) = kstep Try.prog 173 Try.f7.results.toList (Try.f7.body.getD .skip) (rloglaw_walk.RV R) (kvc Try.prog 173 Try.f7.results.toList (Try.f7.body.getD .skip) (rloglaw_walk.RV R) [([(0, [1, 1, 1, 1, 1, 1, 0, 1, 0, 0, 1, 0, 0, 1, 1, 1, 1, 0, 1, 1, 1, 1, 1, 1, 1, 1, 1, 1, 1, 1, 1, 1, 0, 1]), (0, [1, 1, 1, 1, 1, 1, 0, 1, 0, 0, 1, 0, 0, 1, 1, 1, 1, 0, 1, 1, 1, 1, 1, 1, 1, 1, 1, 1, 1, 1, 1, 1, 1]), (1, [1]), (0, [1, 1, 1, 1, 1, 1, 0, 1, 0, 0, 1, 1]), (2, [1, 1, 1, 1, 1, 1, 0, 1, 0, 0]), (1, [0]), (0, [1, 1, 1, 1, 1, 1, 1])], fun σ w => dL (slotOf σ 0) fun script_b_ script_l_ script_c_ => dB (slotOf σ 1) fun steady_ => dB (slotOf σ 2) fun quiet_ => dK (slotOf σ 8) fun b_ => dP (slotOf σ 9) fun x_ => dP (slotOf σ 10) fun m0_ => dI .i64 (slotOf σ 11) fun i_ => dK (slotOf σ 12) fun o_ => dK (slotOf σ 15) fun b0_ => dI .i64 (slotOf σ 19) fun j_ => dB (slotOf σ 154) fun t154_ => sB7 script_b_ script_l_ script_c_ steady_ quiet_ b_ x_ m0_ i_ o_ b0_ j_ t154_ w)] 2000) [(0, [1, 1, 1, 1, 1, 1, 0, 1, 0, 0, 1, 0, 0, 1, 1, 1, 1, 0, 1, 1, 1, 1, 1, 1, 1, 1, 1, 1, 1, 1, 1, 0, 1]), (0, [1, 1, 1, 1, 1, 1, 0, 1, 0, 0, 1, 0, 0, 1, 1, 1, 1, 0, 1, 1, 1, 1, 1, 1, 1, 1, 1, 1, 1, 1, 1, 1]), (1, [1]), (0, [1, 1, 1, 1, 1, 1, 0, 1, 0, 0, 1, 1]), (2, [1, 1, 1, 1, 1, 1, 0, 1, 0, 0]), (1, [0]), (0, [1, 1, 1, 1, 1, 1, 1])] [(0, .slice script_b script_l script_c), (1, .bool steady), (2, .bool quiet), (8, .pointer (some ⟨b, 0, none⟩)), (9, .pointer x), (10, .pointer m0), (11, .int .i64 i), (12, .pointer (some ⟨o, 0, none⟩)), (14, .int .i64 n), (15, .pointer (some ⟨b0, 0, none⟩)), (19, .int .i64 j), (22, .bool whole), (144, .bool t144)] w := by kernel_rfl
theorem rloglaw_walk.B6_sound {R : Int → Int → World → Prop} {N1 : Option Addr → Nat → Nat → Bool → Bool → Nat → Option Addr → Option Addr → Int → World → Prop} (hN1 : ∀ script_b script_l script_c steady quiet b x m0 i w, N1 script_b script_l script_c steady quiet b x m0 i w → KW Try.prog 7 173 (rloglaw_walk.RV R) ([(0, [1, 1, 1, 1, 1, 1, 0, 1, 0, 0]), (2, [1, 1, 1, 1, 1, 1, 0, 1, 0, 0]), (1, [0]), (0, [1, 1, 1, 1, 1, 1, 1])].map (toItem (Try.f7.body.getD .skip))) [(0, .slice script_b script_l script_c), (1, .bool steady), (2, .bool quiet), (8, .pointer (some ⟨b, 0, none⟩)), (9, .pointer x), (10, .pointer m0), (11, .int .i64 i)] w) (script_b : Option Addr) (script_l script_c : Nat) (steady quiet : Bool) (b : Nat) (x m0 : Option Addr) (i : Int) (o : Nat) (n : Int) (b0 : Nat) (j : Int) (whole t144 : Bool) (w : World) (h : rloglaw_walk.B6 script_b script_l script_c steady quiet b x m0 i o n b0 j whole t144 w N1  R) :
    KW Try.prog 7 173 (rloglaw_walk.RV R) ([(0, [1, 1, 1, 1, 1, 1, 0, 1, 0, 0, 1, 0, 0, 1, 1, 1, 1, 0, 1, 1, 1, 1, 1, 1, 1, 1, 1, 1, 1, 1, 1, 0, 1]), (0, [1, 1, 1, 1, 1, 1, 0, 1, 0, 0, 1, 0, 0, 1, 1, 1, 1, 0, 1, 1, 1, 1, 1, 1, 1, 1, 1, 1, 1, 1, 1, 1]), (1, [1]), (0, [1, 1, 1, 1, 1, 1, 0, 1, 0, 0, 1, 1]), (2, [1, 1, 1, 1, 1, 1, 0, 1, 0, 0]), (1, [0]), (0, [1, 1, 1, 1, 1, 1, 1])].map (toItem (Try.f7.body.getD .skip))) [(0, .slice script_b script_l script_c), (1, .bool steady), (2, .bool quiet), (8, .pointer (some ⟨b, 0, none⟩)), (9, .pointer x), (10, .pointer m0), (11, .int .i64 i), (12, .pointer (some ⟨o, 0, none⟩)), (14, .int .i64 n), (15, .pointer (some ⟨b0, 0, none⟩)), (19, .int .i64 j), (22, .bool whole), (144, .bool t144)] w := by
  exact block_spec Try.func7 Try.mixed (stops_cons (fun σ w h => by
      obtain ⟨script_b_, script_l_, script_c_, e0, h⟩ := dL_elim h
      obtain ⟨steady_, e1, h⟩ := dB_elim h
      obtain ⟨quiet_, e2, h⟩ := dB_elim h
      obtain ⟨b_, e3, h⟩ := dK_elim h
      obtain ⟨x_, e4, h⟩ := dP_elim h
      obtain ⟨m0_, e5, h⟩ := dP_elim h
      obtain ⟨i_, e6, h⟩ := dI_elim h
      obtain ⟨o_, e7, h⟩ := dK_elim h
      obtain ⟨b0_, e8, h⟩ := dK_elim h
      obtain ⟨j_, e9, h⟩ := dI_elim h
      obtain ⟨t154_, e10, h⟩ := dB_elim h
      exact (rloglaw_walk.B7_sound hN1 script_b_ script_l_ script_c_ steady_ quiet_ b_ x_ m0_ i_ o_ b0_ j_ t154_ w h).weaken (Sub.cons (Sub.cons (Sub.cons (Sub.cons (Sub.cons (Sub.cons (Sub.cons (Sub.cons (Sub.cons (Sub.cons (Sub.cons (Sub.nil _) e10) e9) e8) e7) e6) e5) e4) e3) e2) e1) e0)) stops_nil) (Eq.mp (rloglaw_walk.B6_eq script_b script_l script_c steady quiet b x m0 i o n b0 j whole t144 w N1  R (fun script_b_ script_l_ script_c_ steady_ quiet_ b_ x_ m0_ i_ o_ b0_ j_ t154_ w => rloglaw_walk.B7 script_b_ script_l_ script_c_ steady_ quiet_ b_ x_ m0_ i_ o_ b0_ j_ t154_ w N1 R)) h)
def rloglaw_walk.B4 (script_b : Option Addr) (script_l script_c : Nat) (steady quiet : Bool) (b : Nat) (x m0 : Option Addr) (i : Int) (o : Nat) (n : Int) (b0 : Nat) (j : Int) (whole t131 : Bool) (w : World) (N1 : Option Addr → Nat → Nat → Bool → Bool → Nat → Option Addr → Option Addr → Int → World → Prop)  (R : Int → Int → World → Prop) : Prop :=
  Bm t131 (
    R i i w) (
    Bm (decide (j < (0 : Int))) (
      R i i w) (
      LdI .i64 ⟨o, 1, none⟩ w fun x139 =>
      Bm (decide (x139 ≤ (0 : Int))) (
        rloglaw_walk.B6 script_b script_l script_c steady quiet b x m0 i o n b0 j whole (j != (0 : Int)) w N1 R) (
        rloglaw_walk.B6 script_b script_l script_c steady quiet b x m0 i o n b0 j whole false w N1 R)))
theorem rloglaw_walk.B4_eq (script_b : Option Addr) (script_l script_c : Nat) (steady quiet : Bool) (b : Nat) (x m0 : Option Addr) (i : Int) (o : Nat) (n : Int) (b0 : Nat) (j : Int) (whole t131 : Bool) (w : World) (N1 : Option Addr → Nat → Nat → Bool → Bool → Nat → Option Addr → Option Addr → Int → World → Prop)  (R : Int → Int → World → Prop) (sB6 : Option Addr → Nat → Nat → Bool → Bool → Nat → Option Addr → Option Addr → Int → Nat → Int → Nat → Int → Bool → Bool → World → Prop) :
    (
  Bm t131 (
    R i i w) (
    Bm (decide (j < (0 : Int))) (
      R i i w) (
      LdI .i64 ⟨o, 1, none⟩ w fun x139 =>
      Bm (decide (x139 ≤ (0 : Int))) (
        sB6 script_b script_l script_c steady quiet b x m0 i o n b0 j whole (j != (0 : Int)) w) (
        sB6 script_b script_l script_c steady quiet b x m0 i o n b0 j whole false w)))) = kstep Try.prog 173 Try.f7.results.toList (Try.f7.body.getD .skip) (rloglaw_walk.RV R) (kvc Try.prog 173 Try.f7.results.toList (Try.f7.body.getD .skip) (rloglaw_walk.RV R) [([(0, [1, 1, 1, 1, 1, 1, 0, 1, 0, 0, 1, 0, 0, 1, 1, 1, 1, 0, 1, 1, 1, 1, 1, 1, 1, 1, 1, 1, 1, 1, 1, 0, 1]), (0, [1, 1, 1, 1, 1, 1, 0, 1, 0, 0, 1, 0, 0, 1, 1, 1, 1, 0, 1, 1, 1, 1, 1, 1, 1, 1, 1, 1, 1, 1, 1, 1]), (1, [1]), (0, [1, 1, 1, 1, 1, 1, 0, 1, 0, 0, 1, 1]), (2, [1, 1, 1, 1, 1, 1, 0, 1, 0, 0]), (1, [0]), (0, [1, 1, 1, 1, 1, 1, 1])], fun σ w => dL (slotOf σ 0) fun script_b_ script_l_ script_c_ => dB (slotOf σ 1) fun steady_ => dB (slotOf σ 2) fun quiet_ => dK (slotOf σ 8) fun b_ => dP (slotOf σ 9) fun x_ => dP (slotOf σ 10) fun m0_ => dI .i64 (slotOf σ 11) fun i_ => dK (slotOf σ 12) fun o_ => dI .i64 (slotOf σ 14) fun n_ => dK (slotOf σ 15) fun b0_ => dI .i64 (slotOf σ 19) fun j_ => dB (slotOf σ 22) fun whole_ => dB (slotOf σ 144) fun t144_ => sB6 script_b_ script_l_ script_c_ steady_ quiet_ b_ x_ m0_ i_ o_ n_ b0_ j_ whole_ t144_ w)] 2000) [(0, [1, 1, 1, 1, 1, 1, 0, 1, 0, 0, 1, 0, 0, 1, 1, 1, 1, 0, 1, 1, 1, 1, 1, 1, 1, 1, 1, 1, 1, 0, 1]), (0, [1, 1, 1, 1, 1, 1, 0, 1, 0, 0, 1, 0, 0, 1, 1, 1, 1, 0, 1, 1, 1, 1, 1, 1, 1, 1, 1, 1, 1, 1]), (1, [1]), (0, [1, 1, 1, 1, 1, 1, 0, 1, 0, 0, 1, 1]), (2, [1, 1, 1, 1, 1, 1, 0, 1, 0, 0]), (1, [0]), (0, [1, 1, 1, 1, 1, 1, 1])] [(0, .slice script_b script_l script_c), (1, .bool steady), (2, .bool quiet), (8, .pointer (some ⟨b, 0, none⟩)), (9, .pointer x), (10, .pointer m0), (11, .int .i64 i), (12, .pointer (some ⟨o, 0, none⟩)), (14, .int .i64 n), (15, .pointer (some ⟨b0, 0, none⟩)), (19, .int .i64 j), (22, .bool whole), (131, .bool t131)] w := by kernel_rfl
theorem rloglaw_walk.B4_sound {R : Int → Int → World → Prop} {N1 : Option Addr → Nat → Nat → Bool → Bool → Nat → Option Addr → Option Addr → Int → World → Prop} (hN1 : ∀ script_b script_l script_c steady quiet b x m0 i w, N1 script_b script_l script_c steady quiet b x m0 i w → KW Try.prog 7 173 (rloglaw_walk.RV R) ([(0, [1, 1, 1, 1, 1, 1, 0, 1, 0, 0]), (2, [1, 1, 1, 1, 1, 1, 0, 1, 0, 0]), (1, [0]), (0, [1, 1, 1, 1, 1, 1, 1])].map (toItem (Try.f7.body.getD .skip))) [(0, .slice script_b script_l script_c), (1, .bool steady), (2, .bool quiet), (8, .pointer (some ⟨b, 0, none⟩)), (9, .pointer x), (10, .pointer m0), (11, .int .i64 i)] w) (script_b : Option Addr) (script_l script_c : Nat) (steady quiet : Bool) (b : Nat) (x m0 : Option Addr) (i : Int) (o : Nat) (n : Int) (b0 : Nat) (j : Int) (whole t131 : Bool) (w : World) (h : rloglaw_walk.B4 script_b script_l script_c steady quiet b x m0 i o n b0 j whole t131 w N1  R) :
    KW Try.prog 7 173 (rloglaw_walk.RV R) ([(0, [1, 1, 1, 1, 1, 1, 0, 1, 0, 0, 1, 0, 0, 1, 1, 1, 1, 0, 1, 1, 1, 1, 1, 1, 1, 1, 1, 1, 1, 0, 1]), (0, [1, 1, 1, 1, 1, 1, 0, 1, 0, 0, 1, 0, 0, 1, 1, 1, 1, 0, 1, 1, 1, 1, 1, 1, 1, 1, 1, 1, 1, 1]), (1, [1]), (0, [1, 1, 1, 1, 1, 1, 0, 1, 0, 0, 1, 1]), (2, [1, 1, 1, 1, 1, 1, 0, 1, 0, 0]), (1, [0]), (0, [1, 1, 1, 1, 1, 1, 1])].map (toItem (Try.f7.body.getD .skip))) [(0, .slice script_b script_l script_c), (1, .bool steady), (2, .bool quiet), (8, .pointer (some ⟨b, 0, none⟩)), (9, .pointer x), (10, .pointer m0), (11, .int .i64 i), (12, .pointer (some ⟨o, 0, none⟩)), (14, .int .i64 n), (15, .pointer (some ⟨b0, 0, none⟩)), (19, .int .i64 j), (22, .bool whole), (131, .bool t131)] w := by
  exact block_spec Try.func7 Try.mixed (stops_cons (fun σ w h => by
      obtain ⟨script_b_, script_l_, script_c_, e0, h⟩ := dL_elim h
      obtain ⟨steady_, e1, h⟩ := dB_elim h
      obtain ⟨quiet_, e2, h⟩ := dB_elim h
      obtain ⟨b_, e3, h⟩ := dK_elim h
      obtain ⟨x_, e4, h⟩ := dP_elim h
      obtain ⟨m0_, e5, h⟩ := dP_elim h
      obtain ⟨i_, e6, h⟩ := dI_elim h
      obtain ⟨o_, e7, h⟩ := dK_elim h
      obtain ⟨n_, e8, h⟩ := dI_elim h
      obtain ⟨b0_, e9, h⟩ := dK_elim h
      obtain ⟨j_, e10, h⟩ := dI_elim h
      obtain ⟨whole_, e11, h⟩ := dB_elim h
      obtain ⟨t144_, e12, h⟩ := dB_elim h
      exact (rloglaw_walk.B6_sound hN1 script_b_ script_l_ script_c_ steady_ quiet_ b_ x_ m0_ i_ o_ n_ b0_ j_ whole_ t144_ w h).weaken (Sub.cons (Sub.cons (Sub.cons (Sub.cons (Sub.cons (Sub.cons (Sub.cons (Sub.cons (Sub.cons (Sub.cons (Sub.cons (Sub.cons (Sub.cons (Sub.nil _) e12) e11) e10) e9) e8) e7) e6) e5) e4) e3) e2) e1) e0)) stops_nil) (Eq.mp (rloglaw_walk.B4_eq script_b script_l script_c steady quiet b x m0 i o n b0 j whole t131 w N1  R (fun script_b_ script_l_ script_c_ steady_ quiet_ b_ x_ m0_ i_ o_ n_ b0_ j_ whole_ t144_ w => rloglaw_walk.B6 script_b_ script_l_ script_c_ steady_ quiet_ b_ x_ m0_ i_ o_ n_ b0_ j_ whole_ t144_ w N1 R)) h)
def rloglaw_walk.B2 (script_b : Option Addr) (script_l script_c : Nat) (steady quiet : Bool) (b : Nat) (x m0 : Option Addr) (i : Int) (t47 : Bool) (w : World) (N1 : Option Addr → Nat → Nat → Bool → Bool → Nat → Option Addr → Option Addr → Int → World → Prop)  (R : Int → Int → World → Prop) : Prop :=
  Bm t47 (
    Pn script_b fun a =>
    (0 ≤ i ∧ i < ((script_l : Nat) : Int)) ∧
    LdI .i64 (Addr.add a (i.toNat * 6)) w fun x53_0 =>
    LdI .i64 ((Addr.add a (i.toNat * 6)).add 1) w fun x53_1 =>
    LdI .i64 ((Addr.add a (i.toNat * 6)).add 2) w fun x53_2 =>
    LdI .i64 ((Addr.add a (i.toNat * 6)).add 3) w fun x53_3 =>
    LdS ((Addr.add a (i.toNat * 6)).add 4) w fun x53_4 =>
    LdS ((Addr.add a (i.toNat * 6)).add 5) w fun x53_5 =>
    New (.cells #[.int .i64 (0 : Int), .int .i64 (0 : Int), .int .i64 (0 : Int), .int .i64 (0 : Int), .string (ByteArray.mk #[]), .string (ByteArray.mk #[])] 39) w fun o_ w1 =>
    Sts [.int .i64 x53_0, .int .i64 x53_1, .int .i64 x53_2, .int .i64 x53_3, .string x53_4, .string x53_5] ⟨o_, 0, none⟩ 0 w1 fun w2 =>
    LdI .i64 ⟨o_, 0, none⟩ w2 fun x55 =>
    Bm (x55 != (8 : Int)) (
      LdP ⟨b, 0, none⟩ w2 fun x57_0 =>
      LdP ⟨b, 1, none⟩ w2 fun x57_1 =>
      rloglaw_Mark.Call x57_0 x57_1 w2 fun w3 =>
      rlogm_Log_Mark.Call m0 w3 fun w4 =>
      LdI .i64 ⟨o_, 0, none⟩ w4 fun x63_0 =>
      LdI .i64 ⟨o_, 1, none⟩ w4 fun x63_1 =>
      LdI .i64 ⟨o_, 2, none⟩ w4 fun x63_2 =>
      LdI .i64 ⟨o_, 3, none⟩ w4 fun x63_3 =>
      LdS ⟨o_, 4, none⟩ w4 fun x63_4 =>
      LdS ⟨o_, 5, none⟩ w4 fun x63_5 =>
      rloglaw_Play.Call x m0 x63_0 x63_1 x63_2 x63_3 x63_4 x63_5 w4 fun r64 w5 =>
      Bm (!r64) (
        R i i w5) (
        LdP ⟨b, 0, none⟩ w5 fun x68_0 =>
        LdP ⟨b, 1, none⟩ w5 fun x68_1 =>
        rloglaw_Idle.Call x68_0 x68_1 m0 w5 fun r70 w6 =>
        Bm (!r70) (
          R i i w6) (
          LdP ⟨b, 0, none⟩ w6 fun x74_0 =>
          LdP ⟨b, 1, none⟩ w6 fun x74_1 =>
          rloglaw_Steps.Call x74_0 x74_1 w6 fun r75 w7 =>
          Bm (!quiet) (
            LdP ⟨b, 0, none⟩ w7 fun x81_0 =>
            LdP ⟨b, 1, none⟩ w7 fun x81_1 =>
            rloglaw_Seen.Call x m0 x81_0 x81_1 r75 w7 fun r83 w8 =>
            rloglaw_walk.B3 script_b script_l script_c steady quiet b x m0 i (!r83) w8 N1 R) (
            rloglaw_walk.B3 script_b script_l script_c steady quiet b x m0 i false w7 N1 R)))) (
      Bm (!steady) (
        LdP ⟨b, 0, none⟩ w2 fun x90_0 =>
        LdP ⟨b, 1, none⟩ w2 fun x90_1 =>
        rloglaw_Steps.Call x90_0 x90_1 w2 fun r91 w9 =>
        LdP ⟨b, 0, none⟩ w9 fun x92_0 =>
        LdP ⟨b, 1, none⟩ w9 fun x92_1 =>
        New (.cells #[.pointer none, .pointer none] 30) w9 fun b0_ w10 =>
        Sts [.pointer x92_0, .pointer x92_1] ⟨b0_, 0, none⟩ 0 w10 fun w11 =>
        LdP ⟨b0_, 0, none⟩ w11 fun x93_0 =>
        LdP ⟨b0_, 1, none⟩ w11 fun x93_1 =>
        LdI .i64 ⟨o_, 1, none⟩ w11 fun x95 =>
        rloglaw_After.Call x93_0 x93_1 x95 w11 fun r96_0 r96_1 w12 =>
        Sts [.pointer r96_0, .pointer r96_1] ⟨b, 0, none⟩ 0 w12 fun w13 =>
        LdP ⟨b, 1, none⟩ w13 fun x98 =>
        rlog_Sound.Call x98 w13 fun r99 w14 =>
        LdP ⟨b, 1, none⟩ w14 fun x102 =>
        rlog_Open.Call x102 w14 fun r103 w15 =>
        LdP ⟨b, 0, none⟩ w15 fun x104_0 =>
        LdP ⟨b, 1, none⟩ w15 fun x104_1 =>
        rloglaw_Steps.Call x104_0 x104_1 w15 fun r105 w16 =>
        rlog_Log_Check.Call r103 w16 fun r107 w17 =>
        rloglaw_Match.Call r103 m0 w17 fun r111 w18 =>
        rlogm_Log_Steps.Call m0 w18 fun r113 w19 =>
        rlogm_Log_After.Call m0 r113 w19 fun r116 w20 =>
        rloglaw_Alike.Call r103 r116 w20 fun r119 w21 =>
        Bm (!(r99.toList == (ByteArray.mk #[]).toList)) (
          rloglaw_walk.B4 script_b script_l script_c steady quiet b r103 m0 i o_ r91 b0_ r111 r119 true w21 N1 R) (
          Bm (!(r107.toList == (ByteArray.mk #[]).toList)) (
            rloglaw_walk.B4 script_b script_l script_c steady quiet b r103 m0 i o_ r91 b0_ r111 r119 true w21 N1 R) (
            LdP ⟨b, 0, none⟩ w21 fun x127_0 =>
            LdP ⟨b, 1, none⟩ w21 fun x127_1 =>
            rloglaw_Steps.Call x127_0 x127_1 w21 fun r128 w22 =>
            rloglaw_walk.B4 script_b script_l script_c steady quiet b r103 m0 i o_ r91 b0_ r111 r119 (r128 != r105) w22 N1 R))) (
        rloglaw_walk.B5 script_b script_l script_c steady quiet b x m0 i w2 N1 R))) (
    Bm (decide (((script_l : Nat) : Int) < (4398046511104 : Int))) (
      R (-1 : Int) ((script_l : Nat) : Int) w) (
      R (-1 : Int) (4398046511104 : Int) w))
theorem rloglaw_walk.B2_eq (script_b : Option Addr) (script_l script_c : Nat) (steady quiet : Bool) (b : Nat) (x m0 : Option Addr) (i : Int) (t47 : Bool) (w : World) (N1 : Option Addr → Nat → Nat → Bool → Bool → Nat → Option Addr → Option Addr → Int → World → Prop)  (R : Int → Int → World → Prop) (sB3 : Option Addr → Nat → Nat → Bool → Bool → Nat → Option Addr → Option Addr → Int → Bool → World → Prop) (sB4 : Option Addr → Nat → Nat → Bool → Bool → Nat → Option Addr → Option Addr → Int → Nat → Int → Nat → Int → Bool → Bool → World → Prop) (sB5 : Option Addr → Nat → Nat → Bool → Bool → Nat → Option Addr → Option Addr → Int → World → Prop) :
    (
  Bm t47 (
    Pn script_b fun a =>
    (0 ≤ i ∧ i < ((script_l : Nat) : Int)) ∧
    LdI .i64 (Addr.add a (i.toNat * 6)) w fun x53_0 =>
    LdI .i64 ((Addr.add a (i.toNat * 6)).add 1) w fun x53_1 =>
    LdI .i64 ((Addr.add a (i.toNat * 6)).add 2) w fun x53_2 =>
    LdI .i64 ((Addr.add a (i.toNat * 6)).add 3) w fun x53_3 =>
    LdS ((Addr.add a (i.toNat * 6)).add 4) w fun x53_4 =>
    LdS ((Addr.add a (i.toNat * 6)).add 5) w fun x53_5 =>
    New (.cells #[.int .i64 (0 : Int), .int .i64 (0 : Int), .int .i64 (0 : Int), .int .i64 (0 : Int), .string (ByteArray.mk #[]), .string (ByteArray.mk #[])] 39) w fun o_ w1 =>
    Sts [.int .i64 x53_0, .int .i64 x53_1, .int .i64 x53_2, .int .i64 x53_3, .string x53_4, .string x53_5] ⟨o_, 0, none⟩ 0 w1 fun w2 =>
    LdI .i64 ⟨o_, 0, none⟩ w2 fun x55 =>
    Bm (x55 != (8 : Int)) (
      LdP ⟨b, 0, none⟩ w2 fun x57_0 =>
      LdP ⟨b, 1, none⟩ w2 fun x57_1 =>
      rloglaw_Mark.Call x57_0 x57_1 w2 fun w3 =>
      rlogm_Log_Mark.Call m0 w3 fun w4 =>
      LdI .i64 ⟨o_, 0, none⟩ w4 fun x63_0 =>
      LdI .i64 ⟨o_, 1, none⟩ w4 fun x63_1 =>
      LdI .i64 ⟨o_, 2, none⟩ w4 fun x63_2 =>
      LdI .i64 ⟨o_, 3, none⟩ w4 fun x63_3 =>
      LdS ⟨o_, 4, none⟩ w4 fun x63_4 =>
      LdS ⟨o_, 5, none⟩ w4 fun x63_5 =>
      rloglaw_Play.Call x m0 x63_0 x63_1 x63_2 x63_3 x63_4 x63_5 w4 fun r64 w5 =>
      Bm (!r64) (
        R i i w5) (
        LdP ⟨b, 0, none⟩ w5 fun x68_0 =>
        LdP ⟨b, 1, none⟩ w5 fun x68_1 =>
        rloglaw_Idle.Call x68_0 x68_1 m0 w5 fun r70 w6 =>
        Bm (!r70) (
          R i i w6) (
          LdP ⟨b, 0, none⟩ w6 fun x74_0 =>
          LdP ⟨b, 1, none⟩ w6 fun x74_1 =>
          rloglaw_Steps.Call x74_0 x74_1 w6 fun r75 w7 =>
          Bm (!quiet) (
            LdP ⟨b, 0, none⟩ w7 fun x81_0 =>
            LdP ⟨b, 1, none⟩ w7 fun x81_1 =>
            rloglaw_Seen.Call x m0 x81_0 x81_1 r75 w7 fun r83 w8 =>
            sB3 script_b script_l script_c steady quiet b x m0 i (!r83) w8) (
            sB3 script_b script_l script_c steady quiet b x m0 i false w7)))) (
      Bm (!steady) (
        LdP ⟨b, 0, none⟩ w2 fun x90_0 =>
        LdP ⟨b, 1, none⟩ w2 fun x90_1 =>
        rloglaw_Steps.Call x90_0 x90_1 w2 fun r91 w9 =>
        LdP ⟨b, 0, none⟩ w9 fun x92_0 =>
        LdP ⟨b, 1, none⟩ w9 fun x92_1 =>
        New (.cells #[.pointer none, .pointer none] 30) w9 fun b0_ w10 =>
        Sts [.pointer x92_0, .pointer x92_1] ⟨b0_, 0, none⟩ 0 w10 fun w11 =>
        LdP ⟨b0_, 0, none⟩ w11 fun x93_0 =>
        LdP ⟨b0_, 1, none⟩ w11 fun x93_1 =>
        LdI .i64 ⟨o_, 1, none⟩ w11 fun x95 =>
        rloglaw_After.Call x93_0 x93_1 x95 w11 fun r96_0 r96_1 w12 =>
        Sts [.pointer r96_0, .pointer r96_1] ⟨b, 0, none⟩ 0 w12 fun w13 =>
        LdP ⟨b, 1, none⟩ w13 fun x98 =>
        rlog_Sound.Call x98 w13 fun r99 w14 =>
        LdP ⟨b, 1, none⟩ w14 fun x102 =>
        rlog_Open.Call x102 w14 fun r103 w15 =>
        LdP ⟨b, 0, none⟩ w15 fun x104_0 =>
        LdP ⟨b, 1, none⟩ w15 fun x104_1 =>
        rloglaw_Steps.Call x104_0 x104_1 w15 fun r105 w16 =>
        rlog_Log_Check.Call r103 w16 fun r107 w17 =>
        rloglaw_Match.Call r103 m0 w17 fun r111 w18 =>
        rlogm_Log_Steps.Call m0 w18 fun r113 w19 =>
        rlogm_Log_After.Call m0 r113 w19 fun r116 w20 =>
        rloglaw_Alike.Call r103 r116 w20 fun r119 w21 =>
        Bm (!(r99.toList == (ByteArray.mk #[]).toList)) (
          sB4 script_b script_l script_c steady quiet b r103 m0 i o_ r91 b0_ r111 r119 true w21) (
          Bm (!(r107.toList == (ByteArray.mk #[]).toList)) (
            sB4 script_b script_l script_c steady quiet b r103 m0 i o_ r91 b0_ r111 r119 true w21) (
            LdP ⟨b, 0, none⟩ w21 fun x127_0 =>
            LdP ⟨b, 1, none⟩ w21 fun x127_1 =>
            rloglaw_Steps.Call x127_0 x127_1 w21 fun r128 w22 =>
            sB4 script_b script_l script_c steady quiet b r103 m0 i o_ r91 b0_ r111 r119 (r128 != r105) w22))) (
        sB5 script_b script_l script_c steady quiet b x m0 i w2))) (
    Bm (decide (((script_l : Nat) : Int) < (4398046511104 : Int))) (
      R (-1 : Int) ((script_l : Nat) : Int) w) (
      R (-1 : Int) (4398046511104 : Int) w))) = kstep Try.prog 173 Try.f7.results.toList (Try.f7.body.getD .skip) (rloglaw_walk.RV R) (kvc Try.prog 173 Try.f7.results.toList (Try.f7.body.getD .skip) (rloglaw_walk.RV R) [([(0, [1, 1, 1, 1, 1, 1, 0, 1, 0, 0, 1, 0, 0, 1, 1, 0, 1, 1, 1, 1, 1, 1]), (1, [1]), (0, [1, 1, 1, 1, 1, 1, 0, 1, 0, 0, 1, 1]), (2, [1, 1, 1, 1, 1, 1, 0, 1, 0, 0]), (1, [0]), (0, [1, 1, 1, 1, 1, 1, 1])], fun σ w => dL (slotOf σ 0) fun script_b_ script_l_ script_c_ => dB (slotOf σ 1) fun steady_ => dB (slotOf σ 2) fun quiet_ => dK (slotOf σ 8) fun b_ => dP (slotOf σ 9) fun x_ => dP (slotOf σ 10) fun m0_ => dI .i64 (slotOf σ 11) fun i_ => dB (slotOf σ 85) fun t85_ => sB3 script_b_ script_l_ script_c_ steady_ quiet_ b_ x_ m0_ i_ t85_ w),
    ([(0, [1, 1, 1, 1, 1, 1, 0, 1, 0, 0, 1, 0, 0, 1, 1, 1, 1, 0, 1, 1, 1, 1, 1, 1, 1, 1, 1, 1, 1, 0, 1]), (0, [1, 1, 1, 1, 1, 1, 0, 1, 0, 0, 1, 0, 0, 1, 1, 1, 1, 0, 1, 1, 1, 1, 1, 1, 1, 1, 1, 1, 1, 1]), (1, [1]), (0, [1, 1, 1, 1, 1, 1, 0, 1, 0, 0, 1, 1]), (2, [1, 1, 1, 1, 1, 1, 0, 1, 0, 0]), (1, [0]), (0, [1, 1, 1, 1, 1, 1, 1])], fun σ w => dL (slotOf σ 0) fun script_b_ script_l_ script_c_ => dB (slotOf σ 1) fun steady_ => dB (slotOf σ 2) fun quiet_ => dK (slotOf σ 8) fun b_ => dP (slotOf σ 9) fun x_ => dP (slotOf σ 10) fun m0_ => dI .i64 (slotOf σ 11) fun i_ => dK (slotOf σ 12) fun o_ => dI .i64 (slotOf σ 14) fun n_ => dK (slotOf σ 15) fun b0_ => dI .i64 (slotOf σ 19) fun j_ => dB (slotOf σ 22) fun whole_ => dB (slotOf σ 131) fun t131_ => sB4 script_b_ script_l_ script_c_ steady_ quiet_ b_ x_ m0_ i_ o_ n_ b0_ j_ whole_ t131_ w),
    ([(0, [1, 1, 1, 1, 1, 1, 0, 1, 0, 0, 1, 1]), (2, [1, 1, 1, 1, 1, 1, 0, 1, 0, 0]), (1, [0]), (0, [1, 1, 1, 1, 1, 1, 1])], fun σ w => dL (slotOf σ 0) fun script_b_ script_l_ script_c_ => dB (slotOf σ 1) fun steady_ => dB (slotOf σ 2) fun quiet_ => dK (slotOf σ 8) fun b_ => dP (slotOf σ 9) fun x_ => dP (slotOf σ 10) fun m0_ => dI .i64 (slotOf σ 11) fun i_ => sB5 script_b_ script_l_ script_c_ steady_ quiet_ b_ x_ m0_ i_ w)] 2000) [(0, [1, 1, 1, 1, 1, 1, 0, 1, 0, 0, 0, 1]), (0, [1, 1, 1, 1, 1, 1, 0, 1, 0, 0, 1]), (2, [1, 1, 1, 1, 1, 1, 0, 1, 0, 0]), (1, [0]), (0, [1, 1, 1, 1, 1, 1, 1])] [(0, .slice script_b script_l script_c), (1, .bool steady), (2, .bool quiet), (8, .pointer (some ⟨b, 0, none⟩)), (9, .pointer x), (10, .pointer m0), (11, .int .i64 i), (47, .bool t47)] w := by kernel_rfl
theorem rloglaw_walk.B2_sound {R : Int → Int → World → Prop} {N1 : Option Addr → Nat → Nat → Bool → Bool → Nat → Option Addr → Option Addr → Int → World → Prop} (hN1 : ∀ script_b script_l script_c steady quiet b x m0 i w, N1 script_b script_l script_c steady quiet b x m0 i w → KW Try.prog 7 173 (rloglaw_walk.RV R) ([(0, [1, 1, 1, 1, 1, 1, 0, 1, 0, 0]), (2, [1, 1, 1, 1, 1, 1, 0, 1, 0, 0]), (1, [0]), (0, [1, 1, 1, 1, 1, 1, 1])].map (toItem (Try.f7.body.getD .skip))) [(0, .slice script_b script_l script_c), (1, .bool steady), (2, .bool quiet), (8, .pointer (some ⟨b, 0, none⟩)), (9, .pointer x), (10, .pointer m0), (11, .int .i64 i)] w) (script_b : Option Addr) (script_l script_c : Nat) (steady quiet : Bool) (b : Nat) (x m0 : Option Addr) (i : Int) (t47 : Bool) (w : World) (h : rloglaw_walk.B2 script_b script_l script_c steady quiet b x m0 i t47 w N1  R) :
    KW Try.prog 7 173 (rloglaw_walk.RV R) ([(0, [1, 1, 1, 1, 1, 1, 0, 1, 0, 0, 0, 1]), (0, [1, 1, 1, 1, 1, 1, 0, 1, 0, 0, 1]), (2, [1, 1, 1, 1, 1, 1, 0, 1, 0, 0]), (1, [0]), (0, [1, 1, 1, 1, 1, 1, 1])].map (toItem (Try.f7.body.getD .skip))) [(0, .slice script_b script_l script_c), (1, .bool steady), (2, .bool quiet), (8, .pointer (some ⟨b, 0, none⟩)), (9, .pointer x), (10, .pointer m0), (11, .int .i64 i), (47, .bool t47)] w := by
  exact block_spec Try.func7 Try.mixed (stops_cons (fun σ w h => by
      obtain ⟨script_b_, script_l_, script_c_, e0, h⟩ := dL_elim h
      obtain ⟨steady_, e1, h⟩ := dB_elim h
      obtain ⟨quiet_, e2, h⟩ := dB_elim h
      obtain ⟨b_, e3, h⟩ := dK_elim h
      obtain ⟨x_, e4, h⟩ := dP_elim h
      obtain ⟨m0_, e5, h⟩ := dP_elim h
      obtain ⟨i_, e6, h⟩ := dI_elim h
      obtain ⟨t85_, e7, h⟩ := dB_elim h
      exact (rloglaw_walk.B3_sound hN1 script_b_ script_l_ script_c_ steady_ quiet_ b_ x_ m0_ i_ t85_ w h).weaken (Sub.cons (Sub.cons (Sub.cons (Sub.cons (Sub.cons (Sub.cons (Sub.cons (Sub.cons (Sub.nil _) e7) e6) e5) e4) e3) e2) e1) e0)) (stops_cons (fun σ w h => by
      obtain ⟨script_b_, script_l_, script_c_, e0, h⟩ := dL_elim h
      obtain ⟨steady_, e1, h⟩ := dB_elim h
      obtain ⟨quiet_, e2, h⟩ := dB_elim h
      obtain ⟨b_, e3, h⟩ := dK_elim h
      obtain ⟨x_, e4, h⟩ := dP_elim h
      obtain ⟨m0_, e5, h⟩ := dP_elim h
      obtain ⟨i_, e6, h⟩ := dI_elim h
      obtain ⟨o_, e7, h⟩ := dK_elim h
      obtain ⟨n_, e8, h⟩ := dI_elim h
      obtain ⟨b0_, e9, h⟩ := dK_elim h
      obtain ⟨j_, e10, h⟩ := dI_elim h
      obtain ⟨whole_, e11, h⟩ := dB_elim h
      obtain ⟨t131_, e12, h⟩ := dB_elim h
      exact (rloglaw_walk.B4_sound hN1 script_b_ script_l_ script_c_ steady_ quiet_ b_ x_ m0_ i_ o_ n_ b0_ j_ whole_ t131_ w h).weaken (Sub.cons (Sub.cons (Sub.cons (Sub.cons (Sub.cons (Sub.cons (Sub.cons (Sub.cons (Sub.cons (Sub.cons (Sub.cons (Sub.cons (Sub.cons (Sub.nil _) e12) e11) e10) e9) e8) e7) e6) e5) e4) e3) e2) e1) e0)) (stops_cons (fun σ w h => by
      obtain ⟨script_b_, script_l_, script_c_, e0, h⟩ := dL_elim h
      obtain ⟨steady_, e1, h⟩ := dB_elim h
      obtain ⟨quiet_, e2, h⟩ := dB_elim h
      obtain ⟨b_, e3, h⟩ := dK_elim h
      obtain ⟨x_, e4, h⟩ := dP_elim h
      obtain ⟨m0_, e5, h⟩ := dP_elim h
      obtain ⟨i_, e6, h⟩ := dI_elim h
      exact (rloglaw_walk.B5_sound hN1 script_b_ script_l_ script_c_ steady_ quiet_ b_ x_ m0_ i_ w h).weaken (Sub.cons (Sub.cons (Sub.cons (Sub.cons (Sub.cons (Sub.cons (Sub.cons (Sub.nil _) e6) e5) e4) e3) e2) e1) e0)) stops_nil))) (Eq.mp (rloglaw_walk.B2_eq script_b script_l script_c steady quiet b x m0 i t47 w N1  R (fun script_b_ script_l_ script_c_ steady_ quiet_ b_ x_ m0_ i_ t85_ w => rloglaw_walk.B3 script_b_ script_l_ script_c_ steady_ quiet_ b_ x_ m0_ i_ t85_ w N1 R) (fun script_b_ script_l_ script_c_ steady_ quiet_ b_ x_ m0_ i_ o_ n_ b0_ j_ whole_ t131_ w => rloglaw_walk.B4 script_b_ script_l_ script_c_ steady_ quiet_ b_ x_ m0_ i_ o_ n_ b0_ j_ whole_ t131_ w N1 R) (fun script_b_ script_l_ script_c_ steady_ quiet_ b_ x_ m0_ i_ w => rloglaw_walk.B5 script_b_ script_l_ script_c_ steady_ quiet_ b_ x_ m0_ i_ w N1 R)) h)
def rloglaw_walk.L1b (script_b : Option Addr) (script_l script_c : Nat) (steady quiet : Bool) (b : Nat) (x m0 : Option Addr) (i : Int) (w : World)  (N1 : Option Addr → Nat → Nat → Bool → Bool → Nat → Option Addr → Option Addr → Int → World → Prop) (R : Int → Int → World → Prop) : Prop :=
  Bm (decide (i < ((script_l : Nat) : Int))) (
    rloglaw_walk.B2 script_b script_l script_c steady quiet b x m0 i (decide (i < (4398046511104 : Int))) w N1 R) (
    rloglaw_walk.B2 script_b script_l script_c steady quiet b x m0 i false w N1 R)
theorem rloglaw_walk.L1b_eq (script_b : Option Addr) (script_l script_c : Nat) (steady quiet : Bool) (b : Nat) (x m0 : Option Addr) (i : Int) (w : World)  (N1 : Option Addr → Nat → Nat → Bool → Bool → Nat → Option Addr → Option Addr → Int → World → Prop) (R : Int → Int → World → Prop) (sB2 : Option Addr → Nat → Nat → Bool → Bool → Nat → Option Addr → Option Addr → Int → Bool → World → Prop) :
    (
  Bm (decide (i < ((script_l : Nat) : Int))) (
    sB2 script_b script_l script_c steady quiet b x m0 i (decide (i < (4398046511104 : Int))) w) (
    sB2 script_b script_l script_c steady quiet b x m0 i false w)) = kstep Try.prog 173 Try.f7.results.toList (Try.f7.body.getD .skip) (rloglaw_walk.RV R) (kvc Try.prog 173 Try.f7.results.toList (Try.f7.body.getD .skip) (rloglaw_walk.RV R) [([(0, [1, 1, 1, 1, 1, 1, 0, 1, 0, 0, 0, 1]), (0, [1, 1, 1, 1, 1, 1, 0, 1, 0, 0, 1]), (2, [1, 1, 1, 1, 1, 1, 0, 1, 0, 0]), (1, [0]), (0, [1, 1, 1, 1, 1, 1, 1])], fun σ w => dL (slotOf σ 0) fun script_b_ script_l_ script_c_ => dB (slotOf σ 1) fun steady_ => dB (slotOf σ 2) fun quiet_ => dK (slotOf σ 8) fun b_ => dP (slotOf σ 9) fun x_ => dP (slotOf σ 10) fun m0_ => dI .i64 (slotOf σ 11) fun i_ => dB (slotOf σ 47) fun t47_ => sB2 script_b_ script_l_ script_c_ steady_ quiet_ b_ x_ m0_ i_ t47_ w)] 2000) [(0, [1, 1, 1, 1, 1, 1, 0, 1, 0, 0]), (2, [1, 1, 1, 1, 1, 1, 0, 1, 0, 0]), (1, [0]), (0, [1, 1, 1, 1, 1, 1, 1])] [(0, .slice script_b script_l script_c), (1, .bool steady), (2, .bool quiet), (8, .pointer (some ⟨b, 0, none⟩)), (9, .pointer x), (10, .pointer m0), (11, .int .i64 i)] w := by kernel_rfl
theorem rloglaw_walk.L1b_sound {R : Int → Int → World → Prop} {N1 : Option Addr → Nat → Nat → Bool → Bool → Nat → Option Addr → Option Addr → Int → World → Prop} (hN1 : ∀ script_b script_l script_c steady quiet b x m0 i w, N1 script_b script_l script_c steady quiet b x m0 i w → KW Try.prog 7 173 (rloglaw_walk.RV R) ([(0, [1, 1, 1, 1, 1, 1, 0, 1, 0, 0]), (2, [1, 1, 1, 1, 1, 1, 0, 1, 0, 0]), (1, [0]), (0, [1, 1, 1, 1, 1, 1, 1])].map (toItem (Try.f7.body.getD .skip))) [(0, .slice script_b script_l script_c), (1, .bool steady), (2, .bool quiet), (8, .pointer (some ⟨b, 0, none⟩)), (9, .pointer x), (10, .pointer m0), (11, .int .i64 i)] w) (script_b : Option Addr) (script_l script_c : Nat) (steady quiet : Bool) (b : Nat) (x m0 : Option Addr) (i : Int) (w : World) (h : rloglaw_walk.L1b script_b script_l script_c steady quiet b x m0 i w  N1 R) :
    KW Try.prog 7 173 (rloglaw_walk.RV R) ([(0, [1, 1, 1, 1, 1, 1, 0, 1, 0, 0]), (2, [1, 1, 1, 1, 1, 1, 0, 1, 0, 0]), (1, [0]), (0, [1, 1, 1, 1, 1, 1, 1])].map (toItem (Try.f7.body.getD .skip))) [(0, .slice script_b script_l script_c), (1, .bool steady), (2, .bool quiet), (8, .pointer (some ⟨b, 0, none⟩)), (9, .pointer x), (10, .pointer m0), (11, .int .i64 i)] w := by
  exact block_spec Try.func7 Try.mixed (stops_cons (fun σ w h => by
      obtain ⟨script_b_, script_l_, script_c_, e0, h⟩ := dL_elim h
      obtain ⟨steady_, e1, h⟩ := dB_elim h
      obtain ⟨quiet_, e2, h⟩ := dB_elim h
      obtain ⟨b_, e3, h⟩ := dK_elim h
      obtain ⟨x_, e4, h⟩ := dP_elim h
      obtain ⟨m0_, e5, h⟩ := dP_elim h
      obtain ⟨i_, e6, h⟩ := dI_elim h
      obtain ⟨t47_, e7, h⟩ := dB_elim h
      exact (rloglaw_walk.B2_sound hN1 script_b_ script_l_ script_c_ steady_ quiet_ b_ x_ m0_ i_ t47_ w h).weaken (Sub.cons (Sub.cons (Sub.cons (Sub.cons (Sub.cons (Sub.cons (Sub.cons (Sub.cons (Sub.nil _) e7) e6) e5) e4) e3) e2) e1) e0)) stops_nil) (Eq.mp (rloglaw_walk.L1b_eq script_b script_l script_c steady quiet b x m0 i w  N1 R (fun script_b_ script_l_ script_c_ steady_ quiet_ b_ x_ m0_ i_ t47_ w => rloglaw_walk.B2 script_b_ script_l_ script_c_ steady_ quiet_ b_ x_ m0_ i_ t47_ w N1 R)) h)
def rloglaw_walk.L1 (script_b : Option Addr) (script_l script_c : Nat) (steady quiet : Bool) (b : Nat) (x m0 : Option Addr) (i : Int) (w : World)  (R : Int → Int → World → Prop) : Prop :=
  ∃ (I : Nat → Option Addr → Nat → Nat → Bool → Bool → Nat → Option Addr → Option Addr → Int → World → Prop) (m : Nat), I m script_b script_l script_c steady quiet b x m0 i w ∧ ∀ m script_b script_l script_c steady quiet b x m0 i w, I m script_b script_l script_c steady quiet b x m0 i w → rloglaw_walk.L1b script_b script_l script_c steady quiet b x m0 i w  (fun script_b' script_l' script_c' steady' quiet' b' x' m0' i' w' => ∃ m', m' < m ∧ I m' script_b' script_l' script_c' steady' quiet' b' x' m0' i' w') R
theorem rloglaw_walk.L1_sound {R : Int → Int → World → Prop}  (script_b : Option Addr) (script_l script_c : Nat) (steady quiet : Bool) (b : Nat) (x m0 : Option Addr) (i : Int) (w : World) (h : rloglaw_walk.L1 script_b script_l script_c steady quiet b x m0 i w  R) :
    KW Try.prog 7 173 (rloglaw_walk.RV R) ([(0, [1, 1, 1, 1, 1, 1, 0, 1, 0, 0]), (2, [1, 1, 1, 1, 1, 1, 0, 1, 0, 0]), (1, [0]), (0, [1, 1, 1, 1, 1, 1, 1])].map (toItem (Try.f7.body.getD .skip))) [(0, .slice script_b script_l script_c), (1, .bool steady), (2, .bool quiet), (8, .pointer (some ⟨b, 0, none⟩)), (9, .pointer x), (10, .pointer m0), (11, .int .i64 i)] w := by
  obtain ⟨I, m, hBase, hr⟩ := h
  refine KW.loop (fun m σ w => ∃ (script_b : Option Addr) (script_l script_c : Nat) (steady quiet : Bool) (b : Nat) (x m0 : Option Addr) (i : Int), σ = [(0, .slice script_b script_l script_c), (1, .bool steady), (2, .bool quiet), (8, .pointer (some ⟨b, 0, none⟩)), (9, .pointer x), (10, .pointer m0), (11, .int .i64 i)] ∧ I m script_b script_l script_c steady quiet b x m0 i w) ?_ m _ w ⟨script_b, script_l, script_c, steady, quiet, b, x, m0, i, rfl, hBase⟩
  rintro m ih σ w ⟨script_b, script_l, script_c, steady, quiet, b, x, m0, i, rfl, hI⟩
  exact rloglaw_walk.L1b_sound  (N1 := fun script_b' script_l' script_c' steady' quiet' b' x' m0' i' w' => ∃ m', m' < m ∧ I m' script_b' script_l' script_c' steady' quiet' b' x' m0' i' w') (fun script_b' script_l' script_c' steady' quiet' b' x' m0' i' w' hx => by obtain ⟨m', hlt, hI'⟩ := hx; exact ih m' hlt _ w' ⟨script_b', script_l', script_c', steady', quiet', b', x', m0', i', rfl, hI'⟩) script_b script_l script_c steady quiet b x m0 i w (hr m script_b script_l script_c steady quiet b x m0 i w hI)
def rloglaw_walk.B1 (script_b : Option Addr) (script_l script_c : Nat) (steady quiet : Bool) (b : Nat) (x m0 : Option Addr) (t39 : Bool) (w : World)   (R : Int → Int → World → Prop) : Prop :=
  Bm t39 (
    R (0 : Int) (0 : Int) w) (
    rloglaw_walk.L1 script_b script_l script_c steady quiet b x m0 (0 : Int) w  R)
theorem rloglaw_walk.B1_eq (script_b : Option Addr) (script_l script_c : Nat) (steady quiet : Bool) (b : Nat) (x m0 : Option Addr) (t39 : Bool) (w : World)   (R : Int → Int → World → Prop) (sL1 : Option Addr → Nat → Nat → Bool → Bool → Nat → Option Addr → Option Addr → Int → World → Prop) :
    (
  Bm t39 (
    R (0 : Int) (0 : Int) w) (
    sL1 script_b script_l script_c steady quiet b x m0 (0 : Int) w)) = kstep Try.prog 173 Try.f7.results.toList (Try.f7.body.getD .skip) (rloglaw_walk.RV R) (kvc Try.prog 173 Try.f7.results.toList (Try.f7.body.getD .skip) (rloglaw_walk.RV R) [([(0, [1, 1, 1, 1, 1, 1, 0, 1, 0, 0]), (2, [1, 1, 1, 1, 1, 1, 0, 1, 0, 0]), (1, [0]), (0, [1, 1, 1, 1, 1, 1, 1])], fun σ w => dL (slotOf σ 0) fun script_b_ script_l_ script_c_ => dB (slotOf σ 1) fun steady_ => dB (slotOf σ 2) fun quiet_ => dK (slotOf σ 8) fun b_ => dP (slotOf σ 9) fun x_ => dP (slotOf σ 10) fun m0_ => dI .i64 (slotOf σ 11) fun i_ => sL1 script_b_ script_l_ script_c_ steady_ quiet_ b_ x_ m0_ i_ w)] 2000) [(0, [1, 1, 1, 1, 1, 0, 1]), (0, [1, 1, 1, 1, 1, 1])] [(0, .slice script_b script_l script_c), (1, .bool steady), (2, .bool quiet), (8, .pointer (some ⟨b, 0, none⟩)), (9, .pointer x), (10, .pointer m0), (39, .bool t39)] w := by kernel_rfl
theorem rloglaw_walk.B1_sound {R : Int → Int → World → Prop}  (script_b : Option Addr) (script_l script_c : Nat) (steady quiet : Bool) (b : Nat) (x m0 : Option Addr) (t39 : Bool) (w : World) (h : rloglaw_walk.B1 script_b script_l script_c steady quiet b x m0 t39 w   R) :
    KW Try.prog 7 173 (rloglaw_walk.RV R) ([(0, [1, 1, 1, 1, 1, 0, 1]), (0, [1, 1, 1, 1, 1, 1])].map (toItem (Try.f7.body.getD .skip))) [(0, .slice script_b script_l script_c), (1, .bool steady), (2, .bool quiet), (8, .pointer (some ⟨b, 0, none⟩)), (9, .pointer x), (10, .pointer m0), (39, .bool t39)] w := by
  exact block_spec Try.func7 Try.mixed (stops_cons (fun σ w h => by
      obtain ⟨script_b_, script_l_, script_c_, e0, h⟩ := dL_elim h
      obtain ⟨steady_, e1, h⟩ := dB_elim h
      obtain ⟨quiet_, e2, h⟩ := dB_elim h
      obtain ⟨b_, e3, h⟩ := dK_elim h
      obtain ⟨x_, e4, h⟩ := dP_elim h
      obtain ⟨m0_, e5, h⟩ := dP_elim h
      obtain ⟨i_, e6, h⟩ := dI_elim h
      exact (rloglaw_walk.L1_sound  script_b_ script_l_ script_c_ steady_ quiet_ b_ x_ m0_ i_ w h).weaken (Sub.cons (Sub.cons (Sub.cons (Sub.cons (Sub.cons (Sub.cons (Sub.cons (Sub.nil _) e6) e5) e4) e3) e2) e1) e0)) stops_nil) (Eq.mp (rloglaw_walk.B1_eq script_b script_l script_c steady quiet b x m0 t39 w   R (fun script_b_ script_l_ script_c_ steady_ quiet_ b_ x_ m0_ i_ w => rloglaw_walk.L1 script_b_ script_l_ script_c_ steady_ quiet_ b_ x_ m0_ i_ w  R)) h)
def rloglaw_walk.B0 (script_b : Option Addr) (script_l script_c : Nat) (steady quiet : Bool) (w : World)   (R : Int → Int → World → Prop) : Prop :=
  rloglaw_Ground.Call  w fun r23_0 r23_1 w1 =>
  New (.cells #[.pointer none, .pointer none] 30) w1 fun b_ w2 =>
  Sts [.pointer r23_0, .pointer r23_1] ⟨b_, 0, none⟩ 0 w2 fun w3 =>
  LdP ⟨b_, 1, none⟩ w3 fun x25 =>
  rlog_New.Call x25 w3 fun r26 w4 =>
  rlogm_New.Call  w4 fun r27 w5 =>
  LdP ⟨b_, 0, none⟩ w5 fun x28_0 =>
  LdP ⟨b_, 1, none⟩ w5 fun x28_1 =>
  rloglaw_Steps.Call x28_0 x28_1 w5 fun r29 w6 =>
  Bm (r29 != (0 : Int)) (
    R (0 : Int) (0 : Int) w6) (
    Bm (!quiet) (
      LdP ⟨b_, 0, none⟩ w6 fun x36_0 =>
      LdP ⟨b_, 1, none⟩ w6 fun x36_1 =>
      rloglaw_Seen.Call r26 r27 x36_0 x36_1 (0 : Int) w6 fun r37 w7 =>
      rloglaw_walk.B1 script_b script_l script_c steady quiet b_ r26 r27 (!r37) w7  R) (
      rloglaw_walk.B1 script_b script_l script_c steady quiet b_ r26 r27 false w6  R))
theorem rloglaw_walk.B0_eq (script_b : Option Addr) (script_l script_c : Nat) (steady quiet : Bool) (w : World)   (R : Int → Int → World → Prop) (sB1 : Option Addr → Nat → Nat → Bool → Bool → Nat → Option Addr → Option Addr → Bool → World → Prop) :
    (
  rloglaw_Ground.Call  w fun r23_0 r23_1 w1 =>
  New (.cells #[.pointer none, .pointer none] 30) w1 fun b_ w2 =>
  Sts [.pointer r23_0, .pointer r23_1] ⟨b_, 0, none⟩ 0 w2 fun w3 =>
  LdP ⟨b_, 1, none⟩ w3 fun x25 =>
  rlog_New.Call x25 w3 fun r26 w4 =>
  rlogm_New.Call  w4 fun r27 w5 =>
  LdP ⟨b_, 0, none⟩ w5 fun x28_0 =>
  LdP ⟨b_, 1, none⟩ w5 fun x28_1 =>
  rloglaw_Steps.Call x28_0 x28_1 w5 fun r29 w6 =>
  Bm (r29 != (0 : Int)) (
    R (0 : Int) (0 : Int) w6) (
    Bm (!quiet) (
      LdP ⟨b_, 0, none⟩ w6 fun x36_0 =>
      LdP ⟨b_, 1, none⟩ w6 fun x36_1 =>
      rloglaw_Seen.Call r26 r27 x36_0 x36_1 (0 : Int) w6 fun r37 w7 =>
      sB1 script_b script_l script_c steady quiet b_ r26 r27 (!r37) w7) (
      sB1 script_b script_l script_c steady quiet b_ r26 r27 false w6))) = kstep Try.prog 173 Try.f7.results.toList (Try.f7.body.getD .skip) (rloglaw_walk.RV R) (kvc Try.prog 173 Try.f7.results.toList (Try.f7.body.getD .skip) (rloglaw_walk.RV R) [([(0, [1, 1, 1, 1, 1, 0, 1]), (0, [1, 1, 1, 1, 1, 1])], fun σ w => dL (slotOf σ 0) fun script_b_ script_l_ script_c_ => dB (slotOf σ 1) fun steady_ => dB (slotOf σ 2) fun quiet_ => dK (slotOf σ 8) fun b_ => dP (slotOf σ 9) fun x_ => dP (slotOf σ 10) fun m0_ => dB (slotOf σ 39) fun t39_ => sB1 script_b_ script_l_ script_c_ steady_ quiet_ b_ x_ m0_ t39_ w)] 2000) [(0, [])] [(0, .slice script_b script_l script_c), (1, .bool steady), (2, .bool quiet)] w := by kernel_rfl
theorem rloglaw_walk.B0_sound {R : Int → Int → World → Prop}  (script_b : Option Addr) (script_l script_c : Nat) (steady quiet : Bool) (w : World) (h : rloglaw_walk.B0 script_b script_l script_c steady quiet w   R) :
    KW Try.prog 7 173 (rloglaw_walk.RV R) ([(0, [])].map (toItem (Try.f7.body.getD .skip))) [(0, .slice script_b script_l script_c), (1, .bool steady), (2, .bool quiet)] w := by
  exact block_spec Try.func7 Try.mixed (stops_cons (fun σ w h => by
      obtain ⟨script_b_, script_l_, script_c_, e0, h⟩ := dL_elim h
      obtain ⟨steady_, e1, h⟩ := dB_elim h
      obtain ⟨quiet_, e2, h⟩ := dB_elim h
      obtain ⟨b_, e3, h⟩ := dK_elim h
      obtain ⟨x_, e4, h⟩ := dP_elim h
      obtain ⟨m0_, e5, h⟩ := dP_elim h
      obtain ⟨t39_, e6, h⟩ := dB_elim h
      exact (rloglaw_walk.B1_sound  script_b_ script_l_ script_c_ steady_ quiet_ b_ x_ m0_ t39_ w h).weaken (Sub.cons (Sub.cons (Sub.cons (Sub.cons (Sub.cons (Sub.cons (Sub.cons (Sub.nil _) e6) e5) e4) e3) e2) e1) e0)) stops_nil) (Eq.mp (rloglaw_walk.B0_eq script_b script_l script_c steady quiet w   R (fun script_b_ script_l_ script_c_ steady_ quiet_ b_ x_ m0_ t39_ w => rloglaw_walk.B1 script_b_ script_l_ script_c_ steady_ quiet_ b_ x_ m0_ t39_ w  R)) h)
theorem rloglaw_walk.sound (script_b : Option Addr) (script_l script_c : Nat) (steady quiet : Bool) (w : World) (R : Int → Int → World → Prop) (h : rloglaw_walk.B0 script_b script_l script_c steady quiet w R) : rloglaw_walk.Call script_b script_l script_c steady quiet w R := by
  have hc := calls_of_block (args := #[.slice script_b script_l script_c, .bool steady, .bool quiet]) Try.func7 (body := (Try.f7.body.getD .skip)) (by kernel_rfl) (by kernel_rfl) (args_slot _) (rloglaw_walk.B0_sound script_b script_l script_c steady quiet w h)
  exact hc.mono fun e w' he => by
    obtain ⟨v, rfl, hv⟩ := he
    exact rloglaw_walk.RV_elim hv
end Go.Proofs.Qxb6500431a
