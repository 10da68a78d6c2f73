import Derived.Test.Qxb6500430aGreatSig
set_option maxRecDepth 100000
set_option linter.unusedVariables false
open Go.Vc
namespace Go.Proofs.Qxb6500430aGreat
def nodelaw_Refines.B0 (script_b : Option Addr) (script_l script_c : Nat) (w : World)   (R : Bool → World → Prop) : Prop :=
  nodelaw_RefinesUpTo.Call script_b script_l script_c w fun r4 w1 =>
  R (r4 == (-1 : Int)) w1
theorem nodelaw_Refines.B0_eq (script_b : Option Addr) (script_l script_c : Nat) (w : World)   (R : Bool → World → Prop)  :
    (
  nodelaw_RefinesUpTo.Call script_b script_l script_c w fun r4 w1 =>
  R (r4 == (-1 : Int)) w1) = kstep Tryz.prog 6 Tryz.f3.results.toList (Tryz.f3.body.getD .skip) (nodelaw_Refines.RV R) (kvc Tryz.prog 6 Tryz.f3.results.toList (Tryz.f3.body.getD .skip) (nodelaw_Refines.RV R) [] 2000) [(0, [])] [(0, .slice script_b script_l script_c)] w := by kernel_rfl
theorem nodelaw_Refines.B0_sound {R : Bool → World → Prop}  (script_b : Option Addr) (script_l script_c : Nat) (w : World) (h : nodelaw_Refines.B0 script_b script_l script_c w   R) :
    KW Tryz.prog 3 6 (nodelaw_Refines.RV R) ([(0, [])].map (toItem (Tryz.f3.body.getD .skip))) [(0, .slice script_b script_l script_c)] w := by
  exact block_spec Tryz.func3 Tryz.mixed stops_nil (Eq.mp (nodelaw_Refines.B0_eq script_b script_l script_c w   R ) h)
theorem nodelaw_Refines.sound (script_b : Option Addr) (script_l script_c : Nat) (w : World) (R : Bool → World → Prop) (h : nodelaw_Refines.B0 script_b script_l script_c w R) : nodelaw_Refines.Call script_b script_l script_c w R := by
  have hc := calls_of_block (args := #[.slice script_b script_l script_c]) Tryz.func3 (body := (Tryz.f3.body.getD .skip)) (by kernel_rfl) (by kernel_rfl) (args_slot _) (nodelaw_Refines.B0_sound script_b script_l script_c w h)
  exact hc.mono fun e w' he => by
    obtain ⟨v, rfl, hv⟩ := he
    exact nodelaw_Refines.RV_elim hv
def nodelaw_RefinesSteady.B0 (script_b : Option Addr) (script_l script_c : Nat) (w : World)   (R : Bool → World → Prop) : Prop :=
  nodelaw_walk.Call script_b script_l script_c true false w fun r7_0 r7_1 w1 =>
  R (r7_0 == (-1 : Int)) w1
theorem nodelaw_RefinesSteady.B0_eq (script_b : Option Addr) (script_l script_c : Nat) (w : World)   (R : Bool → World → Prop)  :
    (
  nodelaw_walk.Call script_b script_l script_c true false w fun r7_0 r7_1 w1 =>
  R (r7_0 == (-1 : Int)) w1) = kstep Tryz.prog 12 Tryz.f4.results.toList (Tryz.f4.body.getD .skip) (nodelaw_RefinesSteady.RV R) (kvc Tryz.prog 12 Tryz.f4.results.toList (Tryz.f4.body.getD .skip) (nodelaw_RefinesSteady.RV R) [] 2000) [(0, [])] [(0, .slice script_b script_l script_c)] w := by kernel_rfl
theorem nodelaw_RefinesSteady.B0_sound {R : Bool → World → Prop}  (script_b : Option Addr) (script_l script_c : Nat) (w : World) (h : nodelaw_RefinesSteady.B0 script_b script_l script_c w   R) :
    KW Tryz.prog 4 12 (nodelaw_RefinesSteady.RV R) ([(0, [])].map (toItem (Tryz.f4.body.getD .skip))) [(0, .slice script_b script_l script_c)] w := by
  exact block_spec Tryz.func4 Tryz.mixed stops_nil (Eq.mp (nodelaw_RefinesSteady.B0_eq script_b script_l script_c w   R ) h)
theorem nodelaw_RefinesSteady.sound (script_b : Option Addr) (script_l script_c : Nat) (w : World) (R : Bool → World → Prop) (h : nodelaw_RefinesSteady.B0 script_b script_l script_c w R) : nodelaw_RefinesSteady.Call script_b script_l script_c w R := by
  have hc := calls_of_block (args := #[.slice script_b script_l script_c]) Tryz.func4 (body := (Tryz.f4.body.getD .skip)) (by kernel_rfl) (by kernel_rfl) (args_slot _) (nodelaw_RefinesSteady.B0_sound script_b script_l script_c w h)
  exact hc.mono fun e w' he => by
    obtain ⟨v, rfl, hv⟩ := he
    exact nodelaw_RefinesSteady.RV_elim hv
def nodelaw_RefinesQuiet.B0 (script_b : Option Addr) (script_l script_c : Nat) (w : World)   (R : Bool → World → Prop) : Prop :=
  nodelaw_RefinesQuietUpTo.Call script_b script_l script_c w fun r4 w1 =>
  R (r4 == (-1 : Int)) w1
theorem nodelaw_RefinesQuiet.B0_eq (script_b : Option Addr) (script_l script_c : Nat) (w : World)   (R : Bool → World → Prop)  :
    (
  nodelaw_RefinesQuietUpTo.Call script_b script_l script_c w fun r4 w1 =>
  R (r4 == (-1 : Int)) w1) = kstep Tryz.prog 6 Tryz.f5.results.toList (Tryz.f5.body.getD .skip) (nodelaw_RefinesQuiet.RV R) (kvc Tryz.prog 6 Tryz.f5.results.toList (Tryz.f5.body.getD .skip) (nodelaw_RefinesQuiet.RV R) [] 2000) [(0, [])] [(0, .slice script_b script_l script_c)] w := by kernel_rfl
theorem nodelaw_RefinesQuiet.B0_sound {R : Bool → World → Prop}  (script_b : Option Addr) (script_l script_c : Nat) (w : World) (h : nodelaw_RefinesQuiet.B0 script_b script_l script_c w   R) :
    KW Tryz.prog 5 6 (nodelaw_RefinesQuiet.RV R) ([(0, [])].map (toItem (Tryz.f5.body.getD .skip))) [(0, .slice script_b script_l script_c)] w := by
  exact block_spec Tryz.func5 Tryz.mixed stops_nil (Eq.mp (nodelaw_RefinesQuiet.B0_eq script_b script_l script_c w   R ) h)
theorem nodelaw_RefinesQuiet.sound (script_b : Option Addr) (script_l script_c : Nat) (w : World) (R : Bool → World → Prop) (h : nodelaw_RefinesQuiet.B0 script_b script_l script_c w R) : nodelaw_RefinesQuiet.Call script_b script_l script_c w R := by
  have hc := calls_of_block (args := #[.slice script_b script_l script_c]) Tryz.func5 (body := (Tryz.f5.body.getD .skip)) (by kernel_rfl) (by kernel_rfl) (args_slot _) (nodelaw_RefinesQuiet.B0_sound script_b script_l script_c w h)
  exact hc.mono fun e w' he => by
    obtain ⟨v, rfl, hv⟩ := he
    exact nodelaw_RefinesQuiet.RV_elim hv
def nodelaw_RefinesUpTo.B0 (script_b : Option Addr) (script_l script_c : Nat) (w : World)   (R : Int → World → Prop) : Prop :=
  nodelaw_walk.Call script_b script_l script_c false false w fun r7_0 r7_1 w1 =>
  R r7_0 w1
theorem nodelaw_RefinesUpTo.B0_eq (script_b : Option Addr) (script_l script_c : Nat) (w : World)   (R : Int → World → Prop)  :
    (
  nodelaw_walk.Call script_b script_l script_c false false w fun r7_0 r7_1 w1 =>
  R r7_0 w1) = kstep Tryz.prog 11 Tryz.f6.results.toList (Tryz.f6.body.getD .skip) (nodelaw_RefinesUpTo.RV R) (kvc Tryz.prog 11 Tryz.f6.results.toList (Tryz.f6.body.getD .skip) (nodelaw_RefinesUpTo.RV R) [] 2000) [(0, [])] [(0, .slice script_b script_l script_c)] w := by kernel_rfl
theorem nodelaw_RefinesUpTo.B0_sound {R : Int → World → Prop}  (script_b : Option Addr) (script_l script_c : Nat) (w : World) (h : nodelaw_RefinesUpTo.B0 script_b script_l script_c w   R) :
    KW Tryz.prog 6 11 (nodelaw_RefinesUpTo.RV R) ([(0, [])].map (toItem (Tryz.f6.body.getD .skip))) [(0, .slice script_b script_l script_c)] w := by
  exact block_spec Tryz.func6 Tryz.mixed stops_nil (Eq.mp (nodelaw_RefinesUpTo.B0_eq script_b script_l script_c w   R ) h)
theorem nodelaw_RefinesUpTo.sound (script_b : Option Addr) (script_l script_c : Nat) (w : World) (R : Int → World → Prop) (h : nodelaw_RefinesUpTo.B0 script_b script_l script_c w R) : nodelaw_RefinesUpTo.Call script_b script_l script_c w R := by
  have hc := calls_of_block (args := #[.slice script_b script_l script_c]) Tryz.func6 (body := (Tryz.f6.body.getD .skip)) (by kernel_rfl) (by kernel_rfl) (args_slot _) (nodelaw_RefinesUpTo.B0_sound script_b script_l script_c w h)
  exact hc.mono fun e w' he => by
    obtain ⟨v, rfl, hv⟩ := he
    exact nodelaw_RefinesUpTo.RV_elim hv
def nodelaw_walk.B6 (script_b : Option Addr) (script_l script_c : Nat) (steady quiet : Bool) (b : Nat) (x m0 : Option Addr) (was wasm : Nat) (mine_b : Option Addr) (mine_l mine_c : Nat) (i : Int) (w : World) (N1 : Option Addr → Nat → Nat → Bool → Bool → Nat → Option Addr → Option Addr → Nat → Nat → Option Addr → Nat → Nat → Int → World → Prop)  (R : Int → Int → World → Prop) : Prop :=
  N1 script_b script_l script_c steady quiet b x m0 was wasm mine_b mine_l mine_c (IntKind.i64.wrap (i + (1 : Int))) w
theorem nodelaw_walk.B6_eq (script_b : Option Addr) (script_l script_c : Nat) (steady quiet : Bool) (b : Nat) (x m0 : Option Addr) (was wasm : Nat) (mine_b : Option Addr) (mine_l mine_c : Nat) (i : Int) (w : World) (N1 : Option Addr → Nat → Nat → Bool → Bool → Nat → Option Addr → Option Addr → Nat → Nat → Option Addr → Nat → Nat → Int → World → Prop)  (R : Int → Int → World → Prop)  :
    (
  N1 script_b script_l script_c steady quiet b x m0 was wasm mine_b mine_l mine_c (IntKind.i64.wrap (i + (1 : Int))) w) = kstep Tryz.prog 273 Tryz.f7.results.toList (Tryz.f7.body.getD .skip) (nodelaw_walk.RV R) (kvc Tryz.prog 273 Tryz.f7.results.toList (Tryz.f7.body.getD .skip) (nodelaw_walk.RV R) [([(0, [1, 1, 1, 1, 1, 1, 1, 1, 1, 0, 1, 0, 0]), (2, [1, 1, 1, 1, 1, 1, 1, 1, 1, 0, 1, 0, 0]), (1, [0]), (0, [1, 1, 1, 1, 1, 1, 1, 1, 1, 1])], fun σ w => dL (slotOf σ 0) fun script_b_ script_l_ script_c_ => dB (slotOf σ 1) fun steady_ => dB (slotOf σ 2) fun quiet_ => dK (slotOf σ 8) fun b_ => dP (slotOf σ 10) fun x_ => dP (slotOf σ 11) fun m0_ => dK (slotOf σ 12) fun was_ => dK (slotOf σ 13) fun wasm_ => dL (slotOf σ 14) fun mine_b_ mine_l_ mine_c_ => dI .i64 (slotOf σ 15) fun i_ => N1 script_b_ script_l_ script_c_ steady_ quiet_ b_ x_ m0_ was_ wasm_ mine_b_ mine_l_ mine_c_ i_ w)] 2000) [(0, [1, 1, 1, 1, 1, 1, 1, 1, 1, 0, 1, 0, 0, 1, 1]), (2, [1, 1, 1, 1, 1, 1, 1, 1, 1, 0, 1, 0, 0]), (1, [0]), (0, [1, 1, 1, 1, 1, 1, 1, 1, 1, 1])] [(0, .slice script_b script_l script_c), (1, .bool steady), (2, .bool quiet), (8, .pointer (some ⟨b, 0, none⟩)), (10, .pointer x), (11, .pointer m0), (12, .pointer (some ⟨was, 0, none⟩)), (13, .pointer (some ⟨wasm, 0, none⟩)), (14, .slice mine_b mine_l mine_c), (15, .int .i64 i)] w := by kernel_rfl
theorem nodelaw_walk.B6_sound {R : Int → Int → World → Prop} {N1 : Option Addr → Nat → Nat → Bool → Bool → Nat → Option Addr → Option Addr → Nat → Nat → Option Addr → Nat → Nat → Int → World → Prop} (hN1 : ∀ script_b script_l script_c steady quiet b x m0 was wasm mine_b mine_l mine_c i w, N1 script_b script_l script_c steady quiet b x m0 was wasm mine_b mine_l mine_c i w → KW Tryz.prog 7 273 (nodelaw_walk.RV R) ([(0, [1, 1, 1, 1, 1, 1, 1, 1, 1, 0, 1, 0, 0]), (2, [1, 1, 1, 1, 1, 1, 1, 1, 1, 0, 1, 0, 0]), (1, [0]), (0, [1, 1, 1, 1, 1, 1, 1, 1, 1, 1])].map (toItem (Tryz.f7.body.getD .skip))) [(0, .slice script_b script_l script_c), (1, .bool steady), (2, .bool quiet), (8, .pointer (some ⟨b, 0, none⟩)), (10, .pointer x), (11, .pointer m0), (12, .pointer (some ⟨was, 0, none⟩)), (13, .pointer (some ⟨wasm, 0, none⟩)), (14, .slice mine_b mine_l mine_c), (15, .int .i64 i)] w) (script_b : Option Addr) (script_l script_c : Nat) (steady quiet : Bool) (b : Nat) (x m0 : Option Addr) (was wasm : Nat) (mine_b : Option Addr) (mine_l mine_c : Nat) (i : Int) (w : World) (h : nodelaw_walk.B6 script_b script_l script_c steady quiet b x m0 was wasm mine_b mine_l mine_c i w N1  R) :
    KW Tryz.prog 7 273 (nodelaw_walk.RV R) ([(0, [1, 1, 1, 1, 1, 1, 1, 1, 1, 0, 1, 0, 0, 1, 1]), (2, [1, 1, 1, 1, 1, 1, 1, 1, 1, 0, 1, 0, 0]), (1, [0]), (0, [1, 1, 1, 1, 1, 1, 1, 1, 1, 1])].map (toItem (Tryz.f7.body.getD .skip))) [(0, .slice script_b script_l script_c), (1, .bool steady), (2, .bool quiet), (8, .pointer (some ⟨b, 0, none⟩)), (10, .pointer x), (11, .pointer m0), (12, .pointer (some ⟨was, 0, none⟩)), (13, .pointer (some ⟨wasm, 0, none⟩)), (14, .slice mine_b mine_l mine_c), (15, .int .i64 i)] w := by
  exact block_spec Tryz.func7 Tryz.mixed (stops_cons (fun σ w h => by
      obtain ⟨script_b_, script_l_, script_c_, e0, h⟩ := dL_elim h
      obtain ⟨steady_, e1, h⟩ := dB_elim h
      obtain ⟨quiet_, e2, h⟩ := dB_elim h
      obtain ⟨b_, e3, h⟩ := dK_elim h
      obtain ⟨x_, e4, h⟩ := dP_elim h
      obtain ⟨m0_, e5, h⟩ := dP_elim h
      obtain ⟨was_, e6, h⟩ := dK_elim h
      obtain ⟨wasm_, e7, h⟩ := dK_elim h
      obtain ⟨mine_b_, mine_l_, mine_c_, e8, h⟩ := dL_elim h
      obtain ⟨i_, e9, h⟩ := dI_elim h
      exact (hN1 script_b_ script_l_ script_c_ steady_ quiet_ b_ x_ m0_ was_ wasm_ mine_b_ mine_l_ mine_c_ i_ w h).weaken (Sub.cons (Sub.cons (Sub.cons (Sub.cons (Sub.cons (Sub.cons (Sub.cons (Sub.cons (Sub.cons (Sub.cons (Sub.nil _) e9) e8) e7) e6) e5) e4) e3) e2) e1) e0)) stops_nil) (Eq.mp (nodelaw_walk.B6_eq script_b script_l script_c steady quiet b x m0 was wasm mine_b mine_l mine_c i w N1  R ) h)
def nodelaw_walk.B3 (script_b : Option Addr) (script_l script_c : Nat) (steady quiet : Bool) (b : Nat) (x m0 : Option Addr) (was wasm : Nat) (mine_b : Option Addr) (mine_l mine_c : Nat) (i : Int) (t91 : Bool) (w : World) (N1 : Option Addr → Nat → Nat → Bool → Bool → Nat → Option Addr → Option Addr → Nat → Nat → Option Addr → Nat → Nat → Int → World → Prop)  (R : Int → Int → World → Prop) : Prop :=
  Bm t91 (
    R i i w) (
    nodelaw_walk.B6 script_b script_l script_c steady quiet b x m0 was wasm mine_b mine_l mine_c i w N1 R)
theorem nodelaw_walk.B3_eq (script_b : Option Addr) (script_l script_c : Nat) (steady quiet : Bool) (b : Nat) (x m0 : Option Addr) (was wasm : Nat) (mine_b : Option Addr) (mine_l mine_c : Nat) (i : Int) (t91 : Bool) (w : World) (N1 : Option Addr → Nat → Nat → Bool → Bool → Nat → Option Addr → Option Addr → Nat → Nat → Option Addr → Nat → Nat → Int → World → Prop)  (R : Int → Int → World → Prop) (sB6 : Option Addr → Nat → Nat → Bool → Bool → Nat → Option Addr → Option Addr → Nat → Nat → Option Addr → Nat → Nat → Int → World → Prop) :
    (
  Bm t91 (
    R i i w) (
    sB6 script_b script_l script_c steady quiet b x m0 was wasm mine_b mine_l mine_c i w)) = kstep Tryz.prog 273 Tryz.f7.results.toList (Tryz.f7.body.getD .skip) (nodelaw_walk.RV R) (kvc Tryz.prog 273 Tryz.f7.results.toList (Tryz.f7.body.getD .skip) (nodelaw_walk.RV R) [([(0, [1, 1, 1, 1, 1, 1, 1, 1, 1, 0, 1, 0, 0, 1, 1]), (2, [1, 1, 1, 1, 1, 1, 1, 1, 1, 0, 1, 0, 0]), (1, [0]), (0, [1, 1, 1, 1, 1, 1, 1, 1, 1, 1])], fun σ w => dL (slotOf σ 0) fun script_b_ script_l_ script_c_ => dB (slotOf σ 1) fun steady_ => dB (slotOf σ 2) fun quiet_ => dK (slotOf σ 8) fun b_ => dP (slotOf σ 10) fun x_ => dP (slotOf σ 11) fun m0_ => dK (slotOf σ 12) fun was_ => dK (slotOf σ 13) fun wasm_ => dL (slotOf σ 14) fun mine_b_ mine_l_ mine_c_ => dI .i64 (slotOf σ 15) fun i_ => sB6 script_b_ script_l_ script_c_ steady_ quiet_ b_ x_ m0_ was_ wasm_ mine_b_ mine_l_ mine_c_ i_ w)] 2000) [(0, [1, 1, 1, 1, 1, 1, 1, 1, 1, 0, 1, 0, 0, 1, 0, 0, 1, 1, 0, 1, 1, 1, 1, 1, 1]), (1, [1]), (0, [1, 1, 1, 1, 1, 1, 1, 1, 1, 0, 1, 0, 0, 1, 1]), (2, [1, 1, 1, 1, 1, 1, 1, 1, 1, 0, 1, 0, 0]), (1, [0]), (0, [1, 1, 1, 1, 1, 1, 1, 1, 1, 1])] [(0, .slice script_b script_l script_c), (1, .bool steady), (2, .bool quiet), (8, .pointer (some ⟨b, 0, none⟩)), (10, .pointer x), (11, .pointer m0), (12, .pointer (some ⟨was, 0, none⟩)), (13, .pointer (some ⟨wasm, 0, none⟩)), (14, .slice mine_b mine_l mine_c), (15, .int .i64 i), (91, .bool t91)] w := by kernel_rfl
theorem nodelaw_walk.B3_sound {R : Int → Int → World → Prop} {N1 : Option Addr → Nat → Nat → Bool → Bool → Nat → Option Addr → Option Addr → Nat → Nat → Option Addr → Nat → Nat → Int → World → Prop} (hN1 : ∀ script_b script_l script_c steady quiet b x m0 was wasm mine_b mine_l mine_c i w, N1 script_b script_l script_c steady quiet b x m0 was wasm mine_b mine_l mine_c i w → KW Tryz.prog 7 273 (nodelaw_walk.RV R) ([(0, [1, 1, 1, 1, 1, 1, 1, 1, 1, 0, 1, 0, 0]), (2, [1, 1, 1, 1, 1, 1, 1, 1, 1, 0, 1, 0, 0]), (1, [0]), (0, [1, 1, 1, 1, 1, 1, 1, 1, 1, 1])].map (toItem (Tryz.f7.body.getD .skip))) [(0, .slice script_b script_l script_c), (1, .bool steady), (2, .bool quiet), (8, .pointer (some ⟨b, 0, none⟩)), (10, .pointer x), (11, .pointer m0), (12, .pointer (some ⟨was, 0, none⟩)), (13, .pointer (some ⟨wasm, 0, none⟩)), (14, .slice mine_b mine_l mine_c), (15, .int .i64 i)] w) (script_b : Option Addr) (script_l script_c : Nat) (steady quiet : Bool) (b : Nat) (x m0 : Option Addr) (was wasm : Nat) (mine_b : Option Addr) (mine_l mine_c : Nat) (i : Int) (t91 : Bool) (w : World) (h : nodelaw_walk.B3 script_b script_l script_c steady quiet b x m0 was wasm mine_b mine_l mine_c i t91 w N1  R) :
    KW Tryz.prog 7 273 (nodelaw_walk.RV R) ([(0, [1, 1, 1, 1, 1, 1, 1, 1, 1, 0, 1, 0, 0, 1, 0, 0, 1, 1, 0, 1, 1, 1, 1, 1, 1]), (1, [1]), (0, [1, 1, 1, 1, 1, 1, 1, 1, 1, 0, 1, 0, 0, 1, 1]), (2, [1, 1, 1, 1, 1, 1, 1, 1, 1, 0, 1, 0, 0]), (1, [0]), (0, [1, 1, 1, 1, 1, 1, 1, 1, 1, 1])].map (toItem (Tryz.f7.body.getD .skip))) [(0, .slice script_b script_l script_c), (1, .bool steady), (2, .bool quiet), (8, .pointer (some ⟨b, 0, none⟩)), (10, .pointer x), (11, .pointer m0), (12, .pointer (some ⟨was, 0, none⟩)), (13, .pointer (some ⟨wasm, 0, none⟩)), (14, .slice mine_b mine_l mine_c), (15, .int .i64 i), (91, .bool t91)] w := by
  exact block_spec Tryz.func7 Tryz.mixed (stops_cons (fun σ w h => by
      obtain ⟨script_b_, script_l_, script_c_, e0, h⟩ := dL_elim h
      obtain ⟨steady_, e1, h⟩ := dB_elim h
      obtain ⟨quiet_, e2, h⟩ := dB_elim h
      obtain ⟨b_, e3, h⟩ := dK_elim h
      obtain ⟨x_, e4, h⟩ := dP_elim h
      obtain ⟨m0_, e5, h⟩ := dP_elim h
      obtain ⟨was_, e6, h⟩ := dK_elim h
      obtain ⟨wasm_, e7, h⟩ := dK_elim h
      obtain ⟨mine_b_, mine_l_, mine_c_, e8, h⟩ := dL_elim h
      obtain ⟨i_, e9, h⟩ := dI_elim h
      exact (nodelaw_walk.B6_sound hN1 script_b_ script_l_ script_c_ steady_ quiet_ b_ x_ m0_ was_ wasm_ mine_b_ mine_l_ mine_c_ i_ w h).weaken (Sub.cons (Sub.cons (Sub.cons (Sub.cons (Sub.cons (Sub.cons (Sub.cons (Sub.cons (Sub.cons (Sub.cons (Sub.nil _) e9) e8) e7) e6) e5) e4) e3) e2) e1) e0)) stops_nil) (Eq.mp (nodelaw_walk.B3_eq script_b script_l script_c steady quiet b x m0 was wasm mine_b mine_l mine_c i t91 w N1  R (fun script_b_ script_l_ script_c_ steady_ quiet_ b_ x_ m0_ was_ wasm_ mine_b_ mine_l_ mine_c_ i_ w => nodelaw_walk.B6 script_b_ script_l_ script_c_ steady_ quiet_ b_ x_ m0_ was_ wasm_ mine_b_ mine_l_ mine_c_ i_ w N1 R)) h)
def nodelaw_walk.B7 (script_b : Option Addr) (script_l script_c : Nat) (steady quiet : Bool) (b : Nat) (x m0 : Option Addr) (was wasm : Nat) (mine_b : Option Addr) (mine_l mine_c : Nat) (i : Int) (t189 : Bool) (w : World) (N1 : Option Addr → Nat → Nat → Bool → Bool → Nat → Option Addr → Option Addr → Nat → Nat → Option Addr → Nat → Nat → Int → World → Prop)  (R : Int → Int → World → Prop) : Prop :=
  Bm t189 (
    R i i w) (
    nodelaw_walk.B6 script_b script_l script_c steady quiet b x m0 was wasm mine_b mine_l mine_c i w N1 R)
theorem nodelaw_walk.B7_eq (script_b : Option Addr) (script_l script_c : Nat) (steady quiet : Bool) (b : Nat) (x m0 : Option Addr) (was wasm : Nat) (mine_b : Option Addr) (mine_l mine_c : Nat) (i : Int) (t189 : Bool) (w : World) (N1 : Option Addr → Nat → Nat → Bool → Bool → Nat → Option Addr → Option Addr → Nat → Nat → Option Addr → Nat → Nat → Int → World → Prop)  (R : Int → Int → World → Prop) (sB6 : Option Addr → Nat → Nat → Bool → Bool → Nat → Option Addr → Option Addr → Nat → Nat → Option Addr → Nat → Nat → Int → World → Prop) :
    (
  Bm t189 (
    R i i w) (
    sB6 script_b script_l script_c steady quiet b x m0 was wasm mine_b mine_l mine_c i w)) = kstep Tryz.prog 273 Tryz.f7.results.toList (Tryz.f7.body.getD .skip) (nodelaw_walk.RV R) (kvc Tryz.prog 273 Tryz.f7.results.toList (Tryz.f7.body.getD .skip) (nodelaw_walk.RV R) [([(0, [1, 1, 1, 1, 1, 1, 1, 1, 1, 0, 1, 0, 0, 1, 1]), (2, [1, 1, 1, 1, 1, 1, 1, 1, 1, 0, 1, 0, 0]), (1, [0]), (0, [1, 1, 1, 1, 1, 1, 1, 1, 1, 1])], fun σ w => dL (slotOf σ 0) fun script_b_ script_l_ script_c_ => dB (slotOf σ 1) fun steady_ => dB (slotOf σ 2) fun quiet_ => dK (slotOf σ 8) fun b_ => dP (slotOf σ 10) fun x_ => dP (slotOf σ 11) fun m0_ => dK (slotOf σ 12) fun was_ => dK (slotOf σ 13) fun wasm_ => dL (slotOf σ 14) fun mine_b_ mine_l_ mine_c_ => dI .i64 (slotOf σ 15) fun i_ => sB6 script_b_ script_l_ script_c_ steady_ quiet_ b_ x_ m0_ was_ wasm_ mine_b_ mine_l_ mine_c_ i_ w)] 2000) [(0, [1, 1, 1, 1, 1, 1, 1, 1, 1, 0, 1, 0, 0, 1, 0, 0, 1, 1, 1, 1, 0, 1, 1, 1, 1, 1, 1, 1, 1, 1, 1, 1, 1, 1, 1]), (1, [1]), (0, [1, 1, 1, 1, 1, 1, 1, 1, 1, 0, 1, 0, 0, 1, 1]), (2, [1, 1, 1, 1, 1, 1, 1, 1, 1, 0, 1, 0, 0]), (1, [0]), (0, [1, 1, 1, 1, 1, 1, 1, 1, 1, 1])] [(0, .slice script_b script_l script_c), (1, .bool steady), (2, .bool quiet), (8, .pointer (some ⟨b, 0, none⟩)), (10, .pointer x), (11, .pointer m0), (12, .pointer (some ⟨was, 0, none⟩)), (13, .pointer (some ⟨wasm, 0, none⟩)), (14, .slice mine_b mine_l mine_c), (15, .int .i64 i), (189, .bool t189)] w := by kernel_rfl
theorem nodelaw_walk.B7_sound {R : Int → Int → World → Prop} {N1 : Option Addr → Nat → Nat → Bool → Bool → Nat → Option Addr → Option Addr → Nat → Nat → Option Addr → Nat → Nat → Int → World → Prop} (hN1 : ∀ script_b script_l script_c steady quiet b x m0 was wasm mine_b mine_l mine_c i w, N1 script_b script_l script_c steady quiet b x m0 was wasm mine_b mine_l mine_c i w → KW Tryz.prog 7 273 (nodelaw_walk.RV R) ([(0, [1, 1, 1, 1, 1, 1, 1, 1, 1, 0, 1, 0, 0]), (2, [1, 1, 1, 1, 1, 1, 1, 1, 1, 0, 1, 0, 0]), (1, [0]), (0, [1, 1, 1, 1, 1, 1, 1, 1, 1, 1])].map (toItem (Tryz.f7.body.getD .skip))) [(0, .slice script_b script_l script_c), (1, .bool steady), (2, .bool quiet), (8, .pointer (some ⟨b, 0, none⟩)), (10, .pointer x), (11, .pointer m0), (12, .pointer (some ⟨was, 0, none⟩)), (13, .pointer (some ⟨wasm, 0, none⟩)), (14, .slice mine_b mine_l mine_c), (15, .int .i64 i)] w) (script_b : Option Addr) (script_l script_c : Nat) (steady quiet : Bool) (b : Nat) (x m0 : Option Addr) (was wasm : Nat) (mine_b : Option Addr) (mine_l mine_c : Nat) (i : Int) (t189 : Bool) (w : World) (h : nodelaw_walk.B7 script_b script_l script_c steady quiet b x m0 was wasm mine_b mine_l mine_c i t189 w N1  R) :
    KW Tryz.prog 7 273 (nodelaw_walk.RV R) ([(0, [1, 1, 1, 1, 1, 1, 1, 1, 1, 0, 1, 0, 0, 1, 0, 0, 1, 1, 1, 1, 0, 1, 1, 1, 1, 1, 1, 1, 1, 1, 1, 1, 1, 1, 1]), (1, [1]), (0, [1, 1, 1, 1, 1, 1, 1, 1, 1, 0, 1, 0, 0, 1, 1]), (2, [1, 1, 1, 1, 1, 1, 1, 1, 1, 0, 1, 0, 0]), (1, [0]), (0, [1, 1, 1, 1, 1, 1, 1, 1, 1, 1])].map (toItem (Tryz.f7.body.getD .skip))) [(0, .slice script_b script_l script_c), (1, .bool steady), (2, .bool quiet), (8, .pointer (some ⟨b, 0, none⟩)), (10, .pointer x), (11, .pointer m0), (12, .pointer (some ⟨was, 0, none⟩)), (13, .pointer (some ⟨wasm, 0, none⟩)), (14, .slice mine_b mine_l mine_c), (15, .int .i64 i), (189, .bool t189)] w := by
  exact block_spec Tryz.func7 Tryz.mixed (stops_cons (fun σ w h => by
      obtain ⟨script_b_, script_l_, script_c_, e0, h⟩ := dL_elim h
      obtain ⟨steady_, e1, h⟩ := dB_elim h
      obtain ⟨quiet_, e2, h⟩ := dB_elim h
      obtain ⟨b_, e3, h⟩ := dK_elim h
      obtain ⟨x_, e4, h⟩ := dP_elim h
      obtain ⟨m0_, e5, h⟩ := dP_elim h
      obtain ⟨was_, e6, h⟩ := dK_elim h
      obtain ⟨wasm_, e7, h⟩ := dK_elim h
      obtain ⟨mine_b_, mine_l_, mine_c_, e8, h⟩ := dL_elim h
      obtain ⟨i_, e9, h⟩ := dI_elim h
      exact (nodelaw_walk.B6_sound hN1 script_b_ script_l_ script_c_ steady_ quiet_ b_ x_ m0_ was_ wasm_ mine_b_ mine_l_ mine_c_ i_ w h).weaken (Sub.cons (Sub.cons (Sub.cons (Sub.cons (Sub.cons (Sub.cons (Sub.cons (Sub.cons (Sub.cons (Sub.cons (Sub.nil _) e9) e8) e7) e6) e5) e4) e3) e2) e1) e0)) stops_nil) (Eq.mp (nodelaw_walk.B7_eq script_b script_l script_c steady quiet b x m0 was wasm mine_b mine_l mine_c i t189 w N1  R (fun script_b_ script_l_ script_c_ steady_ quiet_ b_ x_ m0_ was_ wasm_ mine_b_ mine_l_ mine_c_ i_ w => nodelaw_walk.B6 script_b_ script_l_ script_c_ steady_ quiet_ b_ x_ m0_ was_ wasm_ mine_b_ mine_l_ mine_c_ i_ w N1 R)) h)
def nodelaw_walk.B4 (script_b : Option Addr) (script_l script_c : Nat) (steady quiet : Bool) (b : Nat) (x m0 : Option Addr) (was wasm : Nat) (mine_b : Option Addr) (mine_l mine_c : Nat) (i : Int) (o d e : Nat) (w : World) (N1 : Option Addr → Nat → Nat → Bool → Bool → Nat → Option Addr → Option Addr → Nat → Nat → Option Addr → Nat → Nat → Int → World → Prop)  (R : Int → Int → World → Prop) : Prop :=
  LdI .i64 ⟨d, 0, none⟩ w.drew fun x161_0 =>
  LdL ⟨d, 1, none⟩ w.drew fun x161_1_b x161_1_l x161_1_c =>
  LdL ⟨d, 2, none⟩ w.drew fun x161_2_b x161_2_l x161_2_c =>
  LdI .i64 ⟨e, 0, none⟩ w.drew fun x162_0 =>
  LdL ⟨e, 1, none⟩ w.drew fun x162_1_b x162_1_l x162_1_c =>
  LdL ⟨e, 2, none⟩ w.drew fun x162_2_b x162_2_l x162_2_c =>
  Sts [.int .i64 x161_0, .slice x161_1_b x161_1_l x161_1_c, .slice x161_2_b x161_2_l x161_2_c] ⟨was, 0, none⟩ 0 w.drew fun w1 =>
  w1.cell? ⟨e, 0, none⟩ = some (.int .i64 x162_0) ∧
  w1.cell? ⟨e, 1, none⟩ = some (.slice x162_1_b x162_1_l x162_1_c) ∧
  w1.cell? ⟨e, 2, none⟩ = some (.slice x162_2_b x162_2_l x162_2_c) ∧
  Sts [.int .i64 x162_0, .slice x162_1_b x162_1_l x162_1_c, .slice x162_2_b x162_2_l x162_2_c] ⟨wasm, 0, none⟩ 0 w1 fun w2 =>
  LdI .i64 ⟨o, 0, none⟩ w2 fun x165_0 =>
  LdI .i64 ⟨o, 1, none⟩ w2 fun x165_1 =>
  LdI .i64 ⟨o, 2, none⟩ w2 fun x165_2 =>
  LdI .i64 ⟨o, 3, none⟩ w2 fun x165_3 =>
  LdS ⟨o, 4, none⟩ w2 fun x165_4 =>
  LdS ⟨o, 5, none⟩ w2 fun x165_5 =>
  nodelaw_Look.Call x m0 x165_0 x165_1 x165_2 x165_3 x165_4 x165_5 w2 fun r166 w3 =>
  Bm (!r166) (
    R i i w3) (
    LdP ⟨b, 0, none⟩ w3 fun x170_0 =>
    LdP ⟨b, 1, none⟩ w3 fun x170_1 =>
    LdI .i64 ⟨b, 2, none⟩ w3 fun x170_2 =>
    nodelaw_Idle.Call x170_0 x170_1 x170_2 m0 w3 fun r172 w4 =>
    Bm (!r172) (
      R i i w4) (
      LdP ⟨b, 0, none⟩ w4 fun x176_0 =>
      LdP ⟨b, 1, none⟩ w4 fun x176_1 =>
      LdI .i64 ⟨b, 2, none⟩ w4 fun x176_2 =>
      nodelaw_Steps.Call x176_0 x176_1 x176_2 w4 fun r177 w5 =>
      Bm (!quiet) (
        LdP ⟨b, 0, none⟩ w5 fun x183_0 =>
        LdP ⟨b, 1, none⟩ w5 fun x183_1 =>
        LdI .i64 ⟨b, 2, none⟩ w5 fun x183_2 =>
        LdS ⟨o, 4, none⟩ w5 fun x186 =>
        nodelaw_Seen.Call x m0 x183_0 x183_1 x183_2 r177 x186 w5 fun r187 w6 =>
        nodelaw_walk.B7 script_b script_l script_c steady quiet b x m0 was wasm mine_b mine_l mine_c i (!r187) w6 N1 R) (
        nodelaw_walk.B7 script_b script_l script_c steady quiet b x m0 was wasm mine_b mine_l mine_c i false w5 N1 R)))
theorem nodelaw_walk.B4_eq (script_b : Option Addr) (script_l script_c : Nat) (steady quiet : Bool) (b : Nat) (x m0 : Option Addr) (was wasm : Nat) (mine_b : Option Addr) (mine_l mine_c : Nat) (i : Int) (o d e : Nat) (w : World) (N1 : Option Addr → Nat → Nat → Bool → Bool → Nat → Option Addr → Option Addr → Nat → Nat → Option Addr → Nat → Nat → Int → World → Prop)  (R : Int → Int → World → Prop) (sB7 : Option Addr → Nat → Nat → Bool → Bool → Nat → Option Addr → Option Addr → Nat → Nat → Option Addr → Nat → Nat → Int → Bool → World → Prop) :
    (
  LdI .i64 ⟨d, 0, none⟩ w.drew fun x161_0 =>
  LdL ⟨d, 1, none⟩ w.drew fun x161_1_b x161_1_l x161_1_c =>
  LdL ⟨d, 2, none⟩ w.drew fun x161_2_b x161_2_l x161_2_c =>
  LdI .i64 ⟨e, 0, none⟩ w.drew fun x162_0 =>
  LdL ⟨e, 1, none⟩ w.drew fun x162_1_b x162_1_l x162_1_c =>
  LdL ⟨e, 2, none⟩ w.drew fun x162_2_b x162_2_l x162_2_c =>
  Sts [.int .i64 x161_0, .slice x161_1_b x161_1_l x161_1_c, .slice x161_2_b x161_2_l x161_2_c] ⟨was, 0, none⟩ 0 w.drew fun w1 =>
  w1.cell? ⟨e, 0, none⟩ = some (.int .i64 x162_0) ∧
  w1.cell? ⟨e, 1, none⟩ = some (.slice x162_1_b x162_1_l x162_1_c) ∧
  w1.cell? ⟨e, 2, none⟩ = some (.slice x162_2_b x162_2_l x162_2_c) ∧
  Sts [.int .i64 x162_0, .slice x162_1_b x162_1_l x162_1_c, .slice x162_2_b x162_2_l x162_2_c] ⟨wasm, 0, none⟩ 0 w1 fun w2 =>
  LdI .i64 ⟨o, 0, none⟩ w2 fun x165_0 =>
  LdI .i64 ⟨o, 1, none⟩ w2 fun x165_1 =>
  LdI .i64 ⟨o, 2, none⟩ w2 fun x165_2 =>
  LdI .i64 ⟨o, 3, none⟩ w2 fun x165_3 =>
  LdS ⟨o, 4, none⟩ w2 fun x165_4 =>
  LdS ⟨o, 5, none⟩ w2 fun x165_5 =>
  nodelaw_Look.Call x m0 x165_0 x165_1 x165_2 x165_3 x165_4 x165_5 w2 fun r166 w3 =>
  Bm (!r166) (
    R i i w3) (
    LdP ⟨b, 0, none⟩ w3 fun x170_0 =>
    LdP ⟨b, 1, none⟩ w3 fun x170_1 =>
    LdI .i64 ⟨b, 2, none⟩ w3 fun x170_2 =>
    nodelaw_Idle.Call x170_0 x170_1 x170_2 m0 w3 fun r172 w4 =>
    Bm (!r172) (
      R i i w4) (
      LdP ⟨b, 0, none⟩ w4 fun x176_0 =>
      LdP ⟨b, 1, none⟩ w4 fun x176_1 =>
      LdI .i64 ⟨b, 2, none⟩ w4 fun x176_2 =>
      nodelaw_Steps.Call x176_0 x176_1 x176_2 w4 fun r177 w5 =>
      Bm (!quiet) (
        LdP ⟨b, 0, none⟩ w5 fun x183_0 =>
        LdP ⟨b, 1, none⟩ w5 fun x183_1 =>
        LdI .i64 ⟨b, 2, none⟩ w5 fun x183_2 =>
        LdS ⟨o, 4, none⟩ w5 fun x186 =>
        nodelaw_Seen.Call x m0 x183_0 x183_1 x183_2 r177 x186 w5 fun r187 w6 =>
        sB7 script_b script_l script_c steady quiet b x m0 was wasm mine_b mine_l mine_c i (!r187) w6) (
        sB7 script_b script_l script_c steady quiet b x m0 was wasm mine_b mine_l mine_c i false w5)))) = kstep Tryz.prog 273 Tryz.f7.results.toList (Tryz.f7.body.getD .skip) (nodelaw_walk.RV R) (kvc Tryz.prog 273 Tryz.f7.results.toList (Tryz.f7.body.getD .skip) (nodelaw_walk.RV R) [([(0, [1, 1, 1, 1, 1, 1, 1, 1, 1, 0, 1, 0, 0, 1, 0, 0, 1, 1, 1, 1, 0, 1, 1, 1, 1, 1, 1, 1, 1, 1, 1, 1, 1, 1, 1]), (1, [1]), (0, [1, 1, 1, 1, 1, 1, 1, 1, 1, 0, 1, 0, 0, 1, 1]), (2, [1, 1, 1, 1, 1, 1, 1, 1, 1, 0, 1, 0, 0]), (1, [0]), (0, [1, 1, 1, 1, 1, 1, 1, 1, 1, 1])], fun σ w => dL (slotOf σ 0) fun script_b_ script_l_ script_c_ => dB (slotOf σ 1) fun steady_ => dB (slotOf σ 2) fun quiet_ => dK (slotOf σ 8) fun b_ => dP (slotOf σ 10) fun x_ => dP (slotOf σ 11) fun m0_ => dK (slotOf σ 12) fun was_ => dK (slotOf σ 13) fun wasm_ => dL (slotOf σ 14) fun mine_b_ mine_l_ mine_c_ => dI .i64 (slotOf σ 15) fun i_ => dB (slotOf σ 189) fun t189_ => sB7 script_b_ script_l_ script_c_ steady_ quiet_ b_ x_ m0_ was_ wasm_ mine_b_ mine_l_ mine_c_ i_ t189_ w)] 2000) [(0, [1, 1, 1, 1, 1, 1, 1, 1, 1, 0, 1, 0, 0, 1, 0, 0, 1, 1, 1, 1, 0, 1, 1, 1, 1, 1, 1, 1, 1, 1]), (1, [1]), (0, [1, 1, 1, 1, 1, 1, 1, 1, 1, 0, 1, 0, 0, 1, 1]), (2, [1, 1, 1, 1, 1, 1, 1, 1, 1, 0, 1, 0, 0]), (1, [0]), (0, [1, 1, 1, 1, 1, 1, 1, 1, 1, 1])] [(0, .slice script_b script_l script_c), (1, .bool steady), (2, .bool quiet), (8, .pointer (some ⟨b, 0, none⟩)), (10, .pointer x), (11, .pointer m0), (12, .pointer (some ⟨was, 0, none⟩)), (13, .pointer (some ⟨wasm, 0, none⟩)), (14, .slice mine_b mine_l mine_c), (15, .int .i64 i), (16, .pointer (some ⟨o, 0, none⟩)), (17, .pointer (some ⟨d, 0, none⟩)), (18, .pointer (some ⟨e, 0, none⟩))] w := by kernel_rfl
theorem nodelaw_walk.B4_sound {R : Int → Int → World → Prop} {N1 : Option Addr → Nat → Nat → Bool → Bool → Nat → Option Addr → Option Addr → Nat → Nat → Option Addr → Nat → Nat → Int → World → Prop} (hN1 : ∀ script_b script_l script_c steady quiet b x m0 was wasm mine_b mine_l mine_c i w, N1 script_b script_l script_c steady quiet b x m0 was wasm mine_b mine_l mine_c i w → KW Tryz.prog 7 273 (nodelaw_walk.RV R) ([(0, [1, 1, 1, 1, 1, 1, 1, 1, 1, 0, 1, 0, 0]), (2, [1, 1, 1, 1, 1, 1, 1, 1, 1, 0, 1, 0, 0]), (1, [0]), (0, [1, 1, 1, 1, 1, 1, 1, 1, 1, 1])].map (toItem (Tryz.f7.body.getD .skip))) [(0, .slice script_b script_l script_c), (1, .bool steady), (2, .bool quiet), (8, .pointer (some ⟨b, 0, none⟩)), (10, .pointer x), (11, .pointer m0), (12, .pointer (some ⟨was, 0, none⟩)), (13, .pointer (some ⟨wasm, 0, none⟩)), (14, .slice mine_b mine_l mine_c), (15, .int .i64 i)] w) (script_b : Option Addr) (script_l script_c : Nat) (steady quiet : Bool) (b : Nat) (x m0 : Option Addr) (was wasm : Nat) (mine_b : Option Addr) (mine_l mine_c : Nat) (i : Int) (o d e : Nat) (w : World) (h : nodelaw_walk.B4 script_b script_l script_c steady quiet b x m0 was wasm mine_b mine_l mine_c i o d e w N1  R) :
    KW Tryz.prog 7 273 (nodelaw_walk.RV R) ([(0, [1, 1, 1, 1, 1, 1, 1, 1, 1, 0, 1, 0, 0, 1, 0, 0, 1, 1, 1, 1, 0, 1, 1, 1, 1, 1, 1, 1, 1, 1]), (1, [1]), (0, [1, 1, 1, 1, 1, 1, 1, 1, 1, 0, 1, 0, 0, 1, 1]), (2, [1, 1, 1, 1, 1, 1, 1, 1, 1, 0, 1, 0, 0]), (1, [0]), (0, [1, 1, 1, 1, 1, 1, 1, 1, 1, 1])].map (toItem (Tryz.f7.body.getD .skip))) [(0, .slice script_b script_l script_c), (1, .bool steady), (2, .bool quiet), (8, .pointer (some ⟨b, 0, none⟩)), (10, .pointer x), (11, .pointer m0), (12, .pointer (some ⟨was, 0, none⟩)), (13, .pointer (some ⟨wasm, 0, none⟩)), (14, .slice mine_b mine_l mine_c), (15, .int .i64 i), (16, .pointer (some ⟨o, 0, none⟩)), (17, .pointer (some ⟨d, 0, none⟩)), (18, .pointer (some ⟨e, 0, none⟩))] w := by
  exact block_spec Tryz.func7 Tryz.mixed (stops_cons (fun σ w h => by
      obtain ⟨script_b_, script_l_, script_c_, e0, h⟩ := dL_elim h
      obtain ⟨steady_, e1, h⟩ := dB_elim h
      obtain ⟨quiet_, e2, h⟩ := dB_elim h
      obtain ⟨b_, e3, h⟩ := dK_elim h
      obtain ⟨x_, e4, h⟩ := dP_elim h
      obtain ⟨m0_, e5, h⟩ := dP_elim h
      obtain ⟨was_, e6, h⟩ := dK_elim h
      obtain ⟨wasm_, e7, h⟩ := dK_elim h
      obtain ⟨mine_b_, mine_l_, mine_c_, e8, h⟩ := dL_elim h
      obtain ⟨i_, e9, h⟩ := dI_elim h
      obtain ⟨t189_, e10, h⟩ := dB_elim h
      exact (nodelaw_walk.B7_sound hN1 script_b_ script_l_ script_c_ steady_ quiet_ b_ x_ m0_ was_ wasm_ mine_b_ mine_l_ mine_c_ i_ t189_ w h).weaken (Sub.cons (Sub.cons (Sub.cons (Sub.cons (Sub.cons (Sub.cons (Sub.cons (Sub.cons (Sub.cons (Sub.cons (Sub.cons (Sub.nil _) e10) e9) e8) e7) e6) e5) e4) e3) e2) e1) e0)) stops_nil) (Eq.mp (nodelaw_walk.B4_eq script_b script_l script_c steady quiet b x m0 was wasm mine_b mine_l mine_c i o d e w N1  R (fun script_b_ script_l_ script_c_ steady_ quiet_ b_ x_ m0_ was_ wasm_ mine_b_ mine_l_ mine_c_ i_ t189_ w => nodelaw_walk.B7 script_b_ script_l_ script_c_ steady_ quiet_ b_ x_ m0_ was_ wasm_ mine_b_ mine_l_ mine_c_ i_ t189_ w N1 R)) h)
def nodelaw_walk.L2b (script_b : Option Addr) (script_l script_c : Nat) (steady quiet : Bool) (b : Nat) (x m0 : Option Addr) (was wasm : Nat) (mine_b : Option Addr) (mine_l mine_c : Nat) (i : Int) (o d e : Nat) (j : Int) (w : World) (N1 : Option Addr → Nat → Nat → Bool → Bool → Nat → Option Addr → Option Addr → Nat → Nat → Option Addr → Nat → Nat → Int → World → Prop) (N2 : Option Addr → Nat → Nat → Bool → Bool → Nat → Option Addr → Option Addr → Nat → Nat → Option Addr → Nat → Nat → Int → Nat → Nat → Nat → Int → World → Prop) (R : Int → Int → World → Prop) : Prop :=
  Bm (decide ((IntKind.i64.wrap (j + (1 : Int))) < ((mine_l : Nat) : Int))) (
    Pn mine_b fun a =>
    (0 ≤ (IntKind.i64.wrap (j + (1 : Int))) ∧ (IntKind.i64.wrap (j + (1 : Int))) < ((mine_l : Nat) : Int)) ∧
    LdI .i64 (Addr.add a ((IntKind.i64.wrap (j + (1 : Int))).toNat * 3)) w fun x150_0 =>
    LdL ((Addr.add a ((IntKind.i64.wrap (j + (1 : Int))).toNat * 3)).add 1) w fun x150_1_b x150_1_l x150_1_c =>
    LdL ((Addr.add a ((IntKind.i64.wrap (j + (1 : Int))).toNat * 3)).add 2) w fun x150_2_b x150_2_l x150_2_c =>
    Pn mine_b fun a_1 =>
    (0 ≤ j ∧ j < ((mine_l : Nat) : Int)) ∧
    Sts [.int .i64 x150_0, .slice x150_1_b x150_1_l x150_1_c, .slice x150_2_b x150_2_l x150_2_c] (Addr.add a_1 (j.toNat * 3)) 0 w fun w1 =>
    N2 script_b script_l script_c steady quiet b x m0 was wasm mine_b mine_l mine_c i o d e (IntKind.i64.wrap (j + (1 : Int))) w1) (
    (0 ≤ (IntKind.i64.wrap (((mine_l : Nat) : Int) - (1 : Int))) ∧ (IntKind.i64.wrap (((mine_l : Nat) : Int) - (1 : Int))) ≤ ((mine_c : Nat) : Int)) ∧
    LdI .i64 ⟨was, 0, none⟩ w fun x158_0 =>
    LdL ⟨was, 1, none⟩ w fun x158_1_b x158_1_l x158_1_c =>
    LdL ⟨was, 2, none⟩ w fun x158_2_b x158_2_l x158_2_c =>
    New (.cells #[.int .i64 x158_0, .slice x158_1_b x158_1_l x158_1_c, .slice x158_2_b x158_2_l x158_2_c] 42) w fun b159 w2 =>
    Append 42 (.agg #[.int .i64 (0 : Int), .slice none 0 0, .slice none 0 0]) 3 56 (slBase mine_b ((0 : Nat) : Int) ((mine_c : Nat) : Int) 3) ((IntKind.i64.wrap (((mine_l : Nat) : Int) - (1 : Int))).toNat - ((0 : Nat) : Int).toNat) (((mine_c : Nat) : Int).toNat - ((0 : Nat) : Int).toNat) (some ⟨b159, 0, none⟩) 1 w2 fun b160 c160 w3 =>
    nodelaw_walk.B4 script_b script_l script_c steady quiet b x m0 was wasm b160 (((IntKind.i64.wrap (((mine_l : Nat) : Int) - (1 : Int))).toNat - ((0 : Nat) : Int).toNat) + 1) c160 i o d e w3 N1 R)
theorem nodelaw_walk.L2b_eq (script_b : Option Addr) (script_l script_c : Nat) (steady quiet : Bool) (b : Nat) (x m0 : Option Addr) (was wasm : Nat) (mine_b : Option Addr) (mine_l mine_c : Nat) (i : Int) (o d e : Nat) (j : Int) (w : World) (N1 : Option Addr → Nat → Nat → Bool → Bool → Nat → Option Addr → Option Addr → Nat → Nat → Option Addr → Nat → Nat → Int → World → Prop) (N2 : Option Addr → Nat → Nat → Bool → Bool → Nat → Option Addr → Option Addr → Nat → Nat → Option Addr → Nat → Nat → Int → Nat → Nat → Nat → Int → World → Prop) (R : Int → Int → World → Prop) (sB4 : Option Addr → Nat → Nat → Bool → Bool → Nat → Option Addr → Option Addr → Nat → Nat → Option Addr → Nat → Nat → Int → Nat → Nat → Nat → World → Prop) :
    (
  Bm (decide ((IntKind.i64.wrap (j + (1 : Int))) < ((mine_l : Nat) : Int))) (
    Pn mine_b fun a =>
    (0 ≤ (IntKind.i64.wrap (j + (1 : Int))) ∧ (IntKind.i64.wrap (j + (1 : Int))) < ((mine_l : Nat) : Int)) ∧
    LdI .i64 (Addr.add a ((IntKind.i64.wrap (j + (1 : Int))).toNat * 3)) w fun x150_0 =>
    LdL ((Addr.add a ((IntKind.i64.wrap (j + (1 : Int))).toNat * 3)).add 1) w fun x150_1_b x150_1_l x150_1_c =>
    LdL ((Addr.add a ((IntKind.i64.wrap (j + (1 : Int))).toNat * 3)).add 2) w fun x150_2_b x150_2_l x150_2_c =>
    Pn mine_b fun a_1 =>
    (0 ≤ j ∧ j < ((mine_l : Nat) : Int)) ∧
    Sts [.int .i64 x150_0, .slice x150_1_b x150_1_l x150_1_c, .slice x150_2_b x150_2_l x150_2_c] (Addr.add a_1 (j.toNat * 3)) 0 w fun w1 =>
    N2 script_b script_l script_c steady quiet b x m0 was wasm mine_b mine_l mine_c i o d e (IntKind.i64.wrap (j + (1 : Int))) w1) (
    (0 ≤ (IntKind.i64.wrap (((mine_l : Nat) : Int) - (1 : Int))) ∧ (IntKind.i64.wrap (((mine_l : Nat) : Int) - (1 : Int))) ≤ ((mine_c : Nat) : Int)) ∧
    LdI .i64 ⟨was, 0, none⟩ w fun x158_0 =>
    LdL ⟨was, 1, none⟩ w fun x158_1_b x158_1_l x158_1_c =>
    LdL ⟨was, 2, none⟩ w fun x158_2_b x158_2_l x158_2_c =>
    New (.cells #[.int .i64 x158_0, .slice x158_1_b x158_1_l x158_1_c, .slice x158_2_b x158_2_l x158_2_c] 42) w fun b159 w2 =>
    Append 42 (.agg #[.int .i64 (0 : Int), .slice none 0 0, .slice none 0 0]) 3 56 (slBase mine_b ((0 : Nat) : Int) ((mine_c : Nat) : Int) 3) ((IntKind.i64.wrap (((mine_l : Nat) : Int) - (1 : Int))).toNat - ((0 : Nat) : Int).toNat) (((mine_c : Nat) : Int).toNat - ((0 : Nat) : Int).toNat) (some ⟨b159, 0, none⟩) 1 w2 fun b160 c160 w3 =>
    sB4 script_b script_l script_c steady quiet b x m0 was wasm b160 (((IntKind.i64.wrap (((mine_l : Nat) : Int) - (1 : Int))).toNat - ((0 : Nat) : Int).toNat) + 1) c160 i o d e w3)) = kstep Tryz.prog 273 Tryz.f7.results.toList (Tryz.f7.body.getD .skip) (nodelaw_walk.RV R) (kvc Tryz.prog 273 Tryz.f7.results.toList (Tryz.f7.body.getD .skip) (nodelaw_walk.RV R) [([(0, [1, 1, 1, 1, 1, 1, 1, 1, 1, 0, 1, 0, 0, 1, 0, 0, 1, 1, 1, 1, 0, 1, 1, 1, 1, 1, 1, 1, 1, 0, 1, 0, 0, 1, 0, 0, 1, 0, 0]), (2, [1, 1, 1, 1, 1, 1, 1, 1, 1, 0, 1, 0, 0, 1, 0, 0, 1, 1, 1, 1, 0, 1, 1, 1, 1, 1, 1, 1, 1, 0, 1, 0, 0, 1, 0, 0, 1, 0, 0]), (1, [2]), (0, [1, 1, 1, 1, 1, 1, 1, 1, 1, 0, 1, 0, 0, 1, 0, 0, 1, 1, 1, 1, 0, 1, 1, 1, 1, 1, 1, 1, 1, 0, 1, 0, 0, 1, 0, 1]), (0, [1, 1, 1, 1, 1, 1, 1, 1, 1, 0, 1, 0, 0, 1, 0, 0, 1, 1, 1, 1, 0, 1, 1, 1, 1, 1, 1, 1, 1, 0, 1, 0, 1]), (0, [1, 1, 1, 1, 1, 1, 1, 1, 1, 0, 1, 0, 0, 1, 0, 0, 1, 1, 1, 1, 0, 1, 1, 1, 1, 1, 1, 1, 1, 1]), (1, [1]), (0, [1, 1, 1, 1, 1, 1, 1, 1, 1, 0, 1, 0, 0, 1, 1]), (2, [1, 1, 1, 1, 1, 1, 1, 1, 1, 0, 1, 0, 0]), (1, [0]), (0, [1, 1, 1, 1, 1, 1, 1, 1, 1, 1])], fun σ w => dL (slotOf σ 0) fun script_b_ script_l_ script_c_ => dB (slotOf σ 1) fun steady_ => dB (slotOf σ 2) fun quiet_ => dK (slotOf σ 8) fun b_ => dP (slotOf σ 10) fun x_ => dP (slotOf σ 11) fun m0_ => dK (slotOf σ 12) fun was_ => dK (slotOf σ 13) fun wasm_ => dL (slotOf σ 14) fun mine_b_ mine_l_ mine_c_ => dI .i64 (slotOf σ 15) fun i_ => dK (slotOf σ 16) fun o_ => dK (slotOf σ 17) fun d_ => dK (slotOf σ 18) fun e_ => dI .i64 (slotOf σ 19) fun j_ => N2 script_b_ script_l_ script_c_ steady_ quiet_ b_ x_ m0_ was_ wasm_ mine_b_ mine_l_ mine_c_ i_ o_ d_ e_ j_ w),
    ([(0, [1, 1, 1, 1, 1, 1, 1, 1, 1, 0, 1, 0, 0, 1, 0, 0, 1, 1, 1, 1, 0, 1, 1, 1, 1, 1, 1, 1, 1, 1]), (1, [1]), (0, [1, 1, 1, 1, 1, 1, 1, 1, 1, 0, 1, 0, 0, 1, 1]), (2, [1, 1, 1, 1, 1, 1, 1, 1, 1, 0, 1, 0, 0]), (1, [0]), (0, [1, 1, 1, 1, 1, 1, 1, 1, 1, 1])], fun σ w => dL (slotOf σ 0) fun script_b_ script_l_ script_c_ => dB (slotOf σ 1) fun steady_ => dB (slotOf σ 2) fun quiet_ => dK (slotOf σ 8) fun b_ => dP (slotOf σ 10) fun x_ => dP (slotOf σ 11) fun m0_ => dK (slotOf σ 12) fun was_ => dK (slotOf σ 13) fun wasm_ => dL (slotOf σ 14) fun mine_b_ mine_l_ mine_c_ => dI .i64 (slotOf σ 15) fun i_ => dK (slotOf σ 16) fun o_ => dK (slotOf σ 17) fun d_ => dK (slotOf σ 18) fun e_ => sB4 script_b_ script_l_ script_c_ steady_ quiet_ b_ x_ m0_ was_ wasm_ mine_b_ mine_l_ mine_c_ i_ o_ d_ e_ w)] 2000) [(0, [1, 1, 1, 1, 1, 1, 1, 1, 1, 0, 1, 0, 0, 1, 0, 0, 1, 1, 1, 1, 0, 1, 1, 1, 1, 1, 1, 1, 1, 0, 1, 0, 0, 1, 0, 0, 1, 0, 0]), (2, [1, 1, 1, 1, 1, 1, 1, 1, 1, 0, 1, 0, 0, 1, 0, 0, 1, 1, 1, 1, 0, 1, 1, 1, 1, 1, 1, 1, 1, 0, 1, 0, 0, 1, 0, 0, 1, 0, 0]), (1, [2]), (0, [1, 1, 1, 1, 1, 1, 1, 1, 1, 0, 1, 0, 0, 1, 0, 0, 1, 1, 1, 1, 0, 1, 1, 1, 1, 1, 1, 1, 1, 0, 1, 0, 0, 1, 0, 1]), (0, [1, 1, 1, 1, 1, 1, 1, 1, 1, 0, 1, 0, 0, 1, 0, 0, 1, 1, 1, 1, 0, 1, 1, 1, 1, 1, 1, 1, 1, 0, 1, 0, 1]), (0, [1, 1, 1, 1, 1, 1, 1, 1, 1, 0, 1, 0, 0, 1, 0, 0, 1, 1, 1, 1, 0, 1, 1, 1, 1, 1, 1, 1, 1, 1]), (1, [1]), (0, [1, 1, 1, 1, 1, 1, 1, 1, 1, 0, 1, 0, 0, 1, 1]), (2, [1, 1, 1, 1, 1, 1, 1, 1, 1, 0, 1, 0, 0]), (1, [0]), (0, [1, 1, 1, 1, 1, 1, 1, 1, 1, 1])] [(0, .slice script_b script_l script_c), (1, .bool steady), (2, .bool quiet), (8, .pointer (some ⟨b, 0, none⟩)), (10, .pointer x), (11, .pointer m0), (12, .pointer (some ⟨was, 0, none⟩)), (13, .pointer (some ⟨wasm, 0, none⟩)), (14, .slice mine_b mine_l mine_c), (15, .int .i64 i), (16, .pointer (some ⟨o, 0, none⟩)), (17, .pointer (some ⟨d, 0, none⟩)), (18, .pointer (some ⟨e, 0, none⟩)), (19, .int .i64 j)] w := by kernel_rfl
theorem nodelaw_walk.L2b_sound {R : Int → Int → World → Prop} {N1 : Option Addr → Nat → Nat → Bool → Bool → Nat → Option Addr → Option Addr → Nat → Nat → Option Addr → Nat → Nat → Int → World → Prop} (hN1 : ∀ script_b script_l script_c steady quiet b x m0 was wasm mine_b mine_l mine_c i w, N1 script_b script_l script_c steady quiet b x m0 was wasm mine_b mine_l mine_c i w → KW Tryz.prog 7 273 (nodelaw_walk.RV R) ([(0, [1, 1, 1, 1, 1, 1, 1, 1, 1, 0, 1, 0, 0]), (2, [1, 1, 1, 1, 1, 1, 1, 1, 1, 0, 1, 0, 0]), (1, [0]), (0, [1, 1, 1, 1, 1, 1, 1, 1, 1, 1])].map (toItem (Tryz.f7.body.getD .skip))) [(0, .slice script_b script_l script_c), (1, .bool steady), (2, .bool quiet), (8, .pointer (some ⟨b, 0, none⟩)), (10, .pointer x), (11, .pointer m0), (12, .pointer (some ⟨was, 0, none⟩)), (13, .pointer (some ⟨wasm, 0, none⟩)), (14, .slice mine_b mine_l mine_c), (15, .int .i64 i)] w) {N2 : Option Addr → Nat → Nat → Bool → Bool → Nat → Option Addr → Option Addr → Nat → Nat → Option Addr → Nat → Nat → Int → Nat → Nat → Nat → Int → World → Prop} (hN2 : ∀ script_b script_l script_c steady quiet b x m0 was wasm mine_b mine_l mine_c i o d e j w, N2 script_b script_l script_c steady quiet b x m0 was wasm mine_b mine_l mine_c i o d e j w → KW Tryz.prog 7 273 (nodelaw_walk.RV R) ([(0, [1, 1, 1, 1, 1, 1, 1, 1, 1, 0, 1, 0, 0, 1, 0, 0, 1, 1, 1, 1, 0, 1, 1, 1, 1, 1, 1, 1, 1, 0, 1, 0, 0, 1, 0, 0, 1, 0, 0]), (2, [1, 1, 1, 1, 1, 1, 1, 1, 1, 0, 1, 0, 0, 1, 0, 0, 1, 1, 1, 1, 0, 1, 1, 1, 1, 1, 1, 1, 1, 0, 1, 0, 0, 1, 0, 0, 1, 0, 0]), (1, [2]), (0, [1, 1, 1, 1, 1, 1, 1, 1, 1, 0, 1, 0, 0, 1, 0, 0, 1, 1, 1, 1, 0, 1, 1, 1, 1, 1, 1, 1, 1, 0, 1, 0, 0, 1, 0, 1]), (0, [1, 1, 1, 1, 1, 1, 1, 1, 1, 0, 1, 0, 0, 1, 0, 0, 1, 1, 1, 1, 0, 1, 1, 1, 1, 1, 1, 1, 1, 0, 1, 0, 1]), (0, [1, 1, 1, 1, 1, 1, 1, 1, 1, 0, 1, 0, 0, 1, 0, 0, 1, 1, 1, 1, 0, 1, 1, 1, 1, 1, 1, 1, 1, 1]), (1, [1]), (0, [1, 1, 1, 1, 1, 1, 1, 1, 1, 0, 1, 0, 0, 1, 1]), (2, [1, 1, 1, 1, 1, 1, 1, 1, 1, 0, 1, 0, 0]), (1, [0]), (0, [1, 1, 1, 1, 1, 1, 1, 1, 1, 1])].map (toItem (Tryz.f7.body.getD .skip))) [(0, .slice script_b script_l script_c), (1, .bool steady), (2, .bool quiet), (8, .pointer (some ⟨b, 0, none⟩)), (10, .pointer x), (11, .pointer m0), (12, .pointer (some ⟨was, 0, none⟩)), (13, .pointer (some ⟨wasm, 0, none⟩)), (14, .slice mine_b mine_l mine_c), (15, .int .i64 i), (16, .pointer (some ⟨o, 0, none⟩)), (17, .pointer (some ⟨d, 0, none⟩)), (18, .pointer (some ⟨e, 0, none⟩)), (19, .int .i64 j)] w) (script_b : Option Addr) (script_l script_c : Nat) (steady quiet : Bool) (b : Nat) (x m0 : Option Addr) (was wasm : Nat) (mine_b : Option Addr) (mine_l mine_c : Nat) (i : Int) (o d e : Nat) (j : Int) (w : World) (h : nodelaw_walk.L2b script_b script_l script_c steady quiet b x m0 was wasm mine_b mine_l mine_c i o d e j w N1 N2 R) :
    KW Tryz.prog 7 273 (nodelaw_walk.RV R) ([(0, [1, 1, 1, 1, 1, 1, 1, 1, 1, 0, 1, 0, 0, 1, 0, 0, 1, 1, 1, 1, 0, 1, 1, 1, 1, 1, 1, 1, 1, 0, 1, 0, 0, 1, 0, 0, 1, 0, 0]), (2, [1, 1, 1, 1, 1, 1, 1, 1, 1, 0, 1, 0, 0, 1, 0, 0, 1, 1, 1, 1, 0, 1, 1, 1, 1, 1, 1, 1, 1, 0, 1, 0, 0, 1, 0, 0, 1, 0, 0]), (1, [2]), (0, [1, 1, 1, 1, 1, 1, 1, 1, 1, 0, 1, 0, 0, 1, 0, 0, 1, 1, 1, 1, 0, 1, 1, 1, 1, 1, 1, 1, 1, 0, 1, 0, 0, 1, 0, 1]), (0, [1, 1, 1, 1, 1, 1, 1, 1, 1, 0, 1, 0, 0, 1, 0, 0, 1, 1, 1, 1, 0, 1, 1, 1, 1, 1, 1, 1, 1, 0, 1, 0, 1]), (0, [1, 1, 1, 1, 1, 1, 1, 1, 1, 0, 1, 0, 0, 1, 0, 0, 1, 1, 1, 1, 0, 1, 1, 1, 1, 1, 1, 1, 1, 1]), (1, [1]), (0, [1, 1, 1, 1, 1, 1, 1, 1, 1, 0, 1, 0, 0, 1, 1]), (2, [1, 1, 1, 1, 1, 1, 1, 1, 1, 0, 1, 0, 0]), (1, [0]), (0, [1, 1, 1, 1, 1, 1, 1, 1, 1, 1])].map (toItem (Tryz.f7.body.getD .skip))) [(0, .slice script_b script_l script_c), (1, .bool steady), (2, .bool quiet), (8, .pointer (some ⟨b, 0, none⟩)), (10, .pointer x), (11, .pointer m0), (12, .pointer (some ⟨was, 0, none⟩)), (13, .pointer (some ⟨wasm, 0, none⟩)), (14, .slice mine_b mine_l mine_c), (15, .int .i64 i), (16, .pointer (some ⟨o, 0, none⟩)), (17, .pointer (some ⟨d, 0, none⟩)), (18, .pointer (some ⟨e, 0, none⟩)), (19, .int .i64 j)] w := by
  exact block_spec Tryz.func7 Tryz.mixed (stops_cons (fun σ w h => by
      obtain ⟨script_b_, script_l_, script_c_, e0, h⟩ := dL_elim h
      obtain ⟨steady_, e1, h⟩ := dB_elim h
      obtain ⟨quiet_, e2, h⟩ := dB_elim h
      obtain ⟨b_, e3, h⟩ := dK_elim h
      obtain ⟨x_, e4, h⟩ := dP_elim h
      obtain ⟨m0_, e5, h⟩ := dP_elim h
      obtain ⟨was_, e6, h⟩ := dK_elim h
      obtain ⟨wasm_, e7, h⟩ := dK_elim h
      obtain ⟨mine_b_, mine_l_, mine_c_, e8, h⟩ := dL_elim h
      obtain ⟨i_, e9, h⟩ := dI_elim h
      obtain ⟨o_, e10, h⟩ := dK_elim h
      obtain ⟨d_, e11, h⟩ := dK_elim h
      obtain ⟨e_, e12, h⟩ := dK_elim h
      obtain ⟨j_, e13, h⟩ := dI_elim h
      exact (hN2 script_b_ script_l_ script_c_ steady_ quiet_ b_ x_ m0_ was_ wasm_ mine_b_ mine_l_ mine_c_ i_ o_ d_ e_ j_ w h).weaken (Sub.cons (Sub.cons (Sub.cons (Sub.cons (Sub.cons (Sub.cons (Sub.cons (Sub.cons (Sub.cons (Sub.cons (Sub.cons (Sub.cons (Sub.cons (Sub.cons (Sub.nil _) e13) e12) e11) e10) e9) e8) e7) e6) e5) e4) e3) e2) e1) e0)) (stops_cons (fun σ w h => by
      obtain ⟨script_b_, script_l_, script_c_, e0, h⟩ := dL_elim h
      obtain ⟨steady_, e1, h⟩ := dB_elim h
      obtain ⟨quiet_, e2, h⟩ := dB_elim h
      obtain ⟨b_, e3, h⟩ := dK_elim h
      obtain ⟨x_, e4, h⟩ := dP_elim h
      obtain ⟨m0_, e5, h⟩ := dP_elim h
      obtain ⟨was_, e6, h⟩ := dK_elim h
      obtain ⟨wasm_, e7, h⟩ := dK_elim h
      obtain ⟨mine_b_, mine_l_, mine_c_, e8, h⟩ := dL_elim h
      obtain ⟨i_, e9, h⟩ := dI_elim h
      obtain ⟨o_, e10, h⟩ := dK_elim h
      obtain ⟨d_, e11, h⟩ := dK_elim h
      obtain ⟨e_, e12, h⟩ := dK_elim h
      exact (nodelaw_walk.B4_sound hN1 script_b_ script_l_ script_c_ steady_ quiet_ b_ x_ m0_ was_ wasm_ mine_b_ mine_l_ mine_c_ i_ o_ d_ e_ w h).weaken (Sub.cons (Sub.cons (Sub.cons (Sub.cons (Sub.cons (Sub.cons (Sub.cons (Sub.cons (Sub.cons (Sub.cons (Sub.cons (Sub.cons (Sub.cons (Sub.nil _) e12) e11) e10) e9) e8) e7) e6) e5) e4) e3) e2) e1) e0)) stops_nil)) (Eq.mp (nodelaw_walk.L2b_eq script_b script_l script_c steady quiet b x m0 was wasm mine_b mine_l mine_c i o d e j w N1 N2 R (fun script_b_ script_l_ script_c_ steady_ quiet_ b_ x_ m0_ was_ wasm_ mine_b_ mine_l_ mine_c_ i_ o_ d_ e_ w => nodelaw_walk.B4 script_b_ script_l_ script_c_ steady_ quiet_ b_ x_ m0_ was_ wasm_ mine_b_ mine_l_ mine_c_ i_ o_ d_ e_ w N1 R)) h)
def nodelaw_walk.L2 (script_b : Option Addr) (script_l script_c : Nat) (steady quiet : Bool) (b : Nat) (x m0 : Option Addr) (was wasm : Nat) (mine_b : Option Addr) (mine_l mine_c : Nat) (i : Int) (o d e : Nat) (j : Int) (w : World) (N1 : Option Addr → Nat → Nat → Bool → Bool → Nat → Option Addr → Option Addr → Nat → Nat → Option Addr → Nat → Nat → Int → World → Prop) (R : Int → Int → World → Prop) : Prop :=
  ∃ (I : Nat → Option Addr → Nat → Nat → Bool → Bool → Nat → Option Addr → Option Addr → Nat → Nat → Option Addr → Nat → Nat → Int → Nat → Nat → Nat → Int → World → Prop) (m : Nat), I m script_b script_l script_c steady quiet b x m0 was wasm mine_b mine_l mine_c i o d e j w ∧ ∀ m script_b script_l script_c steady quiet b x m0 was wasm mine_b mine_l mine_c i o d e j w, I m script_b script_l script_c steady quiet b x m0 was wasm mine_b mine_l mine_c i o d e j w → nodelaw_walk.L2b script_b script_l script_c steady quiet b x m0 was wasm mine_b mine_l mine_c i o d e j w N1 (fun script_b' script_l' script_c' steady' quiet' b' x' m0' was' wasm' mine_b' mine_l' mine_c' i' o' d' e' j' w' => ∃ m', m' < m ∧ I m' script_b' script_l' script_c' steady' quiet' b' x' m0' was' wasm' mine_b' mine_l' mine_c' i' o' d' e' j' w') R
theorem nodelaw_walk.L2_sound {R : Int → Int → World → Prop} {N1 : Option Addr → Nat → Nat → Bool → Bool → Nat → Option Addr → Option Addr → Nat → Nat → Option Addr → Nat → Nat → Int → World → Prop} (hN1 : ∀ script_b script_l script_c steady quiet b x m0 was wasm mine_b mine_l mine_c i w, N1 script_b script_l script_c steady quiet b x m0 was wasm mine_b mine_l mine_c i w → KW Tryz.prog 7 273 (nodelaw_walk.RV R) ([(0, [1, 1, 1, 1, 1, 1, 1, 1, 1, 0, 1, 0, 0]), (2, [1, 1, 1, 1, 1, 1, 1, 1, 1, 0, 1, 0, 0]), (1, [0]), (0, [1, 1, 1, 1, 1, 1, 1, 1, 1, 1])].map (toItem (Tryz.f7.body.getD .skip))) [(0, .slice script_b script_l script_c), (1, .bool steady), (2, .bool quiet), (8, .pointer (some ⟨b, 0, none⟩)), (10, .pointer x), (11, .pointer m0), (12, .pointer (some ⟨was, 0, none⟩)), (13, .pointer (some ⟨wasm, 0, none⟩)), (14, .slice mine_b mine_l mine_c), (15, .int .i64 i)] w) (script_b : Option Addr) (script_l script_c : Nat) (steady quiet : Bool) (b : Nat) (x m0 : Option Addr) (was wasm : Nat) (mine_b : Option Addr) (mine_l mine_c : Nat) (i : Int) (o d e : Nat) (j : Int) (w : World) (h : nodelaw_walk.L2 script_b script_l script_c steady quiet b x m0 was wasm mine_b mine_l mine_c i o d e j w N1 R) :
    KW Tryz.prog 7 273 (nodelaw_walk.RV R) ([(0, [1, 1, 1, 1, 1, 1, 1, 1, 1, 0, 1, 0, 0, 1, 0, 0, 1, 1, 1, 1, 0, 1, 1, 1, 1, 1, 1, 1, 1, 0, 1, 0, 0, 1, 0, 0, 1, 0, 0]), (2, [1, 1, 1, 1, 1, 1, 1, 1, 1, 0, 1, 0, 0, 1, 0, 0, 1, 1, 1, 1, 0, 1, 1, 1, 1, 1, 1, 1, 1, 0, 1, 0, 0, 1, 0, 0, 1, 0, 0]), (1, [2]), (0, [1, 1, 1, 1, 1, 1, 1, 1, 1, 0, 1, 0, 0, 1, 0, 0, 1, 1, 1, 1, 0, 1, 1, 1, 1, 1, 1, 1, 1, 0, 1, 0, 0, 1, 0, 1]), (0, [1, 1, 1, 1, 1, 1, 1, 1, 1, 0, 1, 0, 0, 1, 0, 0, 1, 1, 1, 1, 0, 1, 1, 1, 1, 1, 1, 1, 1, 0, 1, 0, 1]), (0, [1, 1, 1, 1, 1, 1, 1, 1, 1, 0, 1, 0, 0, 1, 0, 0, 1, 1, 1, 1, 0, 1, 1, 1, 1, 1, 1, 1, 1, 1]), (1, [1]), (0, [1, 1, 1, 1, 1, 1, 1, 1, 1, 0, 1, 0, 0, 1, 1]), (2, [1, 1, 1, 1, 1, 1, 1, 1, 1, 0, 1, 0, 0]), (1, [0]), (0, [1, 1, 1, 1, 1, 1, 1, 1, 1, 1])].map (toItem (Tryz.f7.body.getD .skip))) [(0, .slice script_b script_l script_c), (1, .bool steady), (2, .bool quiet), (8, .pointer (some ⟨b, 0, none⟩)), (10, .pointer x), (11, .pointer m0), (12, .pointer (some ⟨was, 0, none⟩)), (13, .pointer (some ⟨wasm, 0, none⟩)), (14, .slice mine_b mine_l mine_c), (15, .int .i64 i), (16, .pointer (some ⟨o, 0, none⟩)), (17, .pointer (some ⟨d, 0, none⟩)), (18, .pointer (some ⟨e, 0, none⟩)), (19, .int .i64 j)] w := by
  obtain ⟨I, m, hBase, hr⟩ := h
  refine KW.loop (fun m σ w => ∃ (script_b : Option Addr) (script_l script_c : Nat) (steady quiet : Bool) (b : Nat) (x m0 : Option Addr) (was wasm : Nat) (mine_b : Option Addr) (mine_l mine_c : Nat) (i : Int) (o d e : Nat) (j : Int), σ = [(0, .slice script_b script_l script_c), (1, .bool steady), (2, .bool quiet), (8, .pointer (some ⟨b, 0, none⟩)), (10, .pointer x), (11, .pointer m0), (12, .pointer (some ⟨was, 0, none⟩)), (13, .pointer (some ⟨wasm, 0, none⟩)), (14, .slice mine_b mine_l mine_c), (15, .int .i64 i), (16, .pointer (some ⟨o, 0, none⟩)), (17, .pointer (some ⟨d, 0, none⟩)), (18, .pointer (some ⟨e, 0, none⟩)), (19, .int .i64 j)] ∧ I m script_b script_l script_c steady quiet b x m0 was wasm mine_b mine_l mine_c i o d e j w) ?_ m _ w ⟨script_b, script_l, script_c, steady, quiet, b, x, m0, was, wasm, mine_b, mine_l, mine_c, i, o, d, e, j, rfl, hBase⟩
  rintro m ih σ w ⟨script_b, script_l, script_c, steady, quiet, b, x, m0, was, wasm, mine_b, mine_l, mine_c, i, o, d, e, j, rfl, hI⟩
  exact nodelaw_walk.L2b_sound hN1 (N2 := fun script_b' script_l' script_c' steady' quiet' b' x' m0' was' wasm' mine_b' mine_l' mine_c' i' o' d' e' j' w' => ∃ m', m' < m ∧ I m' script_b' script_l' script_c' steady' quiet' b' x' m0' was' wasm' mine_b' mine_l' mine_c' i' o' d' e' j' w') (fun script_b' script_l' script_c' steady' quiet' b' x' m0' was' wasm' mine_b' mine_l' mine_c' i' o' d' e' j' w' hx => by obtain ⟨m', hlt, hI'⟩ := hx; exact ih m' hlt _ w' ⟨script_b', script_l', script_c', steady', quiet', b', x', m0', was', wasm', mine_b', mine_l', mine_c', i', o', d', e', j', rfl, hI'⟩) script_b script_l script_c steady quiet b x m0 was wasm mine_b mine_l mine_c i o d e j w (hr m script_b script_l script_c steady quiet b x m0 was wasm mine_b mine_l mine_c i o d e j w hI)
def nodelaw_walk.B9 (script_b : Option Addr) (script_l script_c : Nat) (steady quiet : Bool) (b : Nat) (x m0 : Option Addr) (was wasm : Nat) (mine_b : Option Addr) (mine_l mine_c : Nat) (i : Int) (o b0 : Nat) (j : Int) (t252 : Bool) (w : World) (N1 : Option Addr → Nat → Nat → Bool → Bool → Nat → Option Addr → Option Addr → Nat → Nat → Option Addr → Nat → Nat → Int → World → Prop)  (R : Int → Int → World → Prop) : Prop :=
  Bm t252 (
    R i i w) (
    nodem_Node_After.Call m0 j w fun r257 w1 =>
    Bm quiet (
      LdP ⟨b0, 0, none⟩ w1 fun x259_0 =>
      LdP ⟨b0, 1, none⟩ w1 fun x259_1 =>
      LdI .i64 ⟨b0, 2, none⟩ w1 fun x259_2 =>
      LdI .i64 ⟨o, 1, none⟩ w1 fun x261 =>
      nodelaw_After.Call x259_0 x259_1 x259_2 x261 w1 fun r262_0 r262_1 r262_2 w2 =>
      Sts [.pointer r262_0, .pointer r262_1, .int .i64 r262_2] ⟨b, 0, none⟩ 0 w2 fun w3 =>
      kv_New.Call  w3 fun r263 w4 =>
      LdP ⟨b, 1, none⟩ w4 fun x265 =>
      node_Open.Call x265 r263 w4 fun r267 w5 =>
      nodelaw_walk.B6 script_b script_l script_c steady quiet b r267 r257 was wasm mine_b mine_l mine_c i w5 N1 R) (
      nodelaw_walk.B6 script_b script_l script_c steady quiet b x r257 was wasm mine_b mine_l mine_c i w1 N1 R))
theorem nodelaw_walk.B9_eq (script_b : Option Addr) (script_l script_c : Nat) (steady quiet : Bool) (b : Nat) (x m0 : Option Addr) (was wasm : Nat) (mine_b : Option Addr) (mine_l mine_c : Nat) (i : Int) (o b0 : Nat) (j : Int) (t252 : Bool) (w : World) (N1 : Option Addr → Nat → Nat → Bool → Bool → Nat → Option Addr → Option Addr → Nat → Nat → Option Addr → Nat → Nat → Int → World → Prop)  (R : Int → Int → World → Prop) (sB6 : Option Addr → Nat → Nat → Bool → Bool → Nat → Option Addr → Option Addr → Nat → Nat → Option Addr → Nat → Nat → Int → World → Prop) :
    (
  Bm t252 (
    R i i w) (
    nodem_Node_After.Call m0 j w fun r257 w1 =>
    Bm quiet (
      LdP ⟨b0, 0, none⟩ w1 fun x259_0 =>
      LdP ⟨b0, 1, none⟩ w1 fun x259_1 =>
      LdI .i64 ⟨b0, 2, none⟩ w1 fun x259_2 =>
      LdI .i64 ⟨o, 1, none⟩ w1 fun x261 =>
      nodelaw_After.Call x259_0 x259_1 x259_2 x261 w1 fun r262_0 r262_1 r262_2 w2 =>
      Sts [.pointer r262_0, .pointer r262_1, .int .i64 r262_2] ⟨b, 0, none⟩ 0 w2 fun w3 =>
      kv_New.Call  w3 fun r263 w4 =>
      LdP ⟨b, 1, none⟩ w4 fun x265 =>
      node_Open.Call x265 r263 w4 fun r267 w5 =>
      sB6 script_b script_l script_c steady quiet b r267 r257 was wasm mine_b mine_l mine_c i w5) (
      sB6 script_b script_l script_c steady quiet b x r257 was wasm mine_b mine_l mine_c i w1))) = kstep Tryz.prog 273 Tryz.f7.results.toList (Tryz.f7.body.getD .skip) (nodelaw_walk.RV R) (kvc Tryz.prog 273 Tryz.f7.results.toList (Tryz.f7.body.getD .skip) (nodelaw_walk.RV R) [([(0, [1, 1, 1, 1, 1, 1, 1, 1, 1, 0, 1, 0, 0, 1, 1]), (2, [1, 1, 1, 1, 1, 1, 1, 1, 1, 0, 1, 0, 0]), (1, [0]), (0, [1, 1, 1, 1, 1, 1, 1, 1, 1, 1])], fun σ w => dL (slotOf σ 0) fun script_b_ script_l_ script_c_ => dB (slotOf σ 1) fun steady_ => dB (slotOf σ 2) fun quiet_ => dK (slotOf σ 8) fun b_ => dP (slotOf σ 10) fun x_ => dP (slotOf σ 11) fun m0_ => dK (slotOf σ 12) fun was_ => dK (slotOf σ 13) fun wasm_ => dL (slotOf σ 14) fun mine_b_ mine_l_ mine_c_ => dI .i64 (slotOf σ 15) fun i_ => sB6 script_b_ script_l_ script_c_ steady_ quiet_ b_ x_ m0_ was_ wasm_ mine_b_ mine_l_ mine_c_ i_ w)] 2000) [(0, [1, 1, 1, 1, 1, 1, 1, 1, 1, 0, 1, 0, 0, 1, 0, 0, 1, 1, 1, 1, 1, 1, 0, 1, 1, 1, 1, 1, 1, 1, 1, 1, 1, 1, 1, 1, 1, 0, 1]), (0, [1, 1, 1, 1, 1, 1, 1, 1, 1, 0, 1, 0, 0, 1, 0, 0, 1, 1, 1, 1, 1, 1, 0, 1, 1, 1, 1, 1, 1, 1, 1, 1, 1, 1, 1, 1, 1, 1]), (1, [1]), (0, [1, 1, 1, 1, 1, 1, 1, 1, 1, 0, 1, 0, 0, 1, 1]), (2, [1, 1, 1, 1, 1, 1, 1, 1, 1, 0, 1, 0, 0]), (1, [0]), (0, [1, 1, 1, 1, 1, 1, 1, 1, 1, 1])] [(0, .slice script_b script_l script_c), (1, .bool steady), (2, .bool quiet), (8, .pointer (some ⟨b, 0, none⟩)), (10, .pointer x), (11, .pointer m0), (12, .pointer (some ⟨was, 0, none⟩)), (13, .pointer (some ⟨wasm, 0, none⟩)), (14, .slice mine_b mine_l mine_c), (15, .int .i64 i), (16, .pointer (some ⟨o, 0, none⟩)), (22, .pointer (some ⟨b0, 0, none⟩)), (25, .int .i64 j), (252, .bool t252)] w := by kernel_rfl
theorem nodelaw_walk.B9_sound {R : Int → Int → World → Prop} {N1 : Option Addr → Nat → Nat → Bool → Bool → Nat → Option Addr → Option Addr → Nat → Nat → Option Addr → Nat → Nat → Int → World → Prop} (hN1 : ∀ script_b script_l script_c steady quiet b x m0 was wasm mine_b mine_l mine_c i w, N1 script_b script_l script_c steady quiet b x m0 was wasm mine_b mine_l mine_c i w → KW Tryz.prog 7 273 (nodelaw_walk.RV R) ([(0, [1, 1, 1, 1, 1, 1, 1, 1, 1, 0, 1, 0, 0]), (2, [1, 1, 1, 1, 1, 1, 1, 1, 1, 0, 1, 0, 0]), (1, [0]), (0, [1, 1, 1, 1, 1, 1, 1, 1, 1, 1])].map (toItem (Tryz.f7.body.getD .skip))) [(0, .slice script_b script_l script_c), (1, .bool steady), (2, .bool quiet), (8, .pointer (some ⟨b, 0, none⟩)), (10, .pointer x), (11, .pointer m0), (12, .pointer (some ⟨was, 0, none⟩)), (13, .pointer (some ⟨wasm, 0, none⟩)), (14, .slice mine_b mine_l mine_c), (15, .int .i64 i)] w) (script_b : Option Addr) (script_l script_c : Nat) (steady quiet : Bool) (b : Nat) (x m0 : Option Addr) (was wasm : Nat) (mine_b : Option Addr) (mine_l mine_c : Nat) (i : Int) (o b0 : Nat) (j : Int) (t252 : Bool) (w : World) (h : nodelaw_walk.B9 script_b script_l script_c steady quiet b x m0 was wasm mine_b mine_l mine_c i o b0 j t252 w N1  R) :
    KW Tryz.prog 7 273 (nodelaw_walk.RV R) ([(0, [1, 1, 1, 1, 1, 1, 1, 1, 1, 0, 1, 0, 0, 1, 0, 0, 1, 1, 1, 1, 1, 1, 0, 1, 1, 1, 1, 1, 1, 1, 1, 1, 1, 1, 1, 1, 1, 0, 1]), (0, [1, 1, 1, 1, 1, 1, 1, 1, 1, 0, 1, 0, 0, 1, 0, 0, 1, 1, 1, 1, 1, 1, 0, 1, 1, 1, 1, 1, 1, 1, 1, 1, 1, 1, 1, 1, 1, 1]), (1, [1]), (0, [1, 1, 1, 1, 1, 1, 1, 1, 1, 0, 1, 0, 0, 1, 1]), (2, [1, 1, 1, 1, 1, 1, 1, 1, 1, 0, 1, 0, 0]), (1, [0]), (0, [1, 1, 1, 1, 1, 1, 1, 1, 1, 1])].map (toItem (Tryz.f7.body.getD .skip))) [(0, .slice script_b script_l script_c), (1, .bool steady), (2, .bool quiet), (8, .pointer (some ⟨b, 0, none⟩)), (10, .pointer x), (11, .pointer m0), (12, .pointer (some ⟨was, 0, none⟩)), (13, .pointer (some ⟨wasm, 0, none⟩)), (14, .slice mine_b mine_l mine_c), (15, .int .i64 i), (16, .pointer (some ⟨o, 0, none⟩)), (22, .pointer (some ⟨b0, 0, none⟩)), (25, .int .i64 j), (252, .bool t252)] w := by
  exact block_spec Tryz.func7 Tryz.mixed (stops_cons (fun σ w h => by
      obtain ⟨script_b_, script_l_, script_c_, e0, h⟩ := dL_elim h
      obtain ⟨steady_, e1, h⟩ := dB_elim h
      obtain ⟨quiet_, e2, h⟩ := dB_elim h
      obtain ⟨b_, e3, h⟩ := dK_elim h
      obtain ⟨x_, e4, h⟩ := dP_elim h
      obtain ⟨m0_, e5, h⟩ := dP_elim h
      obtain ⟨was_, e6, h⟩ := dK_elim h
      obtain ⟨wasm_, e7, h⟩ := dK_elim h
      obtain ⟨mine_b_, mine_l_, mine_c_, e8, h⟩ := dL_elim h
      obtain ⟨i_, e9, h⟩ := dI_elim h
      exact (nodelaw_walk.B6_sound hN1 script_b_ script_l_ script_c_ steady_ quiet_ b_ x_ m0_ was_ wasm_ mine_b_ mine_l_ mine_c_ i_ w h).weaken (Sub.cons (Sub.cons (Sub.cons (Sub.cons (Sub.cons (Sub.cons (Sub.cons (Sub.cons (Sub.cons (Sub.cons (Sub.nil _) e9) e8) e7) e6) e5) e4) e3) e2) e1) e0)) stops_nil) (Eq.mp (nodelaw_walk.B9_eq script_b script_l script_c steady quiet b x m0 was wasm mine_b mine_l mine_c i o b0 j t252 w N1  R (fun script_b_ script_l_ script_c_ steady_ quiet_ b_ x_ m0_ was_ wasm_ mine_b_ mine_l_ mine_c_ i_ w => nodelaw_walk.B6 script_b_ script_l_ script_c_ steady_ quiet_ b_ x_ m0_ was_ wasm_ mine_b_ mine_l_ mine_c_ i_ w N1 R)) h)
def nodelaw_walk.B8 (script_b : Option Addr) (script_l script_c : Nat) (steady quiet : Bool) (b : Nat) (x m0 : Option Addr) (was wasm : Nat) (mine_b : Option Addr) (mine_l mine_c : Nat) (i : Int) (o : Nat) (n : Int) (b0 : Nat) (j : Int) (whole t242 : Bool) (w : World) (N1 : Option Addr → Nat → Nat → Bool → Bool → Nat → Option Addr → Option Addr → Nat → Nat → Option Addr → Nat → Nat → Int → World → Prop)  (R : Int → Int → World → Prop) : Prop :=
  Bm t242 (
    R i i w) (
    LdI .i64 ⟨o, 1, none⟩ w fun x246 =>
    Bm (decide (x246 ≥ n)) (
      nodelaw_walk.B9 script_b script_l script_c steady quiet b x m0 was wasm mine_b mine_l mine_c i o b0 j (!whole) w N1 R) (
      nodelaw_walk.B9 script_b script_l script_c steady quiet b x m0 was wasm mine_b mine_l mine_c i o b0 j false w N1 R))
theorem nodelaw_walk.B8_eq (script_b : Option Addr) (script_l script_c : Nat) (steady quiet : Bool) (b : Nat) (x m0 : Option Addr) (was wasm : Nat) (mine_b : Option Addr) (mine_l mine_c : Nat) (i : Int) (o : Nat) (n : Int) (b0 : Nat) (j : Int) (whole t242 : Bool) (w : World) (N1 : Option Addr → Nat → Nat → Bool → Bool → Nat → Option Addr → Option Addr → Nat → Nat → Option Addr → Nat → Nat → Int → World → Prop)  (R : Int → Int → World → Prop) (sB9 : Option Addr → Nat → Nat → Bool → Bool → Nat → Option Addr → Option Addr → Nat → Nat → Option Addr → Nat → Nat → Int → Nat → Nat → Int → Bool → World → Prop) :
    (
  Bm t242 (
    R i i w) (
    LdI .i64 ⟨o, 1, none⟩ w fun x246 =>
    Bm (decide (x246 ≥ n)) (
      sB9 script_b script_l script_c steady quiet b x m0 was wasm mine_b mine_l mine_c i o b0 j (!whole) w) (
      sB9 script_b script_l script_c steady quiet b x m0 was wasm mine_b mine_l mine_c i o b0 j false w))) = kstep Tryz.prog 273 Tryz.f7.results.toList (Tryz.f7.body.getD .skip) (nodelaw_walk.RV R) (kvc Tryz.prog 273 Tryz.f7.results.toList (Tryz.f7.body.getD .skip) (nodelaw_walk.RV R) [([(0, [1, 1, 1, 1, 1, 1, 1, 1, 1, 0, 1, 0, 0, 1, 0, 0, 1, 1, 1, 1, 1, 1, 0, 1, 1, 1, 1, 1, 1, 1, 1, 1, 1, 1, 1, 1, 1, 0, 1]), (0, [1, 1, 1, 1, 1, 1, 1, 1, 1, 0, 1, 0, 0, 1, 0, 0, 1, 1, 1, 1, 1, 1, 0, 1, 1, 1, 1, 1, 1, 1, 1, 1, 1, 1, 1, 1, 1, 1]), (1, [1]), (0, [1, 1, 1, 1, 1, 1, 1, 1, 1, 0, 1, 0, 0, 1, 1]), (2, [1, 1, 1, 1, 1, 1, 1, 1, 1, 0, 1, 0, 0]), (1, [0]), (0, [1, 1, 1, 1, 1, 1, 1, 1, 1, 1])], fun σ w => dL (slotOf σ 0) fun script_b_ script_l_ script_c_ => dB (slotOf σ 1) fun steady_ => dB (slotOf σ 2) fun quiet_ => dK (slotOf σ 8) fun b_ => dP (slotOf σ 10) fun x_ => dP (slotOf σ 11) fun m0_ => dK (slotOf σ 12) fun was_ => dK (slotOf σ 13) fun wasm_ => dL (slotOf σ 14) fun mine_b_ mine_l_ mine_c_ => dI .i64 (slotOf σ 15) fun i_ => dK (slotOf σ 16) fun o_ => dK (slotOf σ 22) fun b0_ => dI .i64 (slotOf σ 25) fun j_ => dB (slotOf σ 252) fun t252_ => sB9 script_b_ script_l_ script_c_ steady_ quiet_ b_ x_ m0_ was_ wasm_ mine_b_ mine_l_ mine_c_ i_ o_ b0_ j_ t252_ w)] 2000) [(0, [1, 1, 1, 1, 1, 1, 1, 1, 1, 0, 1, 0, 0, 1, 0, 0, 1, 1, 1, 1, 1, 1, 0, 1, 1, 1, 1, 1, 1, 1, 1, 1, 1, 1, 1, 1, 0, 1]), (0, [1, 1, 1, 1, 1, 1, 1, 1, 1, 0, 1, 0, 0, 1, 0, 0, 1, 1, 1, 1, 1, 1, 0, 1, 1, 1, 1, 1, 1, 1, 1, 1, 1, 1, 1, 1, 1]), (1, [1]), (0, [1, 1, 1, 1, 1, 1, 1, 1, 1, 0, 1, 0, 0, 1, 1]), (2, [1, 1, 1, 1, 1, 1, 1, 1, 1, 0, 1, 0, 0]), (1, [0]), (0, [1, 1, 1, 1, 1, 1, 1, 1, 1, 1])] [(0, .slice script_b script_l script_c), (1, .bool steady), (2, .bool quiet), (8, .pointer (some ⟨b, 0, none⟩)), (10, .pointer x), (11, .pointer m0), (12, .pointer (some ⟨was, 0, none⟩)), (13, .pointer (some ⟨wasm, 0, none⟩)), (14, .slice mine_b mine_l mine_c), (15, .int .i64 i), (16, .pointer (some ⟨o, 0, none⟩)), (21, .int .i64 n), (22, .pointer (some ⟨b0, 0, none⟩)), (25, .int .i64 j), (28, .bool whole), (242, .bool t242)] w := by kernel_rfl
theorem nodelaw_walk.B8_sound {R : Int → Int → World → Prop} {N1 : Option Addr → Nat → Nat → Bool → Bool → Nat → Option Addr → Option Addr → Nat → Nat → Option Addr → Nat → Nat → Int → World → Prop} (hN1 : ∀ script_b script_l script_c steady quiet b x m0 was wasm mine_b mine_l mine_c i w, N1 script_b script_l script_c steady quiet b x m0 was wasm mine_b mine_l mine_c i w → KW Tryz.prog 7 273 (nodelaw_walk.RV R) ([(0, [1, 1, 1, 1, 1, 1, 1, 1, 1, 0, 1, 0, 0]), (2, [1, 1, 1, 1, 1, 1, 1, 1, 1, 0, 1, 0, 0]), (1, [0]), (0, [1, 1, 1, 1, 1, 1, 1, 1, 1, 1])].map (toItem (Tryz.f7.body.getD .skip))) [(0, .slice script_b script_l script_c), (1, .bool steady), (2, .bool quiet), (8, .pointer (some ⟨b, 0, none⟩)), (10, .pointer x), (11, .pointer m0), (12, .pointer (some ⟨was, 0, none⟩)), (13, .pointer (some ⟨wasm, 0, none⟩)), (14, .slice mine_b mine_l mine_c), (15, .int .i64 i)] w) (script_b : Option Addr) (script_l script_c : Nat) (steady quiet : Bool) (b : Nat) (x m0 : Option Addr) (was wasm : Nat) (mine_b : Option Addr) (mine_l mine_c : Nat) (i : Int) (o : Nat) (n : Int) (b0 : Nat) (j : Int) (whole t242 : Bool) (w : World) (h : nodelaw_walk.B8 script_b script_l script_c steady quiet b x m0 was wasm mine_b mine_l mine_c i o n b0 j whole t242 w N1  R) :
    KW Tryz.prog 7 273 (nodelaw_walk.RV R) ([(0, [1, 1, 1, 1, 1, 1, 1, 1, 1, 0, 1, 0, 0, 1, 0, 0, 1, 1, 1, 1, 1, 1, 0, 1, 1, 1, 1, 1, 1, 1, 1, 1, 1, 1, 1, 1, 0, 1]), (0, [1, 1, 1, 1, 1, 1, 1, 1, 1, 0, 1, 0, 0, 1, 0, 0, 1, 1, 1, 1, 1, 1, 0, 1, 1, 1, 1, 1, 1, 1, 1, 1, 1, 1, 1, 1, 1]), (1, [1]), (0, [1, 1, 1, 1, 1, 1, 1, 1, 1, 0, 1, 0, 0, 1, 1]), (2, [1, 1, 1, 1, 1, 1, 1, 1, 1, 0, 1, 0, 0]), (1, [0]), (0, [1, 1, 1, 1, 1, 1, 1, 1, 1, 1])].map (toItem (Tryz.f7.body.getD .skip))) [(0, .slice script_b script_l script_c), (1, .bool steady), (2, .bool quiet), (8, .pointer (some ⟨b, 0, none⟩)), (10, .pointer x), (11, .pointer m0), (12, .pointer (some ⟨was, 0, none⟩)), (13, .pointer (some ⟨wasm, 0, none⟩)), (14, .slice mine_b mine_l mine_c), (15, .int .i64 i), (16, .pointer (some ⟨o, 0, none⟩)), (21, .int .i64 n), (22, .pointer (some ⟨b0, 0, none⟩)), (25, .int .i64 j), (28, .bool whole), (242, .bool t242)] w := by
  exact block_spec Tryz.func7 Tryz.mixed (stops_cons (fun σ w h => by
      obtain ⟨script_b_, script_l_, script_c_, e0, h⟩ := dL_elim h
      obtain ⟨steady_, e1, h⟩ := dB_elim h
      obtain ⟨quiet_, e2, h⟩ := dB_elim h
      obtain ⟨b_, e3, h⟩ := dK_elim h
      obtain ⟨x_, e4, h⟩ := dP_elim h
      obtain ⟨m0_, e5, h⟩ := dP_elim h
      obtain ⟨was_, e6, h⟩ := dK_elim h
      obtain ⟨wasm_, e7, h⟩ := dK_elim h
      obtain ⟨mine_b_, mine_l_, mine_c_, e8, h⟩ := dL_elim h
      obtain ⟨i_, e9, h⟩ := dI_elim h
      obtain ⟨o_, e10, h⟩ := dK_elim h
      obtain ⟨b0_, e11, h⟩ := dK_elim h
      obtain ⟨j_, e12, h⟩ := dI_elim h
      obtain ⟨t252_, e13, h⟩ := dB_elim h
      exact (nodelaw_walk.B9_sound hN1 script_b_ script_l_ script_c_ steady_ quiet_ b_ x_ m0_ was_ wasm_ mine_b_ mine_l_ mine_c_ i_ o_ b0_ j_ t252_ w h).weaken (Sub.cons (Sub.cons (Sub.cons (Sub.cons (Sub.cons (Sub.cons (Sub.cons (Sub.cons (Sub.cons (Sub.cons (Sub.cons (Sub.cons (Sub.cons (Sub.cons (Sub.nil _) e13) e12) e11) e10) e9) e8) e7) e6) e5) e4) e3) e2) e1) e0)) stops_nil) (Eq.mp (nodelaw_walk.B8_eq script_b script_l script_c steady quiet b x m0 was wasm mine_b mine_l mine_c i o n b0 j whole t242 w N1  R (fun script_b_ script_l_ script_c_ steady_ quiet_ b_ x_ m0_ was_ wasm_ mine_b_ mine_l_ mine_c_ i_ o_ b0_ j_ t252_ w => nodelaw_walk.B9 script_b_ script_l_ script_c_ steady_ quiet_ b_ x_ m0_ was_ wasm_ mine_b_ mine_l_ mine_c_ i_ o_ b0_ j_ t252_ w N1 R)) h)
def nodelaw_walk.B5 (script_b : Option Addr) (script_l script_c : Nat) (steady quiet : Bool) (b : Nat) (x m0 : Option Addr) (was wasm : Nat) (mine_b : Option Addr) (mine_l mine_c : Nat) (i : Int) (o : Nat) (n : Int) (b0 : Nat) (j : Int) (whole t229 : Bool) (w : World) (N1 : Option Addr → Nat → Nat → Bool → Bool → Nat → Option Addr → Option Addr → Nat → Nat → Option Addr → Nat → Nat → Int → World → Prop)  (R : Int → Int → World → Prop) : Prop :=
  Bm t229 (
    R i i w) (
    Bm (decide (j < (0 : Int))) (
      R i i w) (
      LdI .i64 ⟨o, 1, none⟩ w fun x237 =>
      Bm (decide (x237 ≤ (0 : Int))) (
        nodelaw_walk.B8 script_b script_l script_c steady quiet b x m0 was wasm mine_b mine_l mine_c i o n b0 j whole (j != (0 : Int)) w N1 R) (
        nodelaw_walk.B8 script_b script_l script_c steady quiet b x m0 was wasm mine_b mine_l mine_c i o n b0 j whole false w N1 R)))
theorem nodelaw_walk.B5_eq (script_b : Option Addr) (script_l script_c : Nat) (steady quiet : Bool) (b : Nat) (x m0 : Option Addr) (was wasm : Nat) (mine_b : Option Addr) (mine_l mine_c : Nat) (i : Int) (o : Nat) (n : Int) (b0 : Nat) (j : Int) (whole t229 : Bool) (w : World) (N1 : Option Addr → Nat → Nat → Bool → Bool → Nat → Option Addr → Option Addr → Nat → Nat → Option Addr → Nat → Nat → Int → World → Prop)  (R : Int → Int → World → Prop) (sB8 : Option Addr → Nat → Nat → Bool → Bool → Nat → Option Addr → Option Addr → Nat → Nat → Option Addr → Nat → Nat → Int → Nat → Int → Nat → Int → Bool → Bool → World → Prop) :
    (
  Bm t229 (
    R i i w) (
    Bm (decide (j < (0 : Int))) (
      R i i w) (
      LdI .i64 ⟨o, 1, none⟩ w fun x237 =>
      Bm (decide (x237 ≤ (0 : Int))) (
        sB8 script_b script_l script_c steady quiet b x m0 was wasm mine_b mine_l mine_c i o n b0 j whole (j != (0 : Int)) w) (
        sB8 script_b script_l script_c steady quiet b x m0 was wasm mine_b mine_l mine_c i o n b0 j whole false w)))) = kstep Tryz.prog 273 Tryz.f7.results.toList (Tryz.f7.body.getD .skip) (nodelaw_walk.RV R) (kvc Tryz.prog 273 Tryz.f7.results.toList (Tryz.f7.body.getD .skip) (nodelaw_walk.RV R) [([(0, [1, 1, 1, 1, 1, 1, 1, 1, 1, 0, 1, 0, 0, 1, 0, 0, 1, 1, 1, 1, 1, 1, 0, 1, 1, 1, 1, 1, 1, 1, 1, 1, 1, 1, 1, 1, 0, 1]), (0, [1, 1, 1, 1, 1, 1, 1, 1, 1, 0, 1, 0, 0, 1, 0, 0, 1, 1, 1, 1, 1, 1, 0, 1, 1, 1, 1, 1, 1, 1, 1, 1, 1, 1, 1, 1, 1]), (1, [1]), (0, [1, 1, 1, 1, 1, 1, 1, 1, 1, 0, 1, 0, 0, 1, 1]), (2, [1, 1, 1, 1, 1, 1, 1, 1, 1, 0, 1, 0, 0]), (1, [0]), (0, [1, 1, 1, 1, 1, 1, 1, 1, 1, 1])], fun σ w => dL (slotOf σ 0) fun script_b_ script_l_ script_c_ => dB (slotOf σ 1) fun steady_ => dB (slotOf σ 2) fun quiet_ => dK (slotOf σ 8) fun b_ => dP (slotOf σ 10) fun x_ => dP (slotOf σ 11) fun m0_ => dK (slotOf σ 12) fun was_ => dK (slotOf σ 13) fun wasm_ => dL (slotOf σ 14) fun mine_b_ mine_l_ mine_c_ => dI .i64 (slotOf σ 15) fun i_ => dK (slotOf σ 16) fun o_ => dI .i64 (slotOf σ 21) fun n_ => dK (slotOf σ 22) fun b0_ => dI .i64 (slotOf σ 25) fun j_ => dB (slotOf σ 28) fun whole_ => dB (slotOf σ 242) fun t242_ => sB8 script_b_ script_l_ script_c_ steady_ quiet_ b_ x_ m0_ was_ wasm_ mine_b_ mine_l_ mine_c_ i_ o_ n_ b0_ j_ whole_ t242_ w)] 2000) [(0, [1, 1, 1, 1, 1, 1, 1, 1, 1, 0, 1, 0, 0, 1, 0, 0, 1, 1, 1, 1, 1, 1, 0, 1, 1, 1, 1, 1, 1, 1, 1, 1, 1, 1, 0, 1]), (0, [1, 1, 1, 1, 1, 1, 1, 1, 1, 0, 1, 0, 0, 1, 0, 0, 1, 1, 1, 1, 1, 1, 0, 1, 1, 1, 1, 1, 1, 1, 1, 1, 1, 1, 1]), (1, [1]), (0, [1, 1, 1, 1, 1, 1, 1, 1, 1, 0, 1, 0, 0, 1, 1]), (2, [1, 1, 1, 1, 1, 1, 1, 1, 1, 0, 1, 0, 0]), (1, [0]), (0, [1, 1, 1, 1, 1, 1, 1, 1, 1, 1])] [(0, .slice script_b script_l script_c), (1, .bool steady), (2, .bool quiet), (8, .pointer (some ⟨b, 0, none⟩)), (10, .pointer x), (11, .pointer m0), (12, .pointer (some ⟨was, 0, none⟩)), (13, .pointer (some ⟨wasm, 0, none⟩)), (14, .slice mine_b mine_l mine_c), (15, .int .i64 i), (16, .pointer (some ⟨o, 0, none⟩)), (21, .int .i64 n), (22, .pointer (some ⟨b0, 0, none⟩)), (25, .int .i64 j), (28, .bool whole), (229, .bool t229)] w := by kernel_rfl
theorem nodelaw_walk.B5_sound {R : Int → Int → World → Prop} {N1 : Option Addr → Nat → Nat → Bool → Bool → Nat → Option Addr → Option Addr → Nat → Nat → Option Addr → Nat → Nat → Int → World → Prop} (hN1 : ∀ script_b script_l script_c steady quiet b x m0 was wasm mine_b mine_l mine_c i w, N1 script_b script_l script_c steady quiet b x m0 was wasm mine_b mine_l mine_c i w → KW Tryz.prog 7 273 (nodelaw_walk.RV R) ([(0, [1, 1, 1, 1, 1, 1, 1, 1, 1, 0, 1, 0, 0]), (2, [1, 1, 1, 1, 1, 1, 1, 1, 1, 0, 1, 0, 0]), (1, [0]), (0, [1, 1, 1, 1, 1, 1, 1, 1, 1, 1])].map (toItem (Tryz.f7.body.getD .skip))) [(0, .slice script_b script_l script_c), (1, .bool steady), (2, .bool quiet), (8, .pointer (some ⟨b, 0, none⟩)), (10, .pointer x), (11, .pointer m0), (12, .pointer (some ⟨was, 0, none⟩)), (13, .pointer (some ⟨wasm, 0, none⟩)), (14, .slice mine_b mine_l mine_c), (15, .int .i64 i)] w) (script_b : Option Addr) (script_l script_c : Nat) (steady quiet : Bool) (b : Nat) (x m0 : Option Addr) (was wasm : Nat) (mine_b : Option Addr) (mine_l mine_c : Nat) (i : Int) (o : Nat) (n : Int) (b0 : Nat) (j : Int) (whole t229 : Bool) (w : World) (h : nodelaw_walk.B5 script_b script_l script_c steady quiet b x m0 was wasm mine_b mine_l mine_c i o n b0 j whole t229 w N1  R) :
    KW Tryz.prog 7 273 (nodelaw_walk.RV R) ([(0, [1, 1, 1, 1, 1, 1, 1, 1, 1, 0, 1, 0, 0, 1, 0, 0, 1, 1, 1, 1, 1, 1, 0, 1, 1, 1, 1, 1, 1, 1, 1, 1, 1, 1, 0, 1]), (0, [1, 1, 1, 1, 1, 1, 1, 1, 1, 0, 1, 0, 0, 1, 0, 0, 1, 1, 1, 1, 1, 1, 0, 1, 1, 1, 1, 1, 1, 1, 1, 1, 1, 1, 1]), (1, [1]), (0, [1, 1, 1, 1, 1, 1, 1, 1, 1, 0, 1, 0, 0, 1, 1]), (2, [1, 1, 1, 1, 1, 1, 1, 1, 1, 0, 1, 0, 0]), (1, [0]), (0, [1, 1, 1, 1, 1, 1, 1, 1, 1, 1])].map (toItem (Tryz.f7.body.getD .skip))) [(0, .slice script_b script_l script_c), (1, .bool steady), (2, .bool quiet), (8, .pointer (some ⟨b, 0, none⟩)), (10, .pointer x), (11, .pointer m0), (12, .pointer (some ⟨was, 0, none⟩)), (13, .pointer (some ⟨wasm, 0, none⟩)), (14, .slice mine_b mine_l mine_c), (15, .int .i64 i), (16, .pointer (some ⟨o, 0, none⟩)), (21, .int .i64 n), (22, .pointer (some ⟨b0, 0, none⟩)), (25, .int .i64 j), (28, .bool whole), (229, .bool t229)] w := by
  exact block_spec Tryz.func7 Tryz.mixed (stops_cons (fun σ w h => by
      obtain ⟨script_b_, script_l_, script_c_, e0, h⟩ := dL_elim h
      obtain ⟨steady_, e1, h⟩ := dB_elim h
      obtain ⟨quiet_, e2, h⟩ := dB_elim h
      obtain ⟨b_, e3, h⟩ := dK_elim h
      obtain ⟨x_, e4, h⟩ := dP_elim h
      obtain ⟨m0_, e5, h⟩ := dP_elim h
      obtain ⟨was_, e6, h⟩ := dK_elim h
      obtain ⟨wasm_, e7, h⟩ := dK_elim h
      obtain ⟨mine_b_, mine_l_, mine_c_, e8, h⟩ := dL_elim h
      obtain ⟨i_, e9, h⟩ := dI_elim h
      obtain ⟨o_, e10, h⟩ := dK_elim h
      obtain ⟨n_, e11, h⟩ := dI_elim h
      obtain ⟨b0_, e12, h⟩ := dK_elim h
      obtain ⟨j_, e13, h⟩ := dI_elim h
      obtain ⟨whole_, e14, h⟩ := dB_elim h
      obtain ⟨t242_, e15, h⟩ := dB_elim h
      exact (nodelaw_walk.B8_sound hN1 script_b_ script_l_ script_c_ steady_ quiet_ b_ x_ m0_ was_ wasm_ mine_b_ mine_l_ mine_c_ i_ o_ n_ b0_ j_ whole_ t242_ w h).weaken (Sub.cons (Sub.cons (Sub.cons (Sub.cons (Sub.cons (Sub.cons (Sub.cons (Sub.cons (Sub.cons (Sub.cons (Sub.cons (Sub.cons (Sub.cons (Sub.cons (Sub.cons (Sub.cons (Sub.nil _) e15) e14) e13) e12) e11) e10) e9) e8) e7) e6) e5) e4) e3) e2) e1) e0)) stops_nil) (Eq.mp (nodelaw_walk.B5_eq script_b script_l script_c steady quiet b x m0 was wasm mine_b mine_l mine_c i o n b0 j whole t229 w N1  R (fun script_b_ script_l_ script_c_ steady_ quiet_ b_ x_ m0_ was_ wasm_ mine_b_ mine_l_ mine_c_ i_ o_ n_ b0_ j_ whole_ t242_ w => nodelaw_walk.B8 script_b_ script_l_ script_c_ steady_ quiet_ b_ x_ m0_ was_ wasm_ mine_b_ mine_l_ mine_c_ i_ o_ n_ b0_ j_ whole_ t242_ w N1 R)) h)
def nodelaw_walk.B2 (script_b : Option Addr) (script_l script_c : Nat) (steady quiet : Bool) (b : Nat) (x m0 : Option Addr) (was wasm : Nat) (mine_b : Option Addr) (mine_l mine_c : Nat) (i : Int) (t57 : Bool) (w : World) (N1 : Option Addr → Nat → Nat → Bool → Bool → Nat → Option Addr → Option Addr → Nat → Nat → Option Addr → Nat → Nat → Int → World → Prop)  (R : Int → Int → World → Prop) : Prop :=
  Bm t57 (
    Pn script_b fun a =>
    (0 ≤ i ∧ i < ((script_l : Nat) : Int)) ∧
    LdI .i64 (Addr.add a (i.toNat * 6)) w fun x63_0 =>
    LdI .i64 ((Addr.add a (i.toNat * 6)).add 1) w fun x63_1 =>
    LdI .i64 ((Addr.add a (i.toNat * 6)).add 2) w fun x63_2 =>
    LdI .i64 ((Addr.add a (i.toNat * 6)).add 3) w fun x63_3 =>
    LdS ((Addr.add a (i.toNat * 6)).add 4) w fun x63_4 =>
    LdS ((Addr.add a (i.toNat * 6)).add 5) w fun x63_5 =>
    New (.cells #[.int .i64 (0 : Int), .int .i64 (0 : Int), .int .i64 (0 : Int), .int .i64 (0 : Int), .string (ByteArray.mk #[]), .string (ByteArray.mk #[])] 47) w fun o_ w1 =>
    Sts [.int .i64 x63_0, .int .i64 x63_1, .int .i64 x63_2, .int .i64 x63_3, .string x63_4, .string x63_5] ⟨o_, 0, none⟩ 0 w1 fun w2 =>
    LdI .i64 ⟨o_, 0, none⟩ w2 fun x65 =>
    Bm (x65 == (5 : Int)) (
      LdI .i64 ⟨o_, 1, none⟩ w2 fun x68 =>
      nodelaw_Ground.Call x68 w2 fun r69_0 r69_1 r69_2 w3 =>
      Sts [.pointer r69_0, .pointer r69_1, .int .i64 r69_2] ⟨b, 0, none⟩ 0 w3 fun w4 =>
      kv_New.Call  w4 fun r70 w5 =>
      LdP ⟨b, 1, none⟩ w5 fun x72 =>
      node_New.Call x72 r70 w5 fun r74 w6 =>
      LdI .i64 ⟨o_, 1, none⟩ w6 fun x76 =>
      nodem_New.Call x76 w6 fun r77 w7 =>
      LdP ⟨b, 0, none⟩ w7 fun x78_0 =>
      LdP ⟨b, 1, none⟩ w7 fun x78_1 =>
      LdI .i64 ⟨b, 2, none⟩ w7 fun x78_2 =>
      nodelaw_Steps.Call x78_0 x78_1 x78_2 w7 fun r79 w8 =>
      Bm (r79 != (0 : Int)) (
        R i i w8) (
        Bm (!quiet) (
          LdP ⟨b, 0, none⟩ w8 fun x88_0 =>
          LdP ⟨b, 1, none⟩ w8 fun x88_1 =>
          LdI .i64 ⟨b, 2, none⟩ w8 fun x88_2 =>
          nodelaw_Seen.Call r74 r77 x88_0 x88_1 x88_2 (0 : Int) (ByteArray.mk #[]) w8 fun r89 w9 =>
          nodelaw_walk.B3 script_b script_l script_c steady quiet b r74 r77 was wasm mine_b mine_l mine_c i (!r89) w9 N1 R) (
          nodelaw_walk.B3 script_b script_l script_c steady quiet b r74 r77 was wasm mine_b mine_l mine_c i false w8 N1 R))) (
      LdI .i64 ⟨o_, 0, none⟩ w2 fun x95 =>
      Bm (x95 != (4 : Int)) (
        LdP ⟨b, 0, none⟩ w2 fun x97_0 =>
        LdP ⟨b, 1, none⟩ w2 fun x97_1 =>
        LdI .i64 ⟨b, 2, none⟩ w2 fun x97_2 =>
        nodelaw_Mark.Call x97_0 x97_1 x97_2 w2 fun w10 =>
        nodem_Node_Mark.Call m0 w10 fun w11 =>
        LdI .i64 ⟨o_, 0, none⟩ w11 fun x102_0 =>
        LdI .i64 ⟨o_, 1, none⟩ w11 fun x102_1 =>
        LdI .i64 ⟨o_, 2, none⟩ w11 fun x102_2 =>
        LdI .i64 ⟨o_, 3, none⟩ w11 fun x102_3 =>
        LdS ⟨o_, 4, none⟩ w11 fun x102_4 =>
        LdS ⟨o_, 5, none⟩ w11 fun x102_5 =>
        nodelaw_EventReal.Call x x102_0 x102_1 x102_2 x102_3 x102_4 x102_5 w11 fun r103_0 r103_1_b r103_1_l r103_1_c r103_2_b r103_2_l r103_2_c w12 =>
        New (.cells #[.int .i64 (0 : Int), .slice none 0 0, .slice none 0 0] 42) w12 fun d_ w13 =>
        Sts [.int .i64 r103_0, .slice r103_1_b r103_1_l r103_1_c, .slice r103_2_b r103_2_l r103_2_c] ⟨d_, 0, none⟩ 0 w13 fun w14 =>
        LdI .i64 ⟨o_, 0, none⟩ w14 fun x105_0 =>
        LdI .i64 ⟨o_, 1, none⟩ w14 fun x105_1 =>
        LdI .i64 ⟨o_, 2, none⟩ w14 fun x105_2 =>
        LdI .i64 ⟨o_, 3, none⟩ w14 fun x105_3 =>
        LdS ⟨o_, 4, none⟩ w14 fun x105_4 =>
        LdS ⟨o_, 5, none⟩ w14 fun x105_5 =>
        nodelaw_EventModel.Call m0 x105_0 x105_1 x105_2 x105_3 x105_4 x105_5 w14 fun r106_0 r106_1_b r106_1_l r106_1_c r106_2_b r106_2_l r106_2_c w15 =>
        New (.cells #[.int .i64 (0 : Int), .slice none 0 0, .slice none 0 0] 42) w15 fun e_ w16 =>
        Sts [.int .i64 r106_0, .slice r106_1_b r106_1_l r106_1_c, .slice r106_2_b r106_2_l r106_2_c] ⟨e_, 0, none⟩ 0 w16 fun w17 =>
        LdI .i64 ⟨d_, 0, none⟩ w17 fun x107_0 =>
        LdL ⟨d_, 1, none⟩ w17 fun x107_1_b x107_1_l x107_1_c =>
        LdL ⟨d_, 2, none⟩ w17 fun x107_2_b x107_2_l x107_2_c =>
        LdI .i64 ⟨e_, 0, none⟩ w17 fun x108_0 =>
        LdL ⟨e_, 1, none⟩ w17 fun x108_1_b x108_1_l x108_1_c =>
        LdL ⟨e_, 2, none⟩ w17 fun x108_2_b x108_2_l x108_2_c =>
        nodelaw_SameDid.Call x107_0 x107_1_b x107_1_l x107_1_c x107_2_b x107_2_l x107_2_c x108_0 x108_1_b x108_1_l x108_1_c x108_2_b x108_2_l x108_2_c w17 fun r109 w18 =>
        Bm (!r109) (
          R i i w18) (
          LdI .i64 ⟨was, 0, none⟩ w18 fun x113_0 =>
          LdL ⟨was, 1, none⟩ w18 fun x113_1_b x113_1_l x113_1_c =>
          LdL ⟨was, 2, none⟩ w18 fun x113_2_b x113_2_l x113_2_c =>
          LdI .i64 ⟨wasm, 0, none⟩ w18 fun x114_0 =>
          LdL ⟨wasm, 1, none⟩ w18 fun x114_1_b x114_1_l x114_1_c =>
          LdL ⟨wasm, 2, none⟩ w18 fun x114_2_b x114_2_l x114_2_c =>
          nodelaw_SameDid.Call x113_0 x113_1_b x113_1_l x113_1_c x113_2_b x113_2_l x113_2_c x114_0 x114_1_b x114_1_l x114_1_c x114_2_b x114_2_l x114_2_c w18 fun r115 w19 =>
          Bm (!r115) (
            R i i w19) (
            nodelaw_Untouched.Call mine_b mine_l mine_c w19 fun r120 w20 =>
            Bm (!r120) (
              R i i w20) (
              LdI .i64 ⟨was, 0, none⟩ w20 fun x124_0 =>
              LdL ⟨was, 1, none⟩ w20 fun x124_1_b x124_1_l x124_1_c =>
              LdL ⟨was, 2, none⟩ w20 fun x124_2_b x124_2_l x124_2_c =>
              nodelaw_Spoil.Call x124_0 x124_1_b x124_1_l x124_1_c x124_2_b x124_2_l x124_2_c w20 fun w21 =>
              LdL ⟨was, 1, none⟩ w21 fun x127_b x127_l x127_c =>
              LdL ⟨was, 2, none⟩ w21 fun x130_b x130_l x130_c =>
              Bm (decide ((IntKind.i64.wrap (((x127_l : Nat) : Int) + ((x130_l : Nat) : Int))) > (0 : Int))) (
                Bm (decide (((mine_l : Nat) : Int) ≥ (8 : Int))) (
                  nodelaw_walk.L2 script_b script_l script_c steady quiet b x m0 was wasm mine_b mine_l mine_c i o_ d_ e_ (0 : Int) w21 N1 R) (
                  LdI .i64 ⟨was, 0, none⟩ w21 fun x158_0 =>
                  LdL ⟨was, 1, none⟩ w21 fun x158_1_b x158_1_l x158_1_c =>
                  LdL ⟨was, 2, none⟩ w21 fun x158_2_b x158_2_l x158_2_c =>
                  New (.cells #[.int .i64 x158_0, .slice x158_1_b x158_1_l x158_1_c, .slice x158_2_b x158_2_l x158_2_c] 42) w21 fun b159 w22 =>
                  Append 42 (.agg #[.int .i64 (0 : Int), .slice none 0 0, .slice none 0 0]) 3 56 mine_b mine_l mine_c (some ⟨b159, 0, none⟩) 1 w22 fun b160 c160 w23 =>
                  nodelaw_walk.B4 script_b script_l script_c steady quiet b x m0 was wasm b160 (mine_l + 1) c160 i o_ d_ e_ w23 N1 R)) (
                nodelaw_walk.B4 script_b script_l script_c steady quiet b x m0 was wasm mine_b mine_l mine_c i o_ d_ e_ w21 N1 R))))) (
        Bm (!steady) (
          LdP ⟨b, 0, none⟩ w2 fun x194_0 =>
          LdP ⟨b, 1, none⟩ w2 fun x194_1 =>
          LdI .i64 ⟨b, 2, none⟩ w2 fun x194_2 =>
          nodelaw_Steps.Call x194_0 x194_1 x194_2 w2 fun r195 w24 =>
          LdP ⟨b, 0, none⟩ w24 fun x196_0 =>
          LdP ⟨b, 1, none⟩ w24 fun x196_1 =>
          LdI .i64 ⟨b, 2, none⟩ w24 fun x196_2 =>
          New (.cells #[.pointer none, .pointer none, .int .i64 (0 : Int)] 30) w24 fun b0_ w25 =>
          Sts [.pointer x196_0, .pointer x196_1, .int .i64 x196_2] ⟨b0_, 0, none⟩ 0 w25 fun w26 =>
          LdP ⟨b0_, 0, none⟩ w26 fun x197_0 =>
          LdP ⟨b0_, 1, none⟩ w26 fun x197_1 =>
          LdI .i64 ⟨b0_, 2, none⟩ w26 fun x197_2 =>
          LdI .i64 ⟨o_, 1, none⟩ w26 fun x199 =>
          nodelaw_After.Call x197_0 x197_1 x197_2 x199 w26 fun r200_0 r200_1 r200_2 w27 =>
          Sts [.pointer r200_0, .pointer r200_1, .int .i64 r200_2] ⟨b, 0, none⟩ 0 w27 fun w28 =>
          kv_New.Call  w28 fun r201 w29 =>
          LdP ⟨b, 1, none⟩ w29 fun x203 =>
          node_Open.Call x203 r201 w29 fun r205 w30 =>
          LdP ⟨b, 0, none⟩ w30 fun x206_0 =>
          LdP ⟨b, 1, none⟩ w30 fun x206_1 =>
          LdI .i64 ⟨b, 2, none⟩ w30 fun x206_2 =>
          nodelaw_Steps.Call x206_0 x206_1 x206_2 w30 fun r207 w31 =>
          node_Node_Check.Call r205 w31 fun r209 w32 =>
          nodelaw_Match.Call r205 m0 w32 fun r213 w33 =>
          nodem_Node_Steps.Call m0 w33 fun r215 w34 =>
          nodem_Node_After.Call m0 r215 w34 fun r218 w35 =>
          nodelaw_Alike.Call r205 r218 (ByteArray.mk #[]) w35 fun r221 w36 =>
          Bm (!(r209.toList == (ByteArray.mk #[]).toList)) (
            nodelaw_walk.B5 script_b script_l script_c steady quiet b r205 m0 was wasm mine_b mine_l mine_c i o_ r195 b0_ r213 r221 true w36 N1 R) (
            LdP ⟨b, 0, none⟩ w36 fun x225_0 =>
            LdP ⟨b, 1, none⟩ w36 fun x225_1 =>
            LdI .i64 ⟨b, 2, none⟩ w36 fun x225_2 =>
            nodelaw_Steps.Call x225_0 x225_1 x225_2 w36 fun r226 w37 =>
            nodelaw_walk.B5 script_b script_l script_c steady quiet b r205 m0 was wasm mine_b mine_l mine_c i o_ r195 b0_ r213 r221 (r226 != r207) w37 N1 R)) (
          nodelaw_walk.B6 script_b script_l script_c steady quiet b x m0 was wasm mine_b mine_l mine_c i w2 N1 R)))) (
    Bm (decide (((script_l : Nat) : Int) < (4398046511104 : Int))) (
      R (-1 : Int) ((script_l : Nat) : Int) w) (
      R (-1 : Int) (4398046511104 : Int) w))
theorem nodelaw_walk.B2_eq (script_b : Option Addr) (script_l script_c : Nat) (steady quiet : Bool) (b : Nat) (x m0 : Option Addr) (was wasm : Nat) (mine_b : Option Addr) (mine_l mine_c : Nat) (i : Int) (t57 : Bool) (w : World) (N1 : Option Addr → Nat → Nat → Bool → Bool → Nat → Option Addr → Option Addr → Nat → Nat → Option Addr → Nat → Nat → Int → World → Prop)  (R : Int → Int → World → Prop) (sB3 : Option Addr → Nat → Nat → Bool → Bool → Nat → Option Addr → Option Addr → Nat → Nat → Option Addr → Nat → Nat → Int → Bool → World → Prop) (sL2 : Option Addr → Nat → Nat → Bool → Bool → Nat → Option Addr → Option Addr → Nat → Nat → Option Addr → Nat → Nat → Int → Nat → Nat → Nat → Int → World → Prop) (sB4 : Option Addr → Nat → Nat → Bool → Bool → Nat → Option Addr → Option Addr → Nat → Nat → Option Addr → Nat → Nat → Int → Nat → Nat → Nat → World → Prop) (sB5 : Option Addr → Nat → Nat → Bool → Bool → Nat → Option Addr → Option Addr → Nat → Nat → Option Addr → Nat → Nat → Int → Nat → Int → Nat → Int → Bool → Bool → World → Prop) (sB6 : Option Addr → Nat → Nat → Bool → Bool → Nat → Option Addr → Option Addr → Nat → Nat → Option Addr → Nat → Nat → Int → World → Prop) :
    (
  Bm t57 (
    Pn script_b fun a =>
    (0 ≤ i ∧ i < ((script_l : Nat) : Int)) ∧
    LdI .i64 (Addr.add a (i.toNat * 6)) w fun x63_0 =>
    LdI .i64 ((Addr.add a (i.toNat * 6)).add 1) w fun x63_1 =>
    LdI .i64 ((Addr.add a (i.toNat * 6)).add 2) w fun x63_2 =>
    LdI .i64 ((Addr.add a (i.toNat * 6)).add 3) w fun x63_3 =>
    LdS ((Addr.add a (i.toNat * 6)).add 4) w fun x63_4 =>
    LdS ((Addr.add a (i.toNat * 6)).add 5) w fun x63_5 =>
    New (.cells #[.int .i64 (0 : Int), .int .i64 (0 : Int), .int .i64 (0 : Int), .int .i64 (0 : Int), .string (ByteArray.mk #[]), .string (ByteArray.mk #[])] 47) w fun o_ w1 =>
    Sts [.int .i64 x63_0, .int .i64 x63_1, .int .i64 x63_2, .int .i64 x63_3, .string x63_4, .string x63_5] ⟨o_, 0, none⟩ 0 w1 fun w2 =>
    LdI .i64 ⟨o_, 0, none⟩ w2 fun x65 =>
    Bm (x65 == (5 : Int)) (
      LdI .i64 ⟨o_, 1, none⟩ w2 fun x68 =>
      nodelaw_Ground.Call x68 w2 fun r69_0 r69_1 r69_2 w3 =>
      Sts [.pointer r69_0, .pointer r69_1, .int .i64 r69_2] ⟨b, 0, none⟩ 0 w3 fun w4 =>
      kv_New.Call  w4 fun r70 w5 =>
      LdP ⟨b, 1, none⟩ w5 fun x72 =>
      node_New.Call x72 r70 w5 fun r74 w6 =>
      LdI .i64 ⟨o_, 1, none⟩ w6 fun x76 =>
      nodem_New.Call x76 w6 fun r77 w7 =>
      LdP ⟨b, 0, none⟩ w7 fun x78_0 =>
      LdP ⟨b, 1, none⟩ w7 fun x78_1 =>
      LdI .i64 ⟨b, 2, none⟩ w7 fun x78_2 =>
      nodelaw_Steps.Call x78_0 x78_1 x78_2 w7 fun r79 w8 =>
      Bm (r79 != (0 : Int)) (
        R i i w8) (
        Bm (!quiet) (
          LdP ⟨b, 0, none⟩ w8 fun x88_0 =>
          LdP ⟨b, 1, none⟩ w8 fun x88_1 =>
          LdI .i64 ⟨b, 2, none⟩ w8 fun x88_2 =>
          nodelaw_Seen.Call r74 r77 x88_0 x88_1 x88_2 (0 : Int) (ByteArray.mk #[]) w8 fun r89 w9 =>
          sB3 script_b script_l script_c steady quiet b r74 r77 was wasm mine_b mine_l mine_c i (!r89) w9) (
          sB3 script_b script_l script_c steady quiet b r74 r77 was wasm mine_b mine_l mine_c i false w8))) (
      LdI .i64 ⟨o_, 0, none⟩ w2 fun x95 =>
      Bm (x95 != (4 : Int)) (
        LdP ⟨b, 0, none⟩ w2 fun x97_0 =>
        LdP ⟨b, 1, none⟩ w2 fun x97_1 =>
        LdI .i64 ⟨b, 2, none⟩ w2 fun x97_2 =>
        nodelaw_Mark.Call x97_0 x97_1 x97_2 w2 fun w10 =>
        nodem_Node_Mark.Call m0 w10 fun w11 =>
        LdI .i64 ⟨o_, 0, none⟩ w11 fun x102_0 =>
        LdI .i64 ⟨o_, 1, none⟩ w11 fun x102_1 =>
        LdI .i64 ⟨o_, 2, none⟩ w11 fun x102_2 =>
        LdI .i64 ⟨o_, 3, none⟩ w11 fun x102_3 =>
        LdS ⟨o_, 4, none⟩ w11 fun x102_4 =>
        LdS ⟨o_, 5, none⟩ w11 fun x102_5 =>
        nodelaw_EventReal.Call x x102_0 x102_1 x102_2 x102_3 x102_4 x102_5 w11 fun r103_0 r103_1_b r103_1_l r103_1_c r103_2_b r103_2_l r103_2_c w12 =>
        New (.cells #[.int .i64 (0 : Int), .slice none 0 0, .slice none 0 0] 42) w12 fun d_ w13 =>
        Sts [.int .i64 r103_0, .slice r103_1_b r103_1_l r103_1_c, .slice r103_2_b r103_2_l r103_2_c] ⟨d_, 0, none⟩ 0 w13 fun w14 =>
        LdI .i64 ⟨o_, 0, none⟩ w14 fun x105_0 =>
        LdI .i64 ⟨o_, 1, none⟩ w14 fun x105_1 =>
        LdI .i64 ⟨o_, 2, none⟩ w14 fun x105_2 =>
        LdI .i64 ⟨o_, 3, none⟩ w14 fun x105_3 =>
        LdS ⟨o_, 4, none⟩ w14 fun x105_4 =>
        LdS ⟨o_, 5, none⟩ w14 fun x105_5 =>
        nodelaw_EventModel.Call m0 x105_0 x105_1 x105_2 x105_3 x105_4 x105_5 w14 fun r106_0 r106_1_b r106_1_l r106_1_c r106_2_b r106_2_l r106_2_c w15 =>
        New (.cells #[.int .i64 (0 : Int), .slice none 0 0, .slice none 0 0] 42) w15 fun e_ w16 =>
        Sts [.int .i64 r106_0, .slice r106_1_b r106_1_l r106_1_c, .slice r106_2_b r106_2_l r106_2_c] ⟨e_, 0, none⟩ 0 w16 fun w17 =>
        LdI .i64 ⟨d_, 0, none⟩ w17 fun x107_0 =>
        LdL ⟨d_, 1, none⟩ w17 fun x107_1_b x107_1_l x107_1_c =>
        LdL ⟨d_, 2, none⟩ w17 fun x107_2_b x107_2_l x107_2_c =>
        LdI .i64 ⟨e_, 0, none⟩ w17 fun x108_0 =>
        LdL ⟨e_, 1, none⟩ w17 fun x108_1_b x108_1_l x108_1_c =>
        LdL ⟨e_, 2, none⟩ w17 fun x108_2_b x108_2_l x108_2_c =>
        nodelaw_SameDid.Call x107_0 x107_1_b x107_1_l x107_1_c x107_2_b x107_2_l x107_2_c x108_0 x108_1_b x108_1_l x108_1_c x108_2_b x108_2_l x108_2_c w17 fun r109 w18 =>
        Bm (!r109) (
          R i i w18) (
          LdI .i64 ⟨was, 0, none⟩ w18 fun x113_0 =>
          LdL ⟨was, 1, none⟩ w18 fun x113_1_b x113_1_l x113_1_c =>
          LdL ⟨was, 2, none⟩ w18 fun x113_2_b x113_2_l x113_2_c =>
          LdI .i64 ⟨wasm, 0, none⟩ w18 fun x114_0 =>
          LdL ⟨wasm, 1, none⟩ w18 fun x114_1_b x114_1_l x114_1_c =>
          LdL ⟨wasm, 2, none⟩ w18 fun x114_2_b x114_2_l x114_2_c =>
          nodelaw_SameDid.Call x113_0 x113_1_b x113_1_l x113_1_c x113_2_b x113_2_l x113_2_c x114_0 x114_1_b x114_1_l x114_1_c x114_2_b x114_2_l x114_2_c w18 fun r115 w19 =>
          Bm (!r115) (
            R i i w19) (
            nodelaw_Untouched.Call mine_b mine_l mine_c w19 fun r120 w20 =>
            Bm (!r120) (
              R i i w20) (
              LdI .i64 ⟨was, 0, none⟩ w20 fun x124_0 =>
              LdL ⟨was, 1, none⟩ w20 fun x124_1_b x124_1_l x124_1_c =>
              LdL ⟨was, 2, none⟩ w20 fun x124_2_b x124_2_l x124_2_c =>
              nodelaw_Spoil.Call x124_0 x124_1_b x124_1_l x124_1_c x124_2_b x124_2_l x124_2_c w20 fun w21 =>
              LdL ⟨was, 1, none⟩ w21 fun x127_b x127_l x127_c =>
              LdL ⟨was, 2, none⟩ w21 fun x130_b x130_l x130_c =>
              Bm (decide ((IntKind.i64.wrap (((x127_l : Nat) : Int) + ((x130_l : Nat) : Int))) > (0 : Int))) (
                Bm (decide (((mine_l : Nat) : Int) ≥ (8 : Int))) (
                  sL2 script_b script_l script_c steady quiet b x m0 was wasm mine_b mine_l mine_c i o_ d_ e_ (0 : Int) w21) (
                  LdI .i64 ⟨was, 0, none⟩ w21 fun x158_0 =>
                  LdL ⟨was, 1, none⟩ w21 fun x158_1_b x158_1_l x158_1_c =>
                  LdL ⟨was, 2, none⟩ w21 fun x158_2_b x158_2_l x158_2_c =>
                  New (.cells #[.int .i64 x158_0, .slice x158_1_b x158_1_l x158_1_c, .slice x158_2_b x158_2_l x158_2_c] 42) w21 fun b159 w22 =>
                  Append 42 (.agg #[.int .i64 (0 : Int), .slice none 0 0, .slice none 0 0]) 3 56 mine_b mine_l mine_c (some ⟨b159, 0, none⟩) 1 w22 fun b160 c160 w23 =>
                  sB4 script_b script_l script_c steady quiet b x m0 was wasm b160 (mine_l + 1) c160 i o_ d_ e_ w23)) (
                sB4 script_b script_l script_c steady quiet b x m0 was wasm mine_b mine_l mine_c i o_ d_ e_ w21))))) (
        Bm (!steady) (
          LdP ⟨b, 0, none⟩ w2 fun x194_0 =>
          LdP ⟨b, 1, none⟩ w2 fun x194_1 =>
          LdI .i64 ⟨b, 2, none⟩ w2 fun x194_2 =>
          nodelaw_Steps.Call x194_0 x194_1 x194_2 w2 fun r195 w24 =>
          LdP ⟨b, 0, none⟩ w24 fun x196_0 =>
          LdP ⟨b, 1, none⟩ w24 fun x196_1 =>
          LdI .i64 ⟨b, 2, none⟩ w24 fun x196_2 =>
          New (.cells #[.pointer none, .pointer none, .int .i64 (0 : Int)] 30) w24 fun b0_ w25 =>
          Sts [.pointer x196_0, .pointer x196_1, .int .i64 x196_2] ⟨b0_, 0, none⟩ 0 w25 fun w26 =>
          LdP ⟨b0_, 0, none⟩ w26 fun x197_0 =>
          LdP ⟨b0_, 1, none⟩ w26 fun x197_1 =>
          LdI .i64 ⟨b0_, 2, none⟩ w26 fun x197_2 =>
          LdI .i64 ⟨o_, 1, none⟩ w26 fun x199 =>
          nodelaw_After.Call x197_0 x197_1 x197_2 x199 w26 fun r200_0 r200_1 r200_2 w27 =>
          Sts [.pointer r200_0, .pointer r200_1, .int .i64 r200_2] ⟨b, 0, none⟩ 0 w27 fun w28 =>
          kv_New.Call  w28 fun r201 w29 =>
          LdP ⟨b, 1, none⟩ w29 fun x203 =>
          node_Open.Call x203 r201 w29 fun r205 w30 =>
          LdP ⟨b, 0, none⟩ w30 fun x206_0 =>
          LdP ⟨b, 1, none⟩ w30 fun x206_1 =>
          LdI .i64 ⟨b, 2, none⟩ w30 fun x206_2 =>
          nodelaw_Steps.Call x206_0 x206_1 x206_2 w30 fun r207 w31 =>
          node_Node_Check.Call r205 w31 fun r209 w32 =>
          nodelaw_Match.Call r205 m0 w32 fun r213 w33 =>
          nodem_Node_Steps.Call m0 w33 fun r215 w34 =>
          nodem_Node_After.Call m0 r215 w34 fun r218 w35 =>
          nodelaw_Alike.Call r205 r218 (ByteArray.mk #[]) w35 fun r221 w36 =>
          Bm (!(r209.toList == (ByteArray.mk #[]).toList)) (
            sB5 script_b script_l script_c steady quiet b r205 m0 was wasm mine_b mine_l mine_c i o_ r195 b0_ r213 r221 true w36) (
            LdP ⟨b, 0, none⟩ w36 fun x225_0 =>
            LdP ⟨b, 1, none⟩ w36 fun x225_1 =>
            LdI .i64 ⟨b, 2, none⟩ w36 fun x225_2 =>
            nodelaw_Steps.Call x225_0 x225_1 x225_2 w36 fun r226 w37 =>
            sB5 script_b script_l script_c steady quiet b r205 m0 was wasm mine_b mine_l mine_c i o_ r195 b0_ r213 r221 (r226 != r207) w37)) (
          sB6 script_b script_l script_c steady quiet b x m0 was wasm mine_b mine_l mine_c i w2)))) (
    Bm (decide (((script_l : Nat) : Int) < (4398046511104 : Int))) (
      R (-1 : Int) ((script_l : Nat) : Int) w) (
      R (-1 : Int) (4398046511104 : Int) w))) = kstep Tryz.prog 273 Tryz.f7.results.toList (Tryz.f7.body.getD .skip) (nodelaw_walk.RV R) (kvc Tryz.prog 273 Tryz.f7.results.toList (Tryz.f7.body.getD .skip) (nodelaw_walk.RV R) [([(0, [1, 1, 1, 1, 1, 1, 1, 1, 1, 0, 1, 0, 0, 1, 0, 0, 1, 1, 0, 1, 1, 1, 1, 1, 1]), (1, [1]), (0, [1, 1, 1, 1, 1, 1, 1, 1, 1, 0, 1, 0, 0, 1, 1]), (2, [1, 1, 1, 1, 1, 1, 1, 1, 1, 0, 1, 0, 0]), (1, [0]), (0, [1, 1, 1, 1, 1, 1, 1, 1, 1, 1])], fun σ w => dL (slotOf σ 0) fun script_b_ script_l_ script_c_ => dB (slotOf σ 1) fun steady_ => dB (slotOf σ 2) fun quiet_ => dK (slotOf σ 8) fun b_ => dP (slotOf σ 10) fun x_ => dP (slotOf σ 11) fun m0_ => dK (slotOf σ 12) fun was_ => dK (slotOf σ 13) fun wasm_ => dL (slotOf σ 14) fun mine_b_ mine_l_ mine_c_ => dI .i64 (slotOf σ 15) fun i_ => dB (slotOf σ 91) fun t91_ => sB3 script_b_ script_l_ script_c_ steady_ quiet_ b_ x_ m0_ was_ wasm_ mine_b_ mine_l_ mine_c_ i_ t91_ w),
    ([(0, [1, 1, 1, 1, 1, 1, 1, 1, 1, 0, 1, 0, 0, 1, 0, 0, 1, 1, 1, 1, 0, 1, 1, 1, 1, 1, 1, 1, 1, 0, 1, 0, 0, 1, 0, 0, 1, 0, 0]), (2, [1, 1, 1, 1, 1, 1, 1, 1, 1, 0, 1, 0, 0, 1, 0, 0, 1, 1, 1, 1, 0, 1, 1, 1, 1, 1, 1, 1, 1, 0, 1, 0, 0, 1, 0, 0, 1, 0, 0]), (1, [2]), (0, [1, 1, 1, 1, 1, 1, 1, 1, 1, 0, 1, 0, 0, 1, 0, 0, 1, 1, 1, 1, 0, 1, 1, 1, 1, 1, 1, 1, 1, 0, 1, 0, 0, 1, 0, 1]), (0, [1, 1, 1, 1, 1, 1, 1, 1, 1, 0, 1, 0, 0, 1, 0, 0, 1, 1, 1, 1, 0, 1, 1, 1, 1, 1, 1, 1, 1, 0, 1, 0, 1]), (0, [1, 1, 1, 1, 1, 1, 1, 1, 1, 0, 1, 0, 0, 1, 0, 0, 1, 1, 1, 1, 0, 1, 1, 1, 1, 1, 1, 1, 1, 1]), (1, [1]), (0, [1, 1, 1, 1, 1, 1, 1, 1, 1, 0, 1, 0, 0, 1, 1]), (2, [1, 1, 1, 1, 1, 1, 1, 1, 1, 0, 1, 0, 0]), (1, [0]), (0, [1, 1, 1, 1, 1, 1, 1, 1, 1, 1])], fun σ w => dL (slotOf σ 0) fun script_b_ script_l_ script_c_ => dB (slotOf σ 1) fun steady_ => dB (slotOf σ 2) fun quiet_ => dK (slotOf σ 8) fun b_ => dP (slotOf σ 10) fun x_ => dP (slotOf σ 11) fun m0_ => dK (slotOf σ 12) fun was_ => dK (slotOf σ 13) fun wasm_ => dL (slotOf σ 14) fun mine_b_ mine_l_ mine_c_ => dI .i64 (slotOf σ 15) fun i_ => dK (slotOf σ 16) fun o_ => dK (slotOf σ 17) fun d_ => dK (slotOf σ 18) fun e_ => dI .i64 (slotOf σ 19) fun j_ => sL2 script_b_ script_l_ script_c_ steady_ quiet_ b_ x_ m0_ was_ wasm_ mine_b_ mine_l_ mine_c_ i_ o_ d_ e_ j_ w),
    ([(0, [1, 1, 1, 1, 1, 1, 1, 1, 1, 0, 1, 0, 0, 1, 0, 0, 1, 1, 1, 1, 0, 1, 1, 1, 1, 1, 1, 1, 1, 1]), (1, [1]), (0, [1, 1, 1, 1, 1, 1, 1, 1, 1, 0, 1, 0, 0, 1, 1]), (2, [1, 1, 1, 1, 1, 1, 1, 1, 1, 0, 1, 0, 0]), (1, [0]), (0, [1, 1, 1, 1, 1, 1, 1, 1, 1, 1])], fun σ w => dL (slotOf σ 0) fun script_b_ script_l_ script_c_ => dB (slotOf σ 1) fun steady_ => dB (slotOf σ 2) fun quiet_ => dK (slotOf σ 8) fun b_ => dP (slotOf σ 10) fun x_ => dP (slotOf σ 11) fun m0_ => dK (slotOf σ 12) fun was_ => dK (slotOf σ 13) fun wasm_ => dL (slotOf σ 14) fun mine_b_ mine_l_ mine_c_ => dI .i64 (slotOf σ 15) fun i_ => dK (slotOf σ 16) fun o_ => dK (slotOf σ 17) fun d_ => dK (slotOf σ 18) fun e_ => sB4 script_b_ script_l_ script_c_ steady_ quiet_ b_ x_ m0_ was_ wasm_ mine_b_ mine_l_ mine_c_ i_ o_ d_ e_ w),
    ([(0, [1, 1, 1, 1, 1, 1, 1, 1, 1, 0, 1, 0, 0, 1, 0, 0, 1, 1, 1, 1, 1, 1, 0, 1, 1, 1, 1, 1, 1, 1, 1, 1, 1, 1, 0, 1]), (0, [1, 1, 1, 1, 1, 1, 1, 1, 1, 0, 1, 0, 0, 1, 0, 0, 1, 1, 1, 1, 1, 1, 0, 1, 1, 1, 1, 1, 1, 1, 1, 1, 1, 1, 1]), (1, [1]), (0, [1, 1, 1, 1, 1, 1, 1, 1, 1, 0, 1, 0, 0, 1, 1]), (2, [1, 1, 1, 1, 1, 1, 1, 1, 1, 0, 1, 0, 0]), (1, [0]), (0, [1, 1, 1, 1, 1, 1, 1, 1, 1, 1])], fun σ w => dL (slotOf σ 0) fun script_b_ script_l_ script_c_ => dB (slotOf σ 1) fun steady_ => dB (slotOf σ 2) fun quiet_ => dK (slotOf σ 8) fun b_ => dP (slotOf σ 10) fun x_ => dP (slotOf σ 11) fun m0_ => dK (slotOf σ 12) fun was_ => dK (slotOf σ 13) fun wasm_ => dL (slotOf σ 14) fun mine_b_ mine_l_ mine_c_ => dI .i64 (slotOf σ 15) fun i_ => dK (slotOf σ 16) fun o_ => dI .i64 (slotOf σ 21) fun n_ => dK (slotOf σ 22) fun b0_ => dI .i64 (slotOf σ 25) fun j_ => dB (slotOf σ 28) fun whole_ => dB (slotOf σ 229) fun t229_ => sB5 script_b_ script_l_ script_c_ steady_ quiet_ b_ x_ m0_ was_ wasm_ mine_b_ mine_l_ mine_c_ i_ o_ n_ b0_ j_ whole_ t229_ w),
    ([(0, [1, 1, 1, 1, 1, 1, 1, 1, 1, 0, 1, 0, 0, 1, 1]), (2, [1, 1, 1, 1, 1, 1, 1, 1, 1, 0, 1, 0, 0]), (1, [0]), (0, [1, 1, 1, 1, 1, 1, 1, 1, 1, 1])], fun σ w => dL (slotOf σ 0) fun script_b_ script_l_ script_c_ => dB (slotOf σ 1) fun steady_ => dB (slotOf σ 2) fun quiet_ => dK (slotOf σ 8) fun b_ => dP (slotOf σ 10) fun x_ => dP (slotOf σ 11) fun m0_ => dK (slotOf σ 12) fun was_ => dK (slotOf σ 13) fun wasm_ => dL (slotOf σ 14) fun mine_b_ mine_l_ mine_c_ => dI .i64 (slotOf σ 15) fun i_ => sB6 script_b_ script_l_ script_c_ steady_ quiet_ b_ x_ m0_ was_ wasm_ mine_b_ mine_l_ mine_c_ i_ w)] 2000) [(0, [1, 1, 1, 1, 1, 1, 1, 1, 1, 0, 1, 0, 0, 0, 1]), (0, [1, 1, 1, 1, 1, 1, 1, 1, 1, 0, 1, 0, 0, 1]), (2, [1, 1, 1, 1, 1, 1, 1, 1, 1, 0, 1, 0, 0]), (1, [0]), (0, [1, 1, 1, 1, 1, 1, 1, 1, 1, 1])] [(0, .slice script_b script_l script_c), (1, .bool steady), (2, .bool quiet), (8, .pointer (some ⟨b, 0, none⟩)), (10, .pointer x), (11, .pointer m0), (12, .pointer (some ⟨was, 0, none⟩)), (13, .pointer (some ⟨wasm, 0, none⟩)), (14, .slice mine_b mine_l mine_c), (15, .int .i64 i), (57, .bool t57)] w := by kernel_rfl
theorem nodelaw_walk.B2_sound {R : Int → Int → World → Prop} {N1 : Option Addr → Nat → Nat → Bool → Bool → Nat → Option Addr → Option Addr → Nat → Nat → Option Addr → Nat → Nat → Int → World → Prop} (hN1 : ∀ script_b script_l script_c steady quiet b x m0 was wasm mine_b mine_l mine_c i w, N1 script_b script_l script_c steady quiet b x m0 was wasm mine_b mine_l mine_c i w → KW Tryz.prog 7 273 (nodelaw_walk.RV R) ([(0, [1, 1, 1, 1, 1, 1, 1, 1, 1, 0, 1, 0, 0]), (2, [1, 1, 1, 1, 1, 1, 1, 1, 1, 0, 1, 0, 0]), (1, [0]), (0, [1, 1, 1, 1, 1, 1, 1, 1, 1, 1])].map (toItem (Tryz.f7.body.getD .skip))) [(0, .slice script_b script_l script_c), (1, .bool steady), (2, .bool quiet), (8, .pointer (some ⟨b, 0, none⟩)), (10, .pointer x), (11, .pointer m0), (12, .pointer (some ⟨was, 0, none⟩)), (13, .pointer (some ⟨wasm, 0, none⟩)), (14, .slice mine_b mine_l mine_c), (15, .int .i64 i)] w) (script_b : Option Addr) (script_l script_c : Nat) (steady quiet : Bool) (b : Nat) (x m0 : Option Addr) (was wasm : Nat) (mine_b : Option Addr) (mine_l mine_c : Nat) (i : Int) (t57 : Bool) (w : World) (h : nodelaw_walk.B2 script_b script_l script_c steady quiet b x m0 was wasm mine_b mine_l mine_c i t57 w N1  R) :
    KW Tryz.prog 7 273 (nodelaw_walk.RV R) ([(0, [1, 1, 1, 1, 1, 1, 1, 1, 1, 0, 1, 0, 0, 0, 1]), (0, [1, 1, 1, 1, 1, 1, 1, 1, 1, 0, 1, 0, 0, 1]), (2, [1, 1, 1, 1, 1, 1, 1, 1, 1, 0, 1, 0, 0]), (1, [0]), (0, [1, 1, 1, 1, 1, 1, 1, 1, 1, 1])].map (toItem (Tryz.f7.body.getD .skip))) [(0, .slice script_b script_l script_c), (1, .bool steady), (2, .bool quiet), (8, .pointer (some ⟨b, 0, none⟩)), (10, .pointer x), (11, .pointer m0), (12, .pointer (some ⟨was, 0, none⟩)), (13, .pointer (some ⟨wasm, 0, none⟩)), (14, .slice mine_b mine_l mine_c), (15, .int .i64 i), (57, .bool t57)] w := by
  exact block_spec Tryz.func7 Tryz.mixed (stops_cons (fun σ w h => by
      obtain ⟨script_b_, script_l_, script_c_, e0, h⟩ := dL_elim h
      obtain ⟨steady_, e1, h⟩ := dB_elim h
      obtain ⟨quiet_, e2, h⟩ := dB_elim h
      obtain ⟨b_, e3, h⟩ := dK_elim h
      obtain ⟨x_, e4, h⟩ := dP_elim h
      obtain ⟨m0_, e5, h⟩ := dP_elim h
      obtain ⟨was_, e6, h⟩ := dK_elim h
      obtain ⟨wasm_, e7, h⟩ := dK_elim h
      obtain ⟨mine_b_, mine_l_, mine_c_, e8, h⟩ := dL_elim h
      obtain ⟨i_, e9, h⟩ := dI_elim h
      obtain ⟨t91_, e10, h⟩ := dB_elim h
      exact (nodelaw_walk.B3_sound hN1 script_b_ script_l_ script_c_ steady_ quiet_ b_ x_ m0_ was_ wasm_ mine_b_ mine_l_ mine_c_ i_ t91_ w h).weaken (Sub.cons (Sub.cons (Sub.cons (Sub.cons (Sub.cons (Sub.cons (Sub.cons (Sub.cons (Sub.cons (Sub.cons (Sub.cons (Sub.nil _) e10) e9) e8) e7) e6) e5) e4) e3) e2) e1) e0)) (stops_cons (fun σ w h => by
      obtain ⟨script_b_, script_l_, script_c_, e0, h⟩ := dL_elim h
      obtain ⟨steady_, e1, h⟩ := dB_elim h
      obtain ⟨quiet_, e2, h⟩ := dB_elim h
      obtain ⟨b_, e3, h⟩ := dK_elim h
      obtain ⟨x_, e4, h⟩ := dP_elim h
      obtain ⟨m0_, e5, h⟩ := dP_elim h
      obtain ⟨was_, e6, h⟩ := dK_elim h
      obtain ⟨wasm_, e7, h⟩ := dK_elim h
      obtain ⟨mine_b_, mine_l_, mine_c_, e8, h⟩ := dL_elim h
      obtain ⟨i_, e9, h⟩ := dI_elim h
      obtain ⟨o_, e10, h⟩ := dK_elim h
      obtain ⟨d_, e11, h⟩ := dK_elim h
      obtain ⟨e_, e12, h⟩ := dK_elim h
      obtain ⟨j_, e13, h⟩ := dI_elim h
      exact (nodelaw_walk.L2_sound hN1 script_b_ script_l_ script_c_ steady_ quiet_ b_ x_ m0_ was_ wasm_ mine_b_ mine_l_ mine_c_ i_ o_ d_ e_ j_ w h).weaken (Sub.cons (Sub.cons (Sub.cons (Sub.cons (Sub.cons (Sub.cons (Sub.cons (Sub.cons (Sub.cons (Sub.cons (Sub.cons (Sub.cons (Sub.cons (Sub.cons (Sub.nil _) e13) e12) e11) e10) e9) e8) e7) e6) e5) e4) e3) e2) e1) e0)) (stops_cons (fun σ w h => by
      obtain ⟨script_b_, script_l_, script_c_, e0, h⟩ := dL_elim h
      obtain ⟨steady_, e1, h⟩ := dB_elim h
      obtain ⟨quiet_, e2, h⟩ := dB_elim h
      obtain ⟨b_, e3, h⟩ := dK_elim h
      obtain ⟨x_, e4, h⟩ := dP_elim h
      obtain ⟨m0_, e5, h⟩ := dP_elim h
      obtain ⟨was_, e6, h⟩ := dK_elim h
      obtain ⟨wasm_, e7, h⟩ := dK_elim h
      obtain ⟨mine_b_, mine_l_, mine_c_, e8, h⟩ := dL_elim h
      obtain ⟨i_, e9, h⟩ := dI_elim h
      obtain ⟨o_, e10, h⟩ := dK_elim h
      obtain ⟨d_, e11, h⟩ := dK_elim h
      obtain ⟨e_, e12, h⟩ := dK_elim h
      exact (nodelaw_walk.B4_sound hN1 script_b_ script_l_ script_c_ steady_ quiet_ b_ x_ m0_ was_ wasm_ mine_b_ mine_l_ mine_c_ i_ o_ d_ e_ w h).weaken (Sub.cons (Sub.cons (Sub.cons (Sub.cons (Sub.cons (Sub.cons (Sub.cons (Sub.cons (Sub.cons (Sub.cons (Sub.cons (Sub.cons (Sub.cons (Sub.nil _) e12) e11) e10) e9) e8) e7) e6) e5) e4) e3) e2) e1) e0)) (stops_cons (fun σ w h => by
      obtain ⟨script_b_, script_l_, script_c_, e0, h⟩ := dL_elim h
      obtain ⟨steady_, e1, h⟩ := dB_elim h
      obtain ⟨quiet_, e2, h⟩ := dB_elim h
      obtain ⟨b_, e3, h⟩ := dK_elim h
      obtain ⟨x_, e4, h⟩ := dP_elim h
      obtain ⟨m0_, e5, h⟩ := dP_elim h
      obtain ⟨was_, e6, h⟩ := dK_elim h
      obtain ⟨wasm_, e7, h⟩ := dK_elim h
      obtain ⟨mine_b_, mine_l_, mine_c_, e8, h⟩ := dL_elim h
      obtain ⟨i_, e9, h⟩ := dI_elim h
      obtain ⟨o_, e10, h⟩ := dK_elim h
      obtain ⟨n_, e11, h⟩ := dI_elim h
      obtain ⟨b0_, e12, h⟩ := dK_elim h
      obtain ⟨j_, e13, h⟩ := dI_elim h
      obtain ⟨whole_, e14, h⟩ := dB_elim h
      obtain ⟨t229_, e15, h⟩ := dB_elim h
      exact (nodelaw_walk.B5_sound hN1 script_b_ script_l_ script_c_ steady_ quiet_ b_ x_ m0_ was_ wasm_ mine_b_ mine_l_ mine_c_ i_ o_ n_ b0_ j_ whole_ t229_ w h).weaken (Sub.cons (Sub.cons (Sub.cons (Sub.cons (Sub.cons (Sub.cons (Sub.cons (Sub.cons (Sub.cons (Sub.cons (Sub.cons (Sub.cons (Sub.cons (Sub.cons (Sub.cons (Sub.cons (Sub.nil _) e15) e14) e13) e12) e11) e10) e9) e8) e7) e6) e5) e4) e3) e2) e1) e0)) (stops_cons (fun σ w h => by
      obtain ⟨script_b_, script_l_, script_c_, e0, h⟩ := dL_elim h
      obtain ⟨steady_, e1, h⟩ := dB_elim h
      obtain ⟨quiet_, e2, h⟩ := dB_elim h
      obtain ⟨b_, e3, h⟩ := dK_elim h
      obtain ⟨x_, e4, h⟩ := dP_elim h
      obtain ⟨m0_, e5, h⟩ := dP_elim h
      obtain ⟨was_, e6, h⟩ := dK_elim h
      obtain ⟨wasm_, e7, h⟩ := dK_elim h
      obtain ⟨mine_b_, mine_l_, mine_c_, e8, h⟩ := dL_elim h
      obtain ⟨i_, e9, h⟩ := dI_elim h
      exact (nodelaw_walk.B6_sound hN1 script_b_ script_l_ script_c_ steady_ quiet_ b_ x_ m0_ was_ wasm_ mine_b_ mine_l_ mine_c_ i_ w h).weaken (Sub.cons (Sub.cons (Sub.cons (Sub.cons (Sub.cons (Sub.cons (Sub.cons (Sub.cons (Sub.cons (Sub.cons (Sub.nil _) e9) e8) e7) e6) e5) e4) e3) e2) e1) e0)) stops_nil))))) (Eq.mp (nodelaw_walk.B2_eq script_b script_l script_c steady quiet b x m0 was wasm mine_b mine_l mine_c i t57 w N1  R (fun script_b_ script_l_ script_c_ steady_ quiet_ b_ x_ m0_ was_ wasm_ mine_b_ mine_l_ mine_c_ i_ t91_ w => nodelaw_walk.B3 script_b_ script_l_ script_c_ steady_ quiet_ b_ x_ m0_ was_ wasm_ mine_b_ mine_l_ mine_c_ i_ t91_ w N1 R) (fun script_b_ script_l_ script_c_ steady_ quiet_ b_ x_ m0_ was_ wasm_ mine_b_ mine_l_ mine_c_ i_ o_ d_ e_ j_ w => nodelaw_walk.L2 script_b_ script_l_ script_c_ steady_ quiet_ b_ x_ m0_ was_ wasm_ mine_b_ mine_l_ mine_c_ i_ o_ d_ e_ j_ w N1 R) (fun script_b_ script_l_ script_c_ steady_ quiet_ b_ x_ m0_ was_ wasm_ mine_b_ mine_l_ mine_c_ i_ o_ d_ e_ w => nodelaw_walk.B4 script_b_ script_l_ script_c_ steady_ quiet_ b_ x_ m0_ was_ wasm_ mine_b_ mine_l_ mine_c_ i_ o_ d_ e_ w N1 R) (fun script_b_ script_l_ script_c_ steady_ quiet_ b_ x_ m0_ was_ wasm_ mine_b_ mine_l_ mine_c_ i_ o_ n_ b0_ j_ whole_ t229_ w => nodelaw_walk.B5 script_b_ script_l_ script_c_ steady_ quiet_ b_ x_ m0_ was_ wasm_ mine_b_ mine_l_ mine_c_ i_ o_ n_ b0_ j_ whole_ t229_ w N1 R) (fun script_b_ script_l_ script_c_ steady_ quiet_ b_ x_ m0_ was_ wasm_ mine_b_ mine_l_ mine_c_ i_ w => nodelaw_walk.B6 script_b_ script_l_ script_c_ steady_ quiet_ b_ x_ m0_ was_ wasm_ mine_b_ mine_l_ mine_c_ i_ w N1 R)) h)
def nodelaw_walk.L1b (script_b : Option Addr) (script_l script_c : Nat) (steady quiet : Bool) (b : Nat) (x m0 : Option Addr) (was wasm : Nat) (mine_b : Option Addr) (mine_l mine_c : Nat) (i : Int) (w : World)  (N1 : Option Addr → Nat → Nat → Bool → Bool → Nat → Option Addr → Option Addr → Nat → Nat → Option Addr → Nat → Nat → Int → World → Prop) (R : Int → Int → World → Prop) : Prop :=
  Bm (decide (i < ((script_l : Nat) : Int))) (
    nodelaw_walk.B2 script_b script_l script_c steady quiet b x m0 was wasm mine_b mine_l mine_c i (decide (i < (4398046511104 : Int))) w N1 R) (
    nodelaw_walk.B2 script_b script_l script_c steady quiet b x m0 was wasm mine_b mine_l mine_c i false w N1 R)
theorem nodelaw_walk.L1b_eq (script_b : Option Addr) (script_l script_c : Nat) (steady quiet : Bool) (b : Nat) (x m0 : Option Addr) (was wasm : Nat) (mine_b : Option Addr) (mine_l mine_c : Nat) (i : Int) (w : World)  (N1 : Option Addr → Nat → Nat → Bool → Bool → Nat → Option Addr → Option Addr → Nat → Nat → Option Addr → Nat → Nat → Int → World → Prop) (R : Int → Int → World → Prop) (sB2 : Option Addr → Nat → Nat → Bool → Bool → Nat → Option Addr → Option Addr → Nat → Nat → Option Addr → Nat → Nat → Int → Bool → World → Prop) :
    (
  Bm (decide (i < ((script_l : Nat) : Int))) (
    sB2 script_b script_l script_c steady quiet b x m0 was wasm mine_b mine_l mine_c i (decide (i < (4398046511104 : Int))) w) (
    sB2 script_b script_l script_c steady quiet b x m0 was wasm mine_b mine_l mine_c i false w)) = kstep Tryz.prog 273 Tryz.f7.results.toList (Tryz.f7.body.getD .skip) (nodelaw_walk.RV R) (kvc Tryz.prog 273 Tryz.f7.results.toList (Tryz.f7.body.getD .skip) (nodelaw_walk.RV R) [([(0, [1, 1, 1, 1, 1, 1, 1, 1, 1, 0, 1, 0, 0, 0, 1]), (0, [1, 1, 1, 1, 1, 1, 1, 1, 1, 0, 1, 0, 0, 1]), (2, [1, 1, 1, 1, 1, 1, 1, 1, 1, 0, 1, 0, 0]), (1, [0]), (0, [1, 1, 1, 1, 1, 1, 1, 1, 1, 1])], fun σ w => dL (slotOf σ 0) fun script_b_ script_l_ script_c_ => dB (slotOf σ 1) fun steady_ => dB (slotOf σ 2) fun quiet_ => dK (slotOf σ 8) fun b_ => dP (slotOf σ 10) fun x_ => dP (slotOf σ 11) fun m0_ => dK (slotOf σ 12) fun was_ => dK (slotOf σ 13) fun wasm_ => dL (slotOf σ 14) fun mine_b_ mine_l_ mine_c_ => dI .i64 (slotOf σ 15) fun i_ => dB (slotOf σ 57) fun t57_ => sB2 script_b_ script_l_ script_c_ steady_ quiet_ b_ x_ m0_ was_ wasm_ mine_b_ mine_l_ mine_c_ i_ t57_ w)] 2000) [(0, [1, 1, 1, 1, 1, 1, 1, 1, 1, 0, 1, 0, 0]), (2, [1, 1, 1, 1, 1, 1, 1, 1, 1, 0, 1, 0, 0]), (1, [0]), (0, [1, 1, 1, 1, 1, 1, 1, 1, 1, 1])] [(0, .slice script_b script_l script_c), (1, .bool steady), (2, .bool quiet), (8, .pointer (some ⟨b, 0, none⟩)), (10, .pointer x), (11, .pointer m0), (12, .pointer (some ⟨was, 0, none⟩)), (13, .pointer (some ⟨wasm, 0, none⟩)), (14, .slice mine_b mine_l mine_c), (15, .int .i64 i)] w := by kernel_rfl
theorem nodelaw_walk.L1b_sound {R : Int → Int → World → Prop} {N1 : Option Addr → Nat → Nat → Bool → Bool → Nat → Option Addr → Option Addr → Nat → Nat → Option Addr → Nat → Nat → Int → World → Prop} (hN1 : ∀ script_b script_l script_c steady quiet b x m0 was wasm mine_b mine_l mine_c i w, N1 script_b script_l script_c steady quiet b x m0 was wasm mine_b mine_l mine_c i w → KW Tryz.prog 7 273 (nodelaw_walk.RV R) ([(0, [1, 1, 1, 1, 1, 1, 1, 1, 1, 0, 1, 0, 0]), (2, [1, 1, 1, 1, 1, 1, 1, 1, 1, 0, 1, 0, 0]), (1, [0]), (0, [1, 1, 1, 1, 1, 1, 1, 1, 1, 1])].map (toItem (Tryz.f7.body.getD .skip))) [(0, .slice script_b script_l script_c), (1, .bool steady), (2, .bool quiet), (8, .pointer (some ⟨b, 0, none⟩)), (10, .pointer x), (11, .pointer m0), (12, .pointer (some ⟨was, 0, none⟩)), (13, .pointer (some ⟨wasm, 0, none⟩)), (14, .slice mine_b mine_l mine_c), (15, .int .i64 i)] w) (script_b : Option Addr) (script_l script_c : Nat) (steady quiet : Bool) (b : Nat) (x m0 : Option Addr) (was wasm : Nat) (mine_b : Option Addr) (mine_l mine_c : Nat) (i : Int) (w : World) (h : nodelaw_walk.L1b script_b script_l script_c steady quiet b x m0 was wasm mine_b mine_l mine_c i w  N1 R) :
    KW Tryz.prog 7 273 (nodelaw_walk.RV R) ([(0, [1, 1, 1, 1, 1, 1, 1, 1, 1, 0, 1, 0, 0]), (2, [1, 1, 1, 1, 1, 1, 1, 1, 1, 0, 1, 0, 0]), (1, [0]), (0, [1, 1, 1, 1, 1, 1, 1, 1, 1, 1])].map (toItem (Tryz.f7.body.getD .skip))) [(0, .slice script_b script_l script_c), (1, .bool steady), (2, .bool quiet), (8, .pointer (some ⟨b, 0, none⟩)), (10, .pointer x), (11, .pointer m0), (12, .pointer (some ⟨was, 0, none⟩)), (13, .pointer (some ⟨wasm, 0, none⟩)), (14, .slice mine_b mine_l mine_c), (15, .int .i64 i)] w := by
  exact block_spec Tryz.func7 Tryz.mixed (stops_cons (fun σ w h => by
      obtain ⟨script_b_, script_l_, script_c_, e0, h⟩ := dL_elim h
      obtain ⟨steady_, e1, h⟩ := dB_elim h
      obtain ⟨quiet_, e2, h⟩ := dB_elim h
      obtain ⟨b_, e3, h⟩ := dK_elim h
      obtain ⟨x_, e4, h⟩ := dP_elim h
      obtain ⟨m0_, e5, h⟩ := dP_elim h
      obtain ⟨was_, e6, h⟩ := dK_elim h
      obtain ⟨wasm_, e7, h⟩ := dK_elim h
      obtain ⟨mine_b_, mine_l_, mine_c_, e8, h⟩ := dL_elim h
      obtain ⟨i_, e9, h⟩ := dI_elim h
      obtain ⟨t57_, e10, h⟩ := dB_elim h
      exact (nodelaw_walk.B2_sound hN1 script_b_ script_l_ script_c_ steady_ quiet_ b_ x_ m0_ was_ wasm_ mine_b_ mine_l_ mine_c_ i_ t57_ w h).weaken (Sub.cons (Sub.cons (Sub.cons (Sub.cons (Sub.cons (Sub.cons (Sub.cons (Sub.cons (Sub.cons (Sub.cons (Sub.cons (Sub.nil _) e10) e9) e8) e7) e6) e5) e4) e3) e2) e1) e0)) stops_nil) (Eq.mp (nodelaw_walk.L1b_eq script_b script_l script_c steady quiet b x m0 was wasm mine_b mine_l mine_c i w  N1 R (fun script_b_ script_l_ script_c_ steady_ quiet_ b_ x_ m0_ was_ wasm_ mine_b_ mine_l_ mine_c_ i_ t57_ w => nodelaw_walk.B2 script_b_ script_l_ script_c_ steady_ quiet_ b_ x_ m0_ was_ wasm_ mine_b_ mine_l_ mine_c_ i_ t57_ w N1 R)) h)
def nodelaw_walk.L1 (script_b : Option Addr) (script_l script_c : Nat) (steady quiet : Bool) (b : Nat) (x m0 : Option Addr) (was wasm : Nat) (mine_b : Option Addr) (mine_l mine_c : Nat) (i : Int) (w : World)  (R : Int → Int → World → Prop) : Prop :=
  ∃ (I : Nat → Option Addr → Nat → Nat → Bool → Bool → Nat → Option Addr → Option Addr → Nat → Nat → Option Addr → Nat → Nat → Int → World → Prop) (m : Nat), I m script_b script_l script_c steady quiet b x m0 was wasm mine_b mine_l mine_c i w ∧ ∀ m script_b script_l script_c steady quiet b x m0 was wasm mine_b mine_l mine_c i w, I m script_b script_l script_c steady quiet b x m0 was wasm mine_b mine_l mine_c i w → nodelaw_walk.L1b script_b script_l script_c steady quiet b x m0 was wasm mine_b mine_l mine_c i w  (fun script_b' script_l' script_c' steady' quiet' b' x' m0' was' wasm' mine_b' mine_l' mine_c' i' w' => ∃ m', m' < m ∧ I m' script_b' script_l' script_c' steady' quiet' b' x' m0' was' wasm' mine_b' mine_l' mine_c' i' w') R
theorem nodelaw_walk.L1_sound {R : Int → Int → World → Prop}  (script_b : Option Addr) (script_l script_c : Nat) (steady quiet : Bool) (b : Nat) (x m0 : Option Addr) (was wasm : Nat) (mine_b : Option Addr) (mine_l mine_c : Nat) (i : Int) (w : World) (h : nodelaw_walk.L1 script_b script_l script_c steady quiet b x m0 was wasm mine_b mine_l mine_c i w  R) :
    KW Tryz.prog 7 273 (nodelaw_walk.RV R) ([(0, [1, 1, 1, 1, 1, 1, 1, 1, 1, 0, 1, 0, 0]), (2, [1, 1, 1, 1, 1, 1, 1, 1, 1, 0, 1, 0, 0]), (1, [0]), (0, [1, 1, 1, 1, 1, 1, 1, 1, 1, 1])].map (toItem (Tryz.f7.body.getD .skip))) [(0, .slice script_b script_l script_c), (1, .bool steady), (2, .bool quiet), (8, .pointer (some ⟨b, 0, none⟩)), (10, .pointer x), (11, .pointer m0), (12, .pointer (some ⟨was, 0, none⟩)), (13, .pointer (some ⟨wasm, 0, none⟩)), (14, .slice mine_b mine_l mine_c), (15, .int .i64 i)] w := by
  obtain ⟨I, m, hBase, hr⟩ := h
  refine KW.loop (fun m σ w => ∃ (script_b : Option Addr) (script_l script_c : Nat) (steady quiet : Bool) (b : Nat) (x m0 : Option Addr) (was wasm : Nat) (mine_b : Option Addr) (mine_l mine_c : Nat) (i : Int), σ = [(0, .slice script_b script_l script_c), (1, .bool steady), (2, .bool quiet), (8, .pointer (some ⟨b, 0, none⟩)), (10, .pointer x), (11, .pointer m0), (12, .pointer (some ⟨was, 0, none⟩)), (13, .pointer (some ⟨wasm, 0, none⟩)), (14, .slice mine_b mine_l mine_c), (15, .int .i64 i)] ∧ I m script_b script_l script_c steady quiet b x m0 was wasm mine_b mine_l mine_c i w) ?_ m _ w ⟨script_b, script_l, script_c, steady, quiet, b, x, m0, was, wasm, mine_b, mine_l, mine_c, i, rfl, hBase⟩
  rintro m ih σ w ⟨script_b, script_l, script_c, steady, quiet, b, x, m0, was, wasm, mine_b, mine_l, mine_c, i, rfl, hI⟩
  exact nodelaw_walk.L1b_sound  (N1 := fun script_b' script_l' script_c' steady' quiet' b' x' m0' was' wasm' mine_b' mine_l' mine_c' i' w' => ∃ m', m' < m ∧ I m' script_b' script_l' script_c' steady' quiet' b' x' m0' was' wasm' mine_b' mine_l' mine_c' i' w') (fun script_b' script_l' script_c' steady' quiet' b' x' m0' was' wasm' mine_b' mine_l' mine_c' i' w' hx => by obtain ⟨m', hlt, hI'⟩ := hx; exact ih m' hlt _ w' ⟨script_b', script_l', script_c', steady', quiet', b', x', m0', was', wasm', mine_b', mine_l', mine_c', i', rfl, hI'⟩) script_b script_l script_c steady quiet b x m0 was wasm mine_b mine_l mine_c i w (hr m script_b script_l script_c steady quiet b x m0 was wasm mine_b mine_l mine_c i w hI)
def nodelaw_walk.B1 (script_b : Option Addr) (script_l script_c : Nat) (steady quiet : Bool) (b : Nat) (x m0 : Option Addr) (was wasm : Nat) (mine_b : Option Addr) (mine_l mine_c : Nat) (t49 : Bool) (w : World)   (R : Int → Int → World → Prop) : Prop :=
  Bm t49 (
    R (0 : Int) (0 : Int) w) (
    nodelaw_walk.L1 script_b script_l script_c steady quiet b x m0 was wasm mine_b mine_l mine_c (0 : Int) w  R)
theorem nodelaw_walk.B1_eq (script_b : Option Addr) (script_l script_c : Nat) (steady quiet : Bool) (b : Nat) (x m0 : Option Addr) (was wasm : Nat) (mine_b : Option Addr) (mine_l mine_c : Nat) (t49 : Bool) (w : World)   (R : Int → Int → World → Prop) (sL1 : Option Addr → Nat → Nat → Bool → Bool → Nat → Option Addr → Option Addr → Nat → Nat → Option Addr → Nat → Nat → Int → World → Prop) :
    (
  Bm t49 (
    R (0 : Int) (0 : Int) w) (
    sL1 script_b script_l script_c steady quiet b x m0 was wasm mine_b mine_l mine_c (0 : Int) w)) = kstep Tryz.prog 273 Tryz.f7.results.toList (Tryz.f7.body.getD .skip) (nodelaw_walk.RV R) (kvc Tryz.prog 273 Tryz.f7.results.toList (Tryz.f7.body.getD .skip) (nodelaw_walk.RV R) [([(0, [1, 1, 1, 1, 1, 1, 1, 1, 1, 0, 1, 0, 0]), (2, [1, 1, 1, 1, 1, 1, 1, 1, 1, 0, 1, 0, 0]), (1, [0]), (0, [1, 1, 1, 1, 1, 1, 1, 1, 1, 1])], fun σ w => dL (slotOf σ 0) fun script_b_ script_l_ script_c_ => dB (slotOf σ 1) fun steady_ => dB (slotOf σ 2) fun quiet_ => dK (slotOf σ 8) fun b_ => dP (slotOf σ 10) fun x_ => dP (slotOf σ 11) fun m0_ => dK (slotOf σ 12) fun was_ => dK (slotOf σ 13) fun wasm_ => dL (slotOf σ 14) fun mine_b_ mine_l_ mine_c_ => dI .i64 (slotOf σ 15) fun i_ => sL1 script_b_ script_l_ script_c_ steady_ quiet_ b_ x_ m0_ was_ wasm_ mine_b_ mine_l_ mine_c_ i_ w)] 2000) [(0, [1, 1, 1, 1, 1, 1, 1, 1, 0, 1]), (0, [1, 1, 1, 1, 1, 1, 1, 1, 1])] [(0, .slice script_b script_l script_c), (1, .bool steady), (2, .bool quiet), (8, .pointer (some ⟨b, 0, none⟩)), (10, .pointer x), (11, .pointer m0), (12, .pointer (some ⟨was, 0, none⟩)), (13, .pointer (some ⟨wasm, 0, none⟩)), (14, .slice mine_b mine_l mine_c), (49, .bool t49)] w := by kernel_rfl
theorem nodelaw_walk.B1_sound {R : Int → Int → World → Prop}  (script_b : Option Addr) (script_l script_c : Nat) (steady quiet : Bool) (b : Nat) (x m0 : Option Addr) (was wasm : Nat) (mine_b : Option Addr) (mine_l mine_c : Nat) (t49 : Bool) (w : World) (h : nodelaw_walk.B1 script_b script_l script_c steady quiet b x m0 was wasm mine_b mine_l mine_c t49 w   R) :
    KW Tryz.prog 7 273 (nodelaw_walk.RV R) ([(0, [1, 1, 1, 1, 1, 1, 1, 1, 0, 1]), (0, [1, 1, 1, 1, 1, 1, 1, 1, 1])].map (toItem (Tryz.f7.body.getD .skip))) [(0, .slice script_b script_l script_c), (1, .bool steady), (2, .bool quiet), (8, .pointer (some ⟨b, 0, none⟩)), (10, .pointer x), (11, .pointer m0), (12, .pointer (some ⟨was, 0, none⟩)), (13, .pointer (some ⟨wasm, 0, none⟩)), (14, .slice mine_b mine_l mine_c), (49, .bool t49)] w := by
  exact block_spec Tryz.func7 Tryz.mixed (stops_cons (fun σ w h => by
      obtain ⟨script_b_, script_l_, script_c_, e0, h⟩ := dL_elim h
      obtain ⟨steady_, e1, h⟩ := dB_elim h
      obtain ⟨quiet_, e2, h⟩ := dB_elim h
      obtain ⟨b_, e3, h⟩ := dK_elim h
      obtain ⟨x_, e4, h⟩ := dP_elim h
      obtain ⟨m0_, e5, h⟩ := dP_elim h
      obtain ⟨was_, e6, h⟩ := dK_elim h
      obtain ⟨wasm_, e7, h⟩ := dK_elim h
      obtain ⟨mine_b_, mine_l_, mine_c_, e8, h⟩ := dL_elim h
      obtain ⟨i_, e9, h⟩ := dI_elim h
      exact (nodelaw_walk.L1_sound  script_b_ script_l_ script_c_ steady_ quiet_ b_ x_ m0_ was_ wasm_ mine_b_ mine_l_ mine_c_ i_ w h).weaken (Sub.cons (Sub.cons (Sub.cons (Sub.cons (Sub.cons (Sub.cons (Sub.cons (Sub.cons (Sub.cons (Sub.cons (Sub.nil _) e9) e8) e7) e6) e5) e4) e3) e2) e1) e0)) stops_nil) (Eq.mp (nodelaw_walk.B1_eq script_b script_l script_c steady quiet b x m0 was wasm mine_b mine_l mine_c t49 w   R (fun script_b_ script_l_ script_c_ steady_ quiet_ b_ x_ m0_ was_ wasm_ mine_b_ mine_l_ mine_c_ i_ w => nodelaw_walk.L1 script_b_ script_l_ script_c_ steady_ quiet_ b_ x_ m0_ was_ wasm_ mine_b_ mine_l_ mine_c_ i_ w  R)) h)
def nodelaw_walk.B0 (script_b : Option Addr) (script_l script_c : Nat) (steady quiet : Bool) (w : World)   (R : Int → Int → World → Prop) : Prop :=
  nodelaw_Ground.Call (0 : Int) w fun r29_0 r29_1 r29_2 w1 =>
  New (.cells #[.pointer none, .pointer none, .int .i64 (0 : Int)] 30) w1 fun b_ w2 =>
  Sts [.pointer r29_0, .pointer r29_1, .int .i64 r29_2] ⟨b_, 0, none⟩ 0 w2 fun w3 =>
  kv_New.Call  w3 fun r30 w4 =>
  LdP ⟨b_, 1, none⟩ w4 fun x32 =>
  node_New.Call x32 r30 w4 fun r34 w5 =>
  nodem_New.Call (0 : Int) w5 fun r35 w6 =>
  New (.cells #[.int .i64 (0 : Int), .slice none 0 0, .slice none 0 0] 42) w6 fun was_ w7 =>
  New (.cells #[.int .i64 (0 : Int), .slice none 0 0, .slice none 0 0] 42) w7 fun wasm_ w8 =>
  Sts [.int .i64 (0 : Int), .slice none 0 0, .slice none 0 0] ⟨was_, 0, none⟩ 0 w8 fun w9 =>
  Sts [.int .i64 (0 : Int), .slice none 0 0, .slice none 0 0] ⟨wasm_, 0, none⟩ 0 w9 fun w10 =>
  LdP ⟨b_, 0, none⟩ w10 fun x38_0 =>
  LdP ⟨b_, 1, none⟩ w10 fun x38_1 =>
  LdI .i64 ⟨b_, 2, none⟩ w10 fun x38_2 =>
  nodelaw_Steps.Call x38_0 x38_1 x38_2 w10 fun r39 w11 =>
  Bm (r39 != (0 : Int)) (
    R (0 : Int) (0 : Int) w11) (
    Bm (!quiet) (
      LdP ⟨b_, 0, none⟩ w11 fun x46_0 =>
      LdP ⟨b_, 1, none⟩ w11 fun x46_1 =>
      LdI .i64 ⟨b_, 2, none⟩ w11 fun x46_2 =>
      nodelaw_Seen.Call r34 r35 x46_0 x46_1 x46_2 (0 : Int) (ByteArray.mk #[]) w11 fun r47 w12 =>
      nodelaw_walk.B1 script_b script_l script_c steady quiet b_ r34 r35 was_ wasm_ none 0 0 (!r47) w12  R) (
      nodelaw_walk.B1 script_b script_l script_c steady quiet b_ r34 r35 was_ wasm_ none 0 0 false w11  R))
theorem nodelaw_walk.B0_eq (script_b : Option Addr) (script_l script_c : Nat) (steady quiet : Bool) (w : World)   (R : Int → Int → World → Prop) (sB1 : Option Addr → Nat → Nat → Bool → Bool → Nat → Option Addr → Option Addr → Nat → Nat → Option Addr → Nat → Nat → Bool → World → Prop) :
    (
  nodelaw_Ground.Call (0 : Int) w fun r29_0 r29_1 r29_2 w1 =>
  New (.cells #[.pointer none, .pointer none, .int .i64 (0 : Int)] 30) w1 fun b_ w2 =>
  Sts [.pointer r29_0, .pointer r29_1, .int .i64 r29_2] ⟨b_, 0, none⟩ 0 w2 fun w3 =>
  kv_New.Call  w3 fun r30 w4 =>
  LdP ⟨b_, 1, none⟩ w4 fun x32 =>
  node_New.Call x32 r30 w4 fun r34 w5 =>
  nodem_New.Call (0 : Int) w5 fun r35 w6 =>
  New (.cells #[.int .i64 (0 : Int), .slice none 0 0, .slice none 0 0] 42) w6 fun was_ w7 =>
  New (.cells #[.int .i64 (0 : Int), .slice none 0 0, .slice none 0 0] 42) w7 fun wasm_ w8 =>
  Sts [.int .i64 (0 : Int), .slice none 0 0, .slice none 0 0] ⟨was_, 0, none⟩ 0 w8 fun w9 =>
  Sts [.int .i64 (0 : Int), .slice none 0 0, .slice none 0 0] ⟨wasm_, 0, none⟩ 0 w9 fun w10 =>
  LdP ⟨b_, 0, none⟩ w10 fun x38_0 =>
  LdP ⟨b_, 1, none⟩ w10 fun x38_1 =>
  LdI .i64 ⟨b_, 2, none⟩ w10 fun x38_2 =>
  nodelaw_Steps.Call x38_0 x38_1 x38_2 w10 fun r39 w11 =>
  Bm (r39 != (0 : Int)) (
    R (0 : Int) (0 : Int) w11) (
    Bm (!quiet) (
      LdP ⟨b_, 0, none⟩ w11 fun x46_0 =>
      LdP ⟨b_, 1, none⟩ w11 fun x46_1 =>
      LdI .i64 ⟨b_, 2, none⟩ w11 fun x46_2 =>
      nodelaw_Seen.Call r34 r35 x46_0 x46_1 x46_2 (0 : Int) (ByteArray.mk #[]) w11 fun r47 w12 =>
      sB1 script_b script_l script_c steady quiet b_ r34 r35 was_ wasm_ none 0 0 (!r47) w12) (
      sB1 script_b script_l script_c steady quiet b_ r34 r35 was_ wasm_ none 0 0 false w11))) = kstep Tryz.prog 273 Tryz.f7.results.toList (Tryz.f7.body.getD .skip) (nodelaw_walk.RV R) (kvc Tryz.prog 273 Tryz.f7.results.toList (Tryz.f7.body.getD .skip) (nodelaw_walk.RV R) [([(0, [1, 1, 1, 1, 1, 1, 1, 1, 0, 1]), (0, [1, 1, 1, 1, 1, 1, 1, 1, 1])], fun σ w => dL (slotOf σ 0) fun script_b_ script_l_ script_c_ => dB (slotOf σ 1) fun steady_ => dB (slotOf σ 2) fun quiet_ => dK (slotOf σ 8) fun b_ => dP (slotOf σ 10) fun x_ => dP (slotOf σ 11) fun m0_ => dK (slotOf σ 12) fun was_ => dK (slotOf σ 13) fun wasm_ => dL (slotOf σ 14) fun mine_b_ mine_l_ mine_c_ => dB (slotOf σ 49) fun t49_ => sB1 script_b_ script_l_ script_c_ steady_ quiet_ b_ x_ m0_ was_ wasm_ mine_b_ mine_l_ mine_c_ t49_ w)] 2000) [(0, [])] [(0, .slice script_b script_l script_c), (1, .bool steady), (2, .bool quiet)] w := by kernel_rfl
theorem nodelaw_walk.B0_sound {R : Int → Int → World → Prop}  (script_b : Option Addr) (script_l script_c : Nat) (steady quiet : Bool) (w : World) (h : nodelaw_walk.B0 script_b script_l script_c steady quiet w   R) :
    KW Tryz.prog 7 273 (nodelaw_walk.RV R) ([(0, [])].map (toItem (Tryz.f7.body.getD .skip))) [(0, .slice script_b script_l script_c), (1, .bool steady), (2, .bool quiet)] w := by
  exact block_spec Tryz.func7 Tryz.mixed (stops_cons (fun σ w h => by
      obtain ⟨script_b_, script_l_, script_c_, e0, h⟩ := dL_elim h
      obtain ⟨steady_, e1, h⟩ := dB_elim h
      obtain ⟨quiet_, e2, h⟩ := dB_elim h
      obtain ⟨b_, e3, h⟩ := dK_elim h
      obtain ⟨x_, e4, h⟩ := dP_elim h
      obtain ⟨m0_, e5, h⟩ := dP_elim h
      obtain ⟨was_, e6, h⟩ := dK_elim h
      obtain ⟨wasm_, e7, h⟩ := dK_elim h
      obtain ⟨mine_b_, mine_l_, mine_c_, e8, h⟩ := dL_elim h
      obtain ⟨t49_, e9, h⟩ := dB_elim h
      exact (nodelaw_walk.B1_sound  script_b_ script_l_ script_c_ steady_ quiet_ b_ x_ m0_ was_ wasm_ mine_b_ mine_l_ mine_c_ t49_ w h).weaken (Sub.cons (Sub.cons (Sub.cons (Sub.cons (Sub.cons (Sub.cons (Sub.cons (Sub.cons (Sub.cons (Sub.cons (Sub.nil _) e9) e8) e7) e6) e5) e4) e3) e2) e1) e0)) stops_nil) (Eq.mp (nodelaw_walk.B0_eq script_b script_l script_c steady quiet w   R (fun script_b_ script_l_ script_c_ steady_ quiet_ b_ x_ m0_ was_ wasm_ mine_b_ mine_l_ mine_c_ t49_ w => nodelaw_walk.B1 script_b_ script_l_ script_c_ steady_ quiet_ b_ x_ m0_ was_ wasm_ mine_b_ mine_l_ mine_c_ t49_ w  R)) h)
theorem nodelaw_walk.sound (script_b : Option Addr) (script_l script_c : Nat) (steady quiet : Bool) (w : World) (R : Int → Int → World → Prop) (h : nodelaw_walk.B0 script_b script_l script_c steady quiet w R) : nodelaw_walk.Call script_b script_l script_c steady quiet w R := by
  have hc := calls_of_block (args := #[.slice script_b script_l script_c, .bool steady, .bool quiet]) Tryz.func7 (body := (Tryz.f7.body.getD .skip)) (by kernel_rfl) (by kernel_rfl) (args_slot _) (nodelaw_walk.B0_sound script_b script_l script_c steady quiet w h)
  exact hc.mono fun e w' he => by
    obtain ⟨v, rfl, hv⟩ := he
    exact nodelaw_walk.RV_elim hv
end Go.Proofs.Qxb6500430aGreat
