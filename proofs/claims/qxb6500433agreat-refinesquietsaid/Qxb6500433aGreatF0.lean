import Derived.Test.Qxb6500433aGreatSig
set_option maxRecDepth 100000
set_option linter.unusedVariables false
open Go.Vc
namespace Go.Proofs.Qxb6500433aGreat
def synclaw_Refines.B0 (script_b : Option Addr) (script_l script_c : Nat) (w : World)   (R : Bool → World → Prop) : Prop :=
  synclaw_RefinesUpTo.Call script_b script_l script_c w fun r4 w1 =>
  R (r4 == (-1 : Int)) w1
theorem synclaw_Refines.B0_eq (script_b : Option Addr) (script_l script_c : Nat) (w : World)   (R : Bool → World → Prop)  :
    (
  synclaw_RefinesUpTo.Call script_b script_l script_c w fun r4 w1 =>
  R (r4 == (-1 : Int)) w1) = kstep Tryz.prog 6 Tryz.f3.results.toList (Tryz.f3.body.getD .skip) (synclaw_Refines.RV R) (kvc Tryz.prog 6 Tryz.f3.results.toList (Tryz.f3.body.getD .skip) (synclaw_Refines.RV R) [] 2000) [(0, [])] [(0, .slice script_b script_l script_c)] w := by kernel_rfl
theorem synclaw_Refines.B0_sound {R : Bool → World → Prop}  (script_b : Option Addr) (script_l script_c : Nat) (w : World) (h : synclaw_Refines.B0 script_b script_l script_c w   R) :
    KW Tryz.prog 3 6 (synclaw_Refines.RV R) ([(0, [])].map (toItem (Tryz.f3.body.getD .skip))) [(0, .slice script_b script_l script_c)] w := by
  exact block_spec Tryz.func3 Tryz.mixed stops_nil (Eq.mp (synclaw_Refines.B0_eq script_b script_l script_c w   R ) h)
theorem synclaw_Refines.sound (script_b : Option Addr) (script_l script_c : Nat) (w : World) (R : Bool → World → Prop) (h : synclaw_Refines.B0 script_b script_l script_c w R) : synclaw_Refines.Call script_b script_l script_c w R := by
  have hc := calls_of_block (args := #[.slice script_b script_l script_c]) Tryz.func3 (body := (Tryz.f3.body.getD .skip)) (by kernel_rfl) (by kernel_rfl) (args_slot _) (synclaw_Refines.B0_sound script_b script_l script_c w h)
  exact hc.mono fun e w' he => by
    obtain ⟨v, rfl, hv⟩ := he
    exact synclaw_Refines.RV_elim hv
def synclaw_RefinesSteady.B0 (script_b : Option Addr) (script_l script_c : Nat) (w : World)   (R : Bool → World → Prop) : Prop :=
  synclaw_walk.Call script_b script_l script_c true false w fun r7_0 r7_1 w1 =>
  R (r7_0 == (-1 : Int)) w1
theorem synclaw_RefinesSteady.B0_eq (script_b : Option Addr) (script_l script_c : Nat) (w : World)   (R : Bool → World → Prop)  :
    (
  synclaw_walk.Call script_b script_l script_c true false w fun r7_0 r7_1 w1 =>
  R (r7_0 == (-1 : Int)) w1) = kstep Tryz.prog 12 Tryz.f4.results.toList (Tryz.f4.body.getD .skip) (synclaw_RefinesSteady.RV R) (kvc Tryz.prog 12 Tryz.f4.results.toList (Tryz.f4.body.getD .skip) (synclaw_RefinesSteady.RV R) [] 2000) [(0, [])] [(0, .slice script_b script_l script_c)] w := by kernel_rfl
theorem synclaw_RefinesSteady.B0_sound {R : Bool → World → Prop}  (script_b : Option Addr) (script_l script_c : Nat) (w : World) (h : synclaw_RefinesSteady.B0 script_b script_l script_c w   R) :
    KW Tryz.prog 4 12 (synclaw_RefinesSteady.RV R) ([(0, [])].map (toItem (Tryz.f4.body.getD .skip))) [(0, .slice script_b script_l script_c)] w := by
  exact block_spec Tryz.func4 Tryz.mixed stops_nil (Eq.mp (synclaw_RefinesSteady.B0_eq script_b script_l script_c w   R ) h)
theorem synclaw_RefinesSteady.sound (script_b : Option Addr) (script_l script_c : Nat) (w : World) (R : Bool → World → Prop) (h : synclaw_RefinesSteady.B0 script_b script_l script_c w R) : synclaw_RefinesSteady.Call script_b script_l script_c w R := by
  have hc := calls_of_block (args := #[.slice script_b script_l script_c]) Tryz.func4 (body := (Tryz.f4.body.getD .skip)) (by kernel_rfl) (by kernel_rfl) (args_slot _) (synclaw_RefinesSteady.B0_sound script_b script_l script_c w h)
  exact hc.mono fun e w' he => by
    obtain ⟨v, rfl, hv⟩ := he
    exact synclaw_RefinesSteady.RV_elim hv
def synclaw_RefinesQuiet.B0 (script_b : Option Addr) (script_l script_c : Nat) (w : World)   (R : Bool → World → Prop) : Prop :=
  synclaw_walk.Call script_b script_l script_c false true w fun r7_0 r7_1 w1 =>
  R (r7_0 == (-1 : Int)) w1
theorem synclaw_RefinesQuiet.B0_eq (script_b : Option Addr) (script_l script_c : Nat) (w : World)   (R : Bool → World → Prop)  :
    (
  synclaw_walk.Call script_b script_l script_c false true w fun r7_0 r7_1 w1 =>
  R (r7_0 == (-1 : Int)) w1) = kstep Tryz.prog 12 Tryz.f5.results.toList (Tryz.f5.body.getD .skip) (synclaw_RefinesQuiet.RV R) (kvc Tryz.prog 12 Tryz.f5.results.toList (Tryz.f5.body.getD .skip) (synclaw_RefinesQuiet.RV R) [] 2000) [(0, [])] [(0, .slice script_b script_l script_c)] w := by kernel_rfl
theorem synclaw_RefinesQuiet.B0_sound {R : Bool → World → Prop}  (script_b : Option Addr) (script_l script_c : Nat) (w : World) (h : synclaw_RefinesQuiet.B0 script_b script_l script_c w   R) :
    KW Tryz.prog 5 12 (synclaw_RefinesQuiet.RV R) ([(0, [])].map (toItem (Tryz.f5.body.getD .skip))) [(0, .slice script_b script_l script_c)] w := by
  exact block_spec Tryz.func5 Tryz.mixed stops_nil (Eq.mp (synclaw_RefinesQuiet.B0_eq script_b script_l script_c w   R ) h)
theorem synclaw_RefinesQuiet.sound (script_b : Option Addr) (script_l script_c : Nat) (w : World) (R : Bool → World → Prop) (h : synclaw_RefinesQuiet.B0 script_b script_l script_c w R) : synclaw_RefinesQuiet.Call script_b script_l script_c w R := by
  have hc := calls_of_block (args := #[.slice script_b script_l script_c]) Tryz.func5 (body := (Tryz.f5.body.getD .skip)) (by kernel_rfl) (by kernel_rfl) (args_slot _) (synclaw_RefinesQuiet.B0_sound script_b script_l script_c w h)
  exact hc.mono fun e w' he => by
    obtain ⟨v, rfl, hv⟩ := he
    exact synclaw_RefinesQuiet.RV_elim hv
def synclaw_RefinesUpTo.B0 (script_b : Option Addr) (script_l script_c : Nat) (w : World)   (R : Int → World → Prop) : Prop :=
  synclaw_walk.Call script_b script_l script_c false false w fun r7_0 r7_1 w1 =>
  R r7_0 w1
theorem synclaw_RefinesUpTo.B0_eq (script_b : Option Addr) (script_l script_c : Nat) (w : World)   (R : Int → World → Prop)  :
    (
  synclaw_walk.Call script_b script_l script_c false false w fun r7_0 r7_1 w1 =>
  R r7_0 w1) = kstep Tryz.prog 11 Tryz.f6.results.toList (Tryz.f6.body.getD .skip) (synclaw_RefinesUpTo.RV R) (kvc Tryz.prog 11 Tryz.f6.results.toList (Tryz.f6.body.getD .skip) (synclaw_RefinesUpTo.RV R) [] 2000) [(0, [])] [(0, .slice script_b script_l script_c)] w := by kernel_rfl
theorem synclaw_RefinesUpTo.B0_sound {R : Int → World → Prop}  (script_b : Option Addr) (script_l script_c : Nat) (w : World) (h : synclaw_RefinesUpTo.B0 script_b script_l script_c w   R) :
    KW Tryz.prog 6 11 (synclaw_RefinesUpTo.RV R) ([(0, [])].map (toItem (Tryz.f6.body.getD .skip))) [(0, .slice script_b script_l script_c)] w := by
  exact block_spec Tryz.func6 Tryz.mixed stops_nil (Eq.mp (synclaw_RefinesUpTo.B0_eq script_b script_l script_c w   R ) h)
theorem synclaw_RefinesUpTo.sound (script_b : Option Addr) (script_l script_c : Nat) (w : World) (R : Int → World → Prop) (h : synclaw_RefinesUpTo.B0 script_b script_l script_c w R) : synclaw_RefinesUpTo.Call script_b script_l script_c w R := by
  have hc := calls_of_block (args := #[.slice script_b script_l script_c]) Tryz.func6 (body := (Tryz.f6.body.getD .skip)) (by kernel_rfl) (by kernel_rfl) (args_slot _) (synclaw_RefinesUpTo.B0_sound script_b script_l script_c w h)
  exact hc.mono fun e w' he => by
    obtain ⟨v, rfl, hv⟩ := he
    exact synclaw_RefinesUpTo.RV_elim hv
def synclaw_walk.B3 (script_b : Option Addr) (script_l script_c : Nat) (steady quiet : Bool) (id0 : Int) (b : Nat) (x m0 : Option Addr) (reg was : Nat) (mine_b : Option Addr) (mine_l mine_c : Nat) (i : Int) (w : World) (N1 : Option Addr → Nat → Nat → Bool → Bool → Int → Nat → Option Addr → Option Addr → Nat → Nat → Option Addr → Nat → Nat → Int → World → Prop)  (R : Int → Int → World → Prop) : Prop :=
  N1 script_b script_l script_c steady quiet id0 b x m0 reg was mine_b mine_l mine_c (IntKind.i64.wrap (i + (1 : Int))) w
theorem synclaw_walk.B3_eq (script_b : Option Addr) (script_l script_c : Nat) (steady quiet : Bool) (id0 : Int) (b : Nat) (x m0 : Option Addr) (reg was : Nat) (mine_b : Option Addr) (mine_l mine_c : Nat) (i : Int) (w : World) (N1 : Option Addr → Nat → Nat → Bool → Bool → Int → Nat → Option Addr → Option Addr → Nat → Nat → Option Addr → Nat → Nat → Int → World → Prop)  (R : Int → Int → World → Prop)  :
    (
  N1 script_b script_l script_c steady quiet id0 b x m0 reg was mine_b mine_l mine_c (IntKind.i64.wrap (i + (1 : Int))) w) = kstep Tryz.prog 283 Tryz.f7.results.toList (Tryz.f7.body.getD .skip) (synclaw_walk.RV R) (kvc Tryz.prog 283 Tryz.f7.results.toList (Tryz.f7.body.getD .skip) (synclaw_walk.RV R) [([(0, [1, 1, 1, 1, 1, 1, 1, 1, 1, 1, 1, 0, 1, 0, 0]), (2, [1, 1, 1, 1, 1, 1, 1, 1, 1, 1, 1, 0, 1, 0, 0]), (1, [0]), (0, [1, 1, 1, 1, 1, 1, 1, 1, 1, 1, 1, 1])], fun σ w => dL (slotOf σ 0) fun script_b_ script_l_ script_c_ => dB (slotOf σ 1) fun steady_ => dB (slotOf σ 2) fun quiet_ => dI .i64 (slotOf σ 8) fun id0_ => dK (slotOf σ 9) fun b_ => dP (slotOf σ 11) fun x_ => dP (slotOf σ 12) fun m0_ => dK (slotOf σ 13) fun reg_ => dK (slotOf σ 14) fun was_ => dL (slotOf σ 15) fun mine_b_ mine_l_ mine_c_ => dI .i64 (slotOf σ 16) fun i_ => N1 script_b_ script_l_ script_c_ steady_ quiet_ id0_ b_ x_ m0_ reg_ was_ mine_b_ mine_l_ mine_c_ i_ w)] 2000) [(0, [1, 1, 1, 1, 1, 1, 1, 1, 1, 1, 1, 0, 1, 0, 0, 1, 1]), (2, [1, 1, 1, 1, 1, 1, 1, 1, 1, 1, 1, 0, 1, 0, 0]), (1, [0]), (0, [1, 1, 1, 1, 1, 1, 1, 1, 1, 1, 1, 1])] [(0, .slice script_b script_l script_c), (1, .bool steady), (2, .bool quiet), (8, .int .i64 id0), (9, .pointer (some ⟨b, 0, none⟩)), (11, .pointer x), (12, .pointer m0), (13, .pointer (some ⟨reg, 0, none⟩)), (14, .pointer (some ⟨was, 0, none⟩)), (15, .slice mine_b mine_l mine_c), (16, .int .i64 i)] w := by kernel_rfl
theorem synclaw_walk.B3_sound {R : Int → Int → World → Prop} {N1 : Option Addr → Nat → Nat → Bool → Bool → Int → Nat → Option Addr → Option Addr → Nat → Nat → Option Addr → Nat → Nat → Int → World → Prop} (hN1 : ∀ script_b script_l script_c steady quiet id0 b x m0 reg was mine_b mine_l mine_c i w, N1 script_b script_l script_c steady quiet id0 b x m0 reg was mine_b mine_l mine_c i w → KW Tryz.prog 7 283 (synclaw_walk.RV R) ([(0, [1, 1, 1, 1, 1, 1, 1, 1, 1, 1, 1, 0, 1, 0, 0]), (2, [1, 1, 1, 1, 1, 1, 1, 1, 1, 1, 1, 0, 1, 0, 0]), (1, [0]), (0, [1, 1, 1, 1, 1, 1, 1, 1, 1, 1, 1, 1])].map (toItem (Tryz.f7.body.getD .skip))) [(0, .slice script_b script_l script_c), (1, .bool steady), (2, .bool quiet), (8, .int .i64 id0), (9, .pointer (some ⟨b, 0, none⟩)), (11, .pointer x), (12, .pointer m0), (13, .pointer (some ⟨reg, 0, none⟩)), (14, .pointer (some ⟨was, 0, none⟩)), (15, .slice mine_b mine_l mine_c), (16, .int .i64 i)] w) (script_b : Option Addr) (script_l script_c : Nat) (steady quiet : Bool) (id0 : Int) (b : Nat) (x m0 : Option Addr) (reg was : Nat) (mine_b : Option Addr) (mine_l mine_c : Nat) (i : Int) (w : World) (h : synclaw_walk.B3 script_b script_l script_c steady quiet id0 b x m0 reg was mine_b mine_l mine_c i w N1  R) :
    KW Tryz.prog 7 283 (synclaw_walk.RV R) ([(0, [1, 1, 1, 1, 1, 1, 1, 1, 1, 1, 1, 0, 1, 0, 0, 1, 1]), (2, [1, 1, 1, 1, 1, 1, 1, 1, 1, 1, 1, 0, 1, 0, 0]), (1, [0]), (0, [1, 1, 1, 1, 1, 1, 1, 1, 1, 1, 1, 1])].map (toItem (Tryz.f7.body.getD .skip))) [(0, .slice script_b script_l script_c), (1, .bool steady), (2, .bool quiet), (8, .int .i64 id0), (9, .pointer (some ⟨b, 0, none⟩)), (11, .pointer x), (12, .pointer m0), (13, .pointer (some ⟨reg, 0, none⟩)), (14, .pointer (some ⟨was, 0, none⟩)), (15, .slice mine_b mine_l mine_c), (16, .int .i64 i)] w := by
  exact block_spec Tryz.func7 Tryz.mixed (stops_cons (fun σ w h => by
      obtain ⟨script_b_, script_l_, script_c_, e0, h⟩ := dL_elim h
      obtain ⟨steady_, e1, h⟩ := dB_elim h
      obtain ⟨quiet_, e2, h⟩ := dB_elim h
      obtain ⟨id0_, e3, h⟩ := dI_elim h
      obtain ⟨b_, e4, h⟩ := dK_elim h
      obtain ⟨x_, e5, h⟩ := dP_elim h
      obtain ⟨m0_, e6, h⟩ := dP_elim h
      obtain ⟨reg_, e7, h⟩ := dK_elim h
      obtain ⟨was_, e8, h⟩ := dK_elim h
      obtain ⟨mine_b_, mine_l_, mine_c_, e9, h⟩ := dL_elim h
      obtain ⟨i_, e10, h⟩ := dI_elim h
      exact (hN1 script_b_ script_l_ script_c_ steady_ quiet_ id0_ b_ x_ m0_ reg_ was_ mine_b_ mine_l_ mine_c_ i_ w h).weaken (Sub.cons (Sub.cons (Sub.cons (Sub.cons (Sub.cons (Sub.cons (Sub.cons (Sub.cons (Sub.cons (Sub.cons (Sub.cons (Sub.nil _) e10) e9) e8) e7) e6) e5) e4) e3) e2) e1) e0)) stops_nil) (Eq.mp (synclaw_walk.B3_eq script_b script_l script_c steady quiet id0 b x m0 reg was mine_b mine_l mine_c i w N1  R ) h)
def synclaw_walk.B7 (script_b : Option Addr) (script_l script_c : Nat) (steady quiet : Bool) (id0 : Int) (b : Nat) (x m0 : Option Addr) (reg was : Nat) (mine_b : Option Addr) (mine_l mine_c : Nat) (i : Int) (o b0 : Nat) (j : Int) (t134 : Bool) (w : World) (N1 : Option Addr → Nat → Nat → Bool → Bool → Int → Nat → Option Addr → Option Addr → Nat → Nat → Option Addr → Nat → Nat → Int → World → Prop)  (R : Int → Int → World → Prop) : Prop :=
  Bm t134 (
    R i i w) (
    syncm_Sync_After.Call m0 j w fun r139 w1 =>
    Bm quiet (
      LdP ⟨b0, 0, none⟩ w1 fun x141_0 =>
      LdP ⟨b0, 1, none⟩ w1 fun x141_1 =>
      LdI .i64 ⟨o, 1, none⟩ w1 fun x143 =>
      synclaw_After.Call x141_0 x141_1 x143 w1 fun r144_0 r144_1 w2 =>
      Sts [.pointer r144_0, .pointer r144_1] ⟨b, 0, none⟩ 0 w2 fun w3 =>
      elect_New.Call id0 w3 fun r146 w4 =>
      LdP ⟨b, 1, none⟩ w4 fun x148 =>
      sync_Open.Call x148 r146 w4 fun r150 w5 =>
      synclaw_walk.B3 script_b script_l script_c steady quiet id0 b r150 r139 reg was mine_b mine_l mine_c i w5 N1 R) (
      synclaw_walk.B3 script_b script_l script_c steady quiet id0 b x r139 reg was mine_b mine_l mine_c i w1 N1 R))
theorem synclaw_walk.B7_eq (script_b : Option Addr) (script_l script_c : Nat) (steady quiet : Bool) (id0 : Int) (b : Nat) (x m0 : Option Addr) (reg was : Nat) (mine_b : Option Addr) (mine_l mine_c : Nat) (i : Int) (o b0 : Nat) (j : Int) (t134 : Bool) (w : World) (N1 : Option Addr → Nat → Nat → Bool → Bool → Int → Nat → Option Addr → Option Addr → Nat → Nat → Option Addr → Nat → Nat → Int → World → Prop)  (R : Int → Int → World → Prop) (sB3 : Option Addr → Nat → Nat → Bool → Bool → Int → Nat → Option Addr → Option Addr → Nat → Nat → Option Addr → Nat → Nat → Int → World → Prop) :
    (
  Bm t134 (
    R i i w) (
    syncm_Sync_After.Call m0 j w fun r139 w1 =>
    Bm quiet (
      LdP ⟨b0, 0, none⟩ w1 fun x141_0 =>
      LdP ⟨b0, 1, none⟩ w1 fun x141_1 =>
      LdI .i64 ⟨o, 1, none⟩ w1 fun x143 =>
      synclaw_After.Call x141_0 x141_1 x143 w1 fun r144_0 r144_1 w2 =>
      Sts [.pointer r144_0, .pointer r144_1] ⟨b, 0, none⟩ 0 w2 fun w3 =>
      elect_New.Call id0 w3 fun r146 w4 =>
      LdP ⟨b, 1, none⟩ w4 fun x148 =>
      sync_Open.Call x148 r146 w4 fun r150 w5 =>
      sB3 script_b script_l script_c steady quiet id0 b r150 r139 reg was mine_b mine_l mine_c i w5) (
      sB3 script_b script_l script_c steady quiet id0 b x r139 reg was mine_b mine_l mine_c i w1))) = kstep Tryz.prog 283 Tryz.f7.results.toList (Tryz.f7.body.getD .skip) (synclaw_walk.RV R) (kvc Tryz.prog 283 Tryz.f7.results.toList (Tryz.f7.body.getD .skip) (synclaw_walk.RV R) [([(0, [1, 1, 1, 1, 1, 1, 1, 1, 1, 1, 1, 0, 1, 0, 0, 1, 1]), (2, [1, 1, 1, 1, 1, 1, 1, 1, 1, 1, 1, 0, 1, 0, 0]), (1, [0]), (0, [1, 1, 1, 1, 1, 1, 1, 1, 1, 1, 1, 1])], fun σ w => dL (slotOf σ 0) fun script_b_ script_l_ script_c_ => dB (slotOf σ 1) fun steady_ => dB (slotOf σ 2) fun quiet_ => dI .i64 (slotOf σ 8) fun id0_ => dK (slotOf σ 9) fun b_ => dP (slotOf σ 11) fun x_ => dP (slotOf σ 12) fun m0_ => dK (slotOf σ 13) fun reg_ => dK (slotOf σ 14) fun was_ => dL (slotOf σ 15) fun mine_b_ mine_l_ mine_c_ => dI .i64 (slotOf σ 16) fun i_ => sB3 script_b_ script_l_ script_c_ steady_ quiet_ id0_ b_ x_ m0_ reg_ was_ mine_b_ mine_l_ mine_c_ i_ w)] 2000) [(0, [1, 1, 1, 1, 1, 1, 1, 1, 1, 1, 1, 0, 1, 0, 0, 1, 0, 0, 1, 0, 1, 0, 1, 1, 1, 1, 1, 1, 1, 1, 1, 1, 1, 1, 1, 1, 1, 1, 1, 0, 1]), (0, [1, 1, 1, 1, 1, 1, 1, 1, 1, 1, 1, 0, 1, 0, 0, 1, 0, 0, 1, 0, 1, 0, 1, 1, 1, 1, 1, 1, 1, 1, 1, 1, 1, 1, 1, 1, 1, 1, 1, 1]), (0, [1, 1, 1, 1, 1, 1, 1, 1, 1, 1, 1, 0, 1, 0, 0, 1, 0, 0, 1, 1]), (1, [1]), (0, [1, 1, 1, 1, 1, 1, 1, 1, 1, 1, 1, 0, 1, 0, 0, 1, 1]), (2, [1, 1, 1, 1, 1, 1, 1, 1, 1, 1, 1, 0, 1, 0, 0]), (1, [0]), (0, [1, 1, 1, 1, 1, 1, 1, 1, 1, 1, 1, 1])] [(0, .slice script_b script_l script_c), (1, .bool steady), (2, .bool quiet), (8, .int .i64 id0), (9, .pointer (some ⟨b, 0, none⟩)), (11, .pointer x), (12, .pointer m0), (13, .pointer (some ⟨reg, 0, none⟩)), (14, .pointer (some ⟨was, 0, none⟩)), (15, .slice mine_b mine_l mine_c), (16, .int .i64 i), (17, .pointer (some ⟨o, 0, none⟩)), (19, .pointer (some ⟨b0, 0, none⟩)), (22, .int .i64 j), (134, .bool t134)] w := by kernel_rfl
theorem synclaw_walk.B7_sound {R : Int → Int → World → Prop} {N1 : Option Addr → Nat → Nat → Bool → Bool → Int → Nat → Option Addr → Option Addr → Nat → Nat → Option Addr → Nat → Nat → Int → World → Prop} (hN1 : ∀ script_b script_l script_c steady quiet id0 b x m0 reg was mine_b mine_l mine_c i w, N1 script_b script_l script_c steady quiet id0 b x m0 reg was mine_b mine_l mine_c i w → KW Tryz.prog 7 283 (synclaw_walk.RV R) ([(0, [1, 1, 1, 1, 1, 1, 1, 1, 1, 1, 1, 0, 1, 0, 0]), (2, [1, 1, 1, 1, 1, 1, 1, 1, 1, 1, 1, 0, 1, 0, 0]), (1, [0]), (0, [1, 1, 1, 1, 1, 1, 1, 1, 1, 1, 1, 1])].map (toItem (Tryz.f7.body.getD .skip))) [(0, .slice script_b script_l script_c), (1, .bool steady), (2, .bool quiet), (8, .int .i64 id0), (9, .pointer (some ⟨b, 0, none⟩)), (11, .pointer x), (12, .pointer m0), (13, .pointer (some ⟨reg, 0, none⟩)), (14, .pointer (some ⟨was, 0, none⟩)), (15, .slice mine_b mine_l mine_c), (16, .int .i64 i)] w) (script_b : Option Addr) (script_l script_c : Nat) (steady quiet : Bool) (id0 : Int) (b : Nat) (x m0 : Option Addr) (reg was : Nat) (mine_b : Option Addr) (mine_l mine_c : Nat) (i : Int) (o b0 : Nat) (j : Int) (t134 : Bool) (w : World) (h : synclaw_walk.B7 script_b script_l script_c steady quiet id0 b x m0 reg was mine_b mine_l mine_c i o b0 j t134 w N1  R) :
    KW Tryz.prog 7 283 (synclaw_walk.RV R) ([(0, [1, 1, 1, 1, 1, 1, 1, 1, 1, 1, 1, 0, 1, 0, 0, 1, 0, 0, 1, 0, 1, 0, 1, 1, 1, 1, 1, 1, 1, 1, 1, 1, 1, 1, 1, 1, 1, 1, 1, 0, 1]), (0, [1, 1, 1, 1, 1, 1, 1, 1, 1, 1, 1, 0, 1, 0, 0, 1, 0, 0, 1, 0, 1, 0, 1, 1, 1, 1, 1, 1, 1, 1, 1, 1, 1, 1, 1, 1, 1, 1, 1, 1]), (0, [1, 1, 1, 1, 1, 1, 1, 1, 1, 1, 1, 0, 1, 0, 0, 1, 0, 0, 1, 1]), (1, [1]), (0, [1, 1, 1, 1, 1, 1, 1, 1, 1, 1, 1, 0, 1, 0, 0, 1, 1]), (2, [1, 1, 1, 1, 1, 1, 1, 1, 1, 1, 1, 0, 1, 0, 0]), (1, [0]), (0, [1, 1, 1, 1, 1, 1, 1, 1, 1, 1, 1, 1])].map (toItem (Tryz.f7.body.getD .skip))) [(0, .slice script_b script_l script_c), (1, .bool steady), (2, .bool quiet), (8, .int .i64 id0), (9, .pointer (some ⟨b, 0, none⟩)), (11, .pointer x), (12, .pointer m0), (13, .pointer (some ⟨reg, 0, none⟩)), (14, .pointer (some ⟨was, 0, none⟩)), (15, .slice mine_b mine_l mine_c), (16, .int .i64 i), (17, .pointer (some ⟨o, 0, none⟩)), (19, .pointer (some ⟨b0, 0, none⟩)), (22, .int .i64 j), (134, .bool t134)] w := by
  exact block_spec Tryz.func7 Tryz.mixed (stops_cons (fun σ w h => by
      obtain ⟨script_b_, script_l_, script_c_, e0, h⟩ := dL_elim h
      obtain ⟨steady_, e1, h⟩ := dB_elim h
      obtain ⟨quiet_, e2, h⟩ := dB_elim h
      obtain ⟨id0_, e3, h⟩ := dI_elim h
      obtain ⟨b_, e4, h⟩ := dK_elim h
      obtain ⟨x_, e5, h⟩ := dP_elim h
      obtain ⟨m0_, e6, h⟩ := dP_elim h
      obtain ⟨reg_, e7, h⟩ := dK_elim h
      obtain ⟨was_, e8, h⟩ := dK_elim h
      obtain ⟨mine_b_, mine_l_, mine_c_, e9, h⟩ := dL_elim h
      obtain ⟨i_, e10, h⟩ := dI_elim h
      exact (synclaw_walk.B3_sound hN1 script_b_ script_l_ script_c_ steady_ quiet_ id0_ b_ x_ m0_ reg_ was_ mine_b_ mine_l_ mine_c_ i_ w h).weaken (Sub.cons (Sub.cons (Sub.cons (Sub.cons (Sub.cons (Sub.cons (Sub.cons (Sub.cons (Sub.cons (Sub.cons (Sub.cons (Sub.nil _) e10) e9) e8) e7) e6) e5) e4) e3) e2) e1) e0)) stops_nil) (Eq.mp (synclaw_walk.B7_eq script_b script_l script_c steady quiet id0 b x m0 reg was mine_b mine_l mine_c i o b0 j t134 w N1  R (fun script_b_ script_l_ script_c_ steady_ quiet_ id0_ b_ x_ m0_ reg_ was_ mine_b_ mine_l_ mine_c_ i_ w => synclaw_walk.B3 script_b_ script_l_ script_c_ steady_ quiet_ id0_ b_ x_ m0_ reg_ was_ mine_b_ mine_l_ mine_c_ i_ w N1 R)) h)
def synclaw_walk.B4 (script_b : Option Addr) (script_l script_c : Nat) (steady quiet : Bool) (id0 : Int) (b : Nat) (x m0 : Option Addr) (reg was : Nat) (mine_b : Option Addr) (mine_l mine_c : Nat) (i : Int) (o : Nat) (n : Int) (b0 : Nat) (j : Int) (whole t124 : Bool) (w : World) (N1 : Option Addr → Nat → Nat → Bool → Bool → Int → Nat → Option Addr → Option Addr → Nat → Nat → Option Addr → Nat → Nat → Int → World → Prop)  (R : Int → Int → World → Prop) : Prop :=
  Bm t124 (
    R i i w) (
    LdI .i64 ⟨o, 1, none⟩ w fun x128 =>
    Bm (decide (x128 ≥ n)) (
      synclaw_walk.B7 script_b script_l script_c steady quiet id0 b x m0 reg was mine_b mine_l mine_c i o b0 j (!whole) w N1 R) (
      synclaw_walk.B7 script_b script_l script_c steady quiet id0 b x m0 reg was mine_b mine_l mine_c i o b0 j false w N1 R))
theorem synclaw_walk.B4_eq (script_b : Option Addr) (script_l script_c : Nat) (steady quiet : Bool) (id0 : Int) (b : Nat) (x m0 : Option Addr) (reg was : Nat) (mine_b : Option Addr) (mine_l mine_c : Nat) (i : Int) (o : Nat) (n : Int) (b0 : Nat) (j : Int) (whole t124 : Bool) (w : World) (N1 : Option Addr → Nat → Nat → Bool → Bool → Int → Nat → Option Addr → Option Addr → Nat → Nat → Option Addr → Nat → Nat → Int → World → Prop)  (R : Int → Int → World → Prop) (sB7 : Option Addr → Nat → Nat → Bool → Bool → Int → Nat → Option Addr → Option Addr → Nat → Nat → Option Addr → Nat → Nat → Int → Nat → Nat → Int → Bool → World → Prop) :
    (
  Bm t124 (
    R i i w) (
    LdI .i64 ⟨o, 1, none⟩ w fun x128 =>
    Bm (decide (x128 ≥ n)) (
      sB7 script_b script_l script_c steady quiet id0 b x m0 reg was mine_b mine_l mine_c i o b0 j (!whole) w) (
      sB7 script_b script_l script_c steady quiet id0 b x m0 reg was mine_b mine_l mine_c i o b0 j false w))) = kstep Tryz.prog 283 Tryz.f7.results.toList (Tryz.f7.body.getD .skip) (synclaw_walk.RV R) (kvc Tryz.prog 283 Tryz.f7.results.toList (Tryz.f7.body.getD .skip) (synclaw_walk.RV R) [([(0, [1, 1, 1, 1, 1, 1, 1, 1, 1, 1, 1, 0, 1, 0, 0, 1, 0, 0, 1, 0, 1, 0, 1, 1, 1, 1, 1, 1, 1, 1, 1, 1, 1, 1, 1, 1, 1, 1, 1, 0, 1]), (0, [1, 1, 1, 1, 1, 1, 1, 1, 1, 1, 1, 0, 1, 0, 0, 1, 0, 0, 1, 0, 1, 0, 1, 1, 1, 1, 1, 1, 1, 1, 1, 1, 1, 1, 1, 1, 1, 1, 1, 1]), (0, [1, 1, 1, 1, 1, 1, 1, 1, 1, 1, 1, 0, 1, 0, 0, 1, 0, 0, 1, 1]), (1, [1]), (0, [1, 1, 1, 1, 1, 1, 1, 1, 1, 1, 1, 0, 1, 0, 0, 1, 1]), (2, [1, 1, 1, 1, 1, 1, 1, 1, 1, 1, 1, 0, 1, 0, 0]), (1, [0]), (0, [1, 1, 1, 1, 1, 1, 1, 1, 1, 1, 1, 1])], fun σ w => dL (slotOf σ 0) fun script_b_ script_l_ script_c_ => dB (slotOf σ 1) fun steady_ => dB (slotOf σ 2) fun quiet_ => dI .i64 (slotOf σ 8) fun id0_ => dK (slotOf σ 9) fun b_ => dP (slotOf σ 11) fun x_ => dP (slotOf σ 12) fun m0_ => dK (slotOf σ 13) fun reg_ => dK (slotOf σ 14) fun was_ => dL (slotOf σ 15) fun mine_b_ mine_l_ mine_c_ => dI .i64 (slotOf σ 16) fun i_ => dK (slotOf σ 17) fun o_ => dK (slotOf σ 19) fun b0_ => dI .i64 (slotOf σ 22) fun j_ => dB (slotOf σ 134) fun t134_ => sB7 script_b_ script_l_ script_c_ steady_ quiet_ id0_ b_ x_ m0_ reg_ was_ mine_b_ mine_l_ mine_c_ i_ o_ b0_ j_ t134_ w)] 2000) [(0, [1, 1, 1, 1, 1, 1, 1, 1, 1, 1, 1, 0, 1, 0, 0, 1, 0, 0, 1, 0, 1, 0, 1, 1, 1, 1, 1, 1, 1, 1, 1, 1, 1, 1, 1, 1, 1, 1, 0, 1]), (0, [1, 1, 1, 1, 1, 1, 1, 1, 1, 1, 1, 0, 1, 0, 0, 1, 0, 0, 1, 0, 1, 0, 1, 1, 1, 1, 1, 1, 1, 1, 1, 1, 1, 1, 1, 1, 1, 1, 1]), (0, [1, 1, 1, 1, 1, 1, 1, 1, 1, 1, 1, 0, 1, 0, 0, 1, 0, 0, 1, 1]), (1, [1]), (0, [1, 1, 1, 1, 1, 1, 1, 1, 1, 1, 1, 0, 1, 0, 0, 1, 1]), (2, [1, 1, 1, 1, 1, 1, 1, 1, 1, 1, 1, 0, 1, 0, 0]), (1, [0]), (0, [1, 1, 1, 1, 1, 1, 1, 1, 1, 1, 1, 1])] [(0, .slice script_b script_l script_c), (1, .bool steady), (2, .bool quiet), (8, .int .i64 id0), (9, .pointer (some ⟨b, 0, none⟩)), (11, .pointer x), (12, .pointer m0), (13, .pointer (some ⟨reg, 0, none⟩)), (14, .pointer (some ⟨was, 0, none⟩)), (15, .slice mine_b mine_l mine_c), (16, .int .i64 i), (17, .pointer (some ⟨o, 0, none⟩)), (18, .int .i64 n), (19, .pointer (some ⟨b0, 0, none⟩)), (22, .int .i64 j), (25, .bool whole), (124, .bool t124)] w := by kernel_rfl
theorem synclaw_walk.B4_sound {R : Int → Int → World → Prop} {N1 : Option Addr → Nat → Nat → Bool → Bool → Int → Nat → Option Addr → Option Addr → Nat → Nat → Option Addr → Nat → Nat → Int → World → Prop} (hN1 : ∀ script_b script_l script_c steady quiet id0 b x m0 reg was mine_b mine_l mine_c i w, N1 script_b script_l script_c steady quiet id0 b x m0 reg was mine_b mine_l mine_c i w → KW Tryz.prog 7 283 (synclaw_walk.RV R) ([(0, [1, 1, 1, 1, 1, 1, 1, 1, 1, 1, 1, 0, 1, 0, 0]), (2, [1, 1, 1, 1, 1, 1, 1, 1, 1, 1, 1, 0, 1, 0, 0]), (1, [0]), (0, [1, 1, 1, 1, 1, 1, 1, 1, 1, 1, 1, 1])].map (toItem (Tryz.f7.body.getD .skip))) [(0, .slice script_b script_l script_c), (1, .bool steady), (2, .bool quiet), (8, .int .i64 id0), (9, .pointer (some ⟨b, 0, none⟩)), (11, .pointer x), (12, .pointer m0), (13, .pointer (some ⟨reg, 0, none⟩)), (14, .pointer (some ⟨was, 0, none⟩)), (15, .slice mine_b mine_l mine_c), (16, .int .i64 i)] w) (script_b : Option Addr) (script_l script_c : Nat) (steady quiet : Bool) (id0 : Int) (b : Nat) (x m0 : Option Addr) (reg was : Nat) (mine_b : Option Addr) (mine_l mine_c : Nat) (i : Int) (o : Nat) (n : Int) (b0 : Nat) (j : Int) (whole t124 : Bool) (w : World) (h : synclaw_walk.B4 script_b script_l script_c steady quiet id0 b x m0 reg was mine_b mine_l mine_c i o n b0 j whole t124 w N1  R) :
    KW Tryz.prog 7 283 (synclaw_walk.RV R) ([(0, [1, 1, 1, 1, 1, 1, 1, 1, 1, 1, 1, 0, 1, 0, 0, 1, 0, 0, 1, 0, 1, 0, 1, 1, 1, 1, 1, 1, 1, 1, 1, 1, 1, 1, 1, 1, 1, 1, 0, 1]), (0, [1, 1, 1, 1, 1, 1, 1, 1, 1, 1, 1, 0, 1, 0, 0, 1, 0, 0, 1, 0, 1, 0, 1, 1, 1, 1, 1, 1, 1, 1, 1, 1, 1, 1, 1, 1, 1, 1, 1]), (0, [1, 1, 1, 1, 1, 1, 1, 1, 1, 1, 1, 0, 1, 0, 0, 1, 0, 0, 1, 1]), (1, [1]), (0, [1, 1, 1, 1, 1, 1, 1, 1, 1, 1, 1, 0, 1, 0, 0, 1, 1]), (2, [1, 1, 1, 1, 1, 1, 1, 1, 1, 1, 1, 0, 1, 0, 0]), (1, [0]), (0, [1, 1, 1, 1, 1, 1, 1, 1, 1, 1, 1, 1])].map (toItem (Tryz.f7.body.getD .skip))) [(0, .slice script_b script_l script_c), (1, .bool steady), (2, .bool quiet), (8, .int .i64 id0), (9, .pointer (some ⟨b, 0, none⟩)), (11, .pointer x), (12, .pointer m0), (13, .pointer (some ⟨reg, 0, none⟩)), (14, .pointer (some ⟨was, 0, none⟩)), (15, .slice mine_b mine_l mine_c), (16, .int .i64 i), (17, .pointer (some ⟨o, 0, none⟩)), (18, .int .i64 n), (19, .pointer (some ⟨b0, 0, none⟩)), (22, .int .i64 j), (25, .bool whole), (124, .bool t124)] w := by
  exact block_spec Tryz.func7 Tryz.mixed (stops_cons (fun σ w h => by
      obtain ⟨script_b_, script_l_, script_c_, e0, h⟩ := dL_elim h
      obtain ⟨steady_, e1, h⟩ := dB_elim h
      obtain ⟨quiet_, e2, h⟩ := dB_elim h
      obtain ⟨id0_, e3, h⟩ := dI_elim h
      obtain ⟨b_, e4, h⟩ := dK_elim h
      obtain ⟨x_, e5, h⟩ := dP_elim h
      obtain ⟨m0_, e6, h⟩ := dP_elim h
      obtain ⟨reg_, e7, h⟩ := dK_elim h
      obtain ⟨was_, e8, h⟩ := dK_elim h
      obtain ⟨mine_b_, mine_l_, mine_c_, e9, h⟩ := dL_elim h
      obtain ⟨i_, e10, h⟩ := dI_elim h
      obtain ⟨o_, e11, h⟩ := dK_elim h
      obtain ⟨b0_, e12, h⟩ := dK_elim h
      obtain ⟨j_, e13, h⟩ := dI_elim h
      obtain ⟨t134_, e14, h⟩ := dB_elim h
      exact (synclaw_walk.B7_sound hN1 script_b_ script_l_ script_c_ steady_ quiet_ id0_ b_ x_ m0_ reg_ was_ mine_b_ mine_l_ mine_c_ i_ o_ b0_ j_ t134_ w h).weaken (Sub.cons (Sub.cons (Sub.cons (Sub.cons (Sub.cons (Sub.cons (Sub.cons (Sub.cons (Sub.cons (Sub.cons (Sub.cons (Sub.cons (Sub.cons (Sub.cons (Sub.cons (Sub.nil _) e14) e13) e12) e11) e10) e9) e8) e7) e6) e5) e4) e3) e2) e1) e0)) stops_nil) (Eq.mp (synclaw_walk.B4_eq script_b script_l script_c steady quiet id0 b x m0 reg was mine_b mine_l mine_c i o n b0 j whole t124 w N1  R (fun script_b_ script_l_ script_c_ steady_ quiet_ id0_ b_ x_ m0_ reg_ was_ mine_b_ mine_l_ mine_c_ i_ o_ b0_ j_ t134_ w => synclaw_walk.B7 script_b_ script_l_ script_c_ steady_ quiet_ id0_ b_ x_ m0_ reg_ was_ mine_b_ mine_l_ mine_c_ i_ o_ b0_ j_ t134_ w N1 R)) h)
def synclaw_walk.B8 (script_b : Option Addr) (script_l script_c : Nat) (steady quiet : Bool) (id0 : Int) (b : Nat) (x m0 : Option Addr) (reg was : Nat) (mine_b : Option Addr) (mine_l mine_c : Nat) (i : Int) (now : Nat) (w : World) (N1 : Option Addr → Nat → Nat → Bool → Bool → Int → Nat → Option Addr → Option Addr → Nat → Nat → Option Addr → Nat → Nat → Int → World → Prop)  (R : Int → Int → World → Prop) : Prop :=
  LdL ⟨now, 0, none⟩ w fun x259_0_b x259_0_l x259_0_c =>
  LdL ⟨now, 1, none⟩ w fun x259_1_b x259_1_l x259_1_c =>
  Sts [.slice x259_0_b x259_0_l x259_0_c, .slice x259_1_b x259_1_l x259_1_c] ⟨was, 0, none⟩ 0 w fun w1 =>
  LdP ⟨b, 0, none⟩ w1 fun x260_0 =>
  LdP ⟨b, 1, none⟩ w1 fun x260_1 =>
  synclaw_Idle.Call x260_0 x260_1 m0 w1 fun r262 w2 =>
  Bm (!r262) (
    R i i w2) (
    LdP ⟨b, 0, none⟩ w2 fun x266_0 =>
    LdP ⟨b, 1, none⟩ w2 fun x266_1 =>
    synclaw_Steps.Call x266_0 x266_1 w2 fun r267 w3 =>
    Bm (!quiet) (
      LdP ⟨b, 0, none⟩ w3 fun x272_0 =>
      LdP ⟨b, 1, none⟩ w3 fun x272_1 =>
      synclaw_Seen.Call x m0 x272_0 x272_1 r267 w3 fun r274 w4 =>
      Bm (!r274) (
        R i i w4) (
        synclaw_walk.B3 script_b script_l script_c steady quiet id0 b x m0 reg was mine_b mine_l mine_c i w4 N1 R)) (
      synclaw_walk.B3 script_b script_l script_c steady quiet id0 b x m0 reg was mine_b mine_l mine_c i w3 N1 R))
theorem synclaw_walk.B8_eq (script_b : Option Addr) (script_l script_c : Nat) (steady quiet : Bool) (id0 : Int) (b : Nat) (x m0 : Option Addr) (reg was : Nat) (mine_b : Option Addr) (mine_l mine_c : Nat) (i : Int) (now : Nat) (w : World) (N1 : Option Addr → Nat → Nat → Bool → Bool → Int → Nat → Option Addr → Option Addr → Nat → Nat → Option Addr → Nat → Nat → Int → World → Prop)  (R : Int → Int → World → Prop) (sB3 : Option Addr → Nat → Nat → Bool → Bool → Int → Nat → Option Addr → Option Addr → Nat → Nat → Option Addr → Nat → Nat → Int → World → Prop) :
    (
  LdL ⟨now, 0, none⟩ w fun x259_0_b x259_0_l x259_0_c =>
  LdL ⟨now, 1, none⟩ w fun x259_1_b x259_1_l x259_1_c =>
  Sts [.slice x259_0_b x259_0_l x259_0_c, .slice x259_1_b x259_1_l x259_1_c] ⟨was, 0, none⟩ 0 w fun w1 =>
  LdP ⟨b, 0, none⟩ w1 fun x260_0 =>
  LdP ⟨b, 1, none⟩ w1 fun x260_1 =>
  synclaw_Idle.Call x260_0 x260_1 m0 w1 fun r262 w2 =>
  Bm (!r262) (
    R i i w2) (
    LdP ⟨b, 0, none⟩ w2 fun x266_0 =>
    LdP ⟨b, 1, none⟩ w2 fun x266_1 =>
    synclaw_Steps.Call x266_0 x266_1 w2 fun r267 w3 =>
    Bm (!quiet) (
      LdP ⟨b, 0, none⟩ w3 fun x272_0 =>
      LdP ⟨b, 1, none⟩ w3 fun x272_1 =>
      synclaw_Seen.Call x m0 x272_0 x272_1 r267 w3 fun r274 w4 =>
      Bm (!r274) (
        R i i w4) (
        sB3 script_b script_l script_c steady quiet id0 b x m0 reg was mine_b mine_l mine_c i w4)) (
      sB3 script_b script_l script_c steady quiet id0 b x m0 reg was mine_b mine_l mine_c i w3))) = kstep Tryz.prog 283 Tryz.f7.results.toList (Tryz.f7.body.getD .skip) (synclaw_walk.RV R) (kvc Tryz.prog 283 Tryz.f7.results.toList (Tryz.f7.body.getD .skip) (synclaw_walk.RV R) [([(0, [1, 1, 1, 1, 1, 1, 1, 1, 1, 1, 1, 0, 1, 0, 0, 1, 1]), (2, [1, 1, 1, 1, 1, 1, 1, 1, 1, 1, 1, 0, 1, 0, 0]), (1, [0]), (0, [1, 1, 1, 1, 1, 1, 1, 1, 1, 1, 1, 1])], fun σ w => dL (slotOf σ 0) fun script_b_ script_l_ script_c_ => dB (slotOf σ 1) fun steady_ => dB (slotOf σ 2) fun quiet_ => dI .i64 (slotOf σ 8) fun id0_ => dK (slotOf σ 9) fun b_ => dP (slotOf σ 11) fun x_ => dP (slotOf σ 12) fun m0_ => dK (slotOf σ 13) fun reg_ => dK (slotOf σ 14) fun was_ => dL (slotOf σ 15) fun mine_b_ mine_l_ mine_c_ => dI .i64 (slotOf σ 16) fun i_ => sB3 script_b_ script_l_ script_c_ steady_ quiet_ id0_ b_ x_ m0_ reg_ was_ mine_b_ mine_l_ mine_c_ i_ w)] 2000) [(0, [1, 1, 1, 1, 1, 1, 1, 1, 1, 1, 1, 0, 1, 0, 0, 1, 0, 0, 1, 1, 1, 1, 1, 1, 1, 1, 1, 1, 1, 0, 1, 0, 1, 1]), (0, [1, 1, 1, 1, 1, 1, 1, 1, 1, 1, 1, 0, 1, 0, 0, 1, 0, 0, 1, 1, 1, 1, 1, 1, 1, 1, 1, 1, 1, 1]), (1, [1]), (0, [1, 1, 1, 1, 1, 1, 1, 1, 1, 1, 1, 0, 1, 0, 0, 1, 1]), (2, [1, 1, 1, 1, 1, 1, 1, 1, 1, 1, 1, 0, 1, 0, 0]), (1, [0]), (0, [1, 1, 1, 1, 1, 1, 1, 1, 1, 1, 1, 1])] [(0, .slice script_b script_l script_c), (1, .bool steady), (2, .bool quiet), (8, .int .i64 id0), (9, .pointer (some ⟨b, 0, none⟩)), (11, .pointer x), (12, .pointer m0), (13, .pointer (some ⟨reg, 0, none⟩)), (14, .pointer (some ⟨was, 0, none⟩)), (15, .slice mine_b mine_l mine_c), (16, .int .i64 i), (28, .pointer (some ⟨now, 0, none⟩))] w := by kernel_rfl
theorem synclaw_walk.B8_sound {R : Int → Int → World → Prop} {N1 : Option Addr → Nat → Nat → Bool → Bool → Int → Nat → Option Addr → Option Addr → Nat → Nat → Option Addr → Nat → Nat → Int → World → Prop} (hN1 : ∀ script_b script_l script_c steady quiet id0 b x m0 reg was mine_b mine_l mine_c i w, N1 script_b script_l script_c steady quiet id0 b x m0 reg was mine_b mine_l mine_c i w → KW Tryz.prog 7 283 (synclaw_walk.RV R) ([(0, [1, 1, 1, 1, 1, 1, 1, 1, 1, 1, 1, 0, 1, 0, 0]), (2, [1, 1, 1, 1, 1, 1, 1, 1, 1, 1, 1, 0, 1, 0, 0]), (1, [0]), (0, [1, 1, 1, 1, 1, 1, 1, 1, 1, 1, 1, 1])].map (toItem (Tryz.f7.body.getD .skip))) [(0, .slice script_b script_l script_c), (1, .bool steady), (2, .bool quiet), (8, .int .i64 id0), (9, .pointer (some ⟨b, 0, none⟩)), (11, .pointer x), (12, .pointer m0), (13, .pointer (some ⟨reg, 0, none⟩)), (14, .pointer (some ⟨was, 0, none⟩)), (15, .slice mine_b mine_l mine_c), (16, .int .i64 i)] w) (script_b : Option Addr) (script_l script_c : Nat) (steady quiet : Bool) (id0 : Int) (b : Nat) (x m0 : Option Addr) (reg was : Nat) (mine_b : Option Addr) (mine_l mine_c : Nat) (i : Int) (now : Nat) (w : World) (h : synclaw_walk.B8 script_b script_l script_c steady quiet id0 b x m0 reg was mine_b mine_l mine_c i now w N1  R) :
    KW Tryz.prog 7 283 (synclaw_walk.RV R) ([(0, [1, 1, 1, 1, 1, 1, 1, 1, 1, 1, 1, 0, 1, 0, 0, 1, 0, 0, 1, 1, 1, 1, 1, 1, 1, 1, 1, 1, 1, 0, 1, 0, 1, 1]), (0, [1, 1, 1, 1, 1, 1, 1, 1, 1, 1, 1, 0, 1, 0, 0, 1, 0, 0, 1, 1, 1, 1, 1, 1, 1, 1, 1, 1, 1, 1]), (1, [1]), (0, [1, 1, 1, 1, 1, 1, 1, 1, 1, 1, 1, 0, 1, 0, 0, 1, 1]), (2, [1, 1, 1, 1, 1, 1, 1, 1, 1, 1, 1, 0, 1, 0, 0]), (1, [0]), (0, [1, 1, 1, 1, 1, 1, 1, 1, 1, 1, 1, 1])].map (toItem (Tryz.f7.body.getD .skip))) [(0, .slice script_b script_l script_c), (1, .bool steady), (2, .bool quiet), (8, .int .i64 id0), (9, .pointer (some ⟨b, 0, none⟩)), (11, .pointer x), (12, .pointer m0), (13, .pointer (some ⟨reg, 0, none⟩)), (14, .pointer (some ⟨was, 0, none⟩)), (15, .slice mine_b mine_l mine_c), (16, .int .i64 i), (28, .pointer (some ⟨now, 0, none⟩))] w := by
  exact block_spec Tryz.func7 Tryz.mixed (stops_cons (fun σ w h => by
      obtain ⟨script_b_, script_l_, script_c_, e0, h⟩ := dL_elim h
      obtain ⟨steady_, e1, h⟩ := dB_elim h
      obtain ⟨quiet_, e2, h⟩ := dB_elim h
      obtain ⟨id0_, e3, h⟩ := dI_elim h
      obtain ⟨b_, e4, h⟩ := dK_elim h
      obtain ⟨x_, e5, h⟩ := dP_elim h
      obtain ⟨m0_, e6, h⟩ := dP_elim h
      obtain ⟨reg_, e7, h⟩ := dK_elim h
      obtain ⟨was_, e8, h⟩ := dK_elim h
      obtain ⟨mine_b_, mine_l_, mine_c_, e9, h⟩ := dL_elim h
      obtain ⟨i_, e10, h⟩ := dI_elim h
      exact (synclaw_walk.B3_sound hN1 script_b_ script_l_ script_c_ steady_ quiet_ id0_ b_ x_ m0_ reg_ was_ mine_b_ mine_l_ mine_c_ i_ w h).weaken (Sub.cons (Sub.cons (Sub.cons (Sub.cons (Sub.cons (Sub.cons (Sub.cons (Sub.cons (Sub.cons (Sub.cons (Sub.cons (Sub.nil _) e10) e9) e8) e7) e6) e5) e4) e3) e2) e1) e0)) stops_nil) (Eq.mp (synclaw_walk.B8_eq script_b script_l script_c steady quiet id0 b x m0 reg was mine_b mine_l mine_c i now w N1  R (fun script_b_ script_l_ script_c_ steady_ quiet_ id0_ b_ x_ m0_ reg_ was_ mine_b_ mine_l_ mine_c_ i_ w => synclaw_walk.B3 script_b_ script_l_ script_c_ steady_ quiet_ id0_ b_ x_ m0_ reg_ was_ mine_b_ mine_l_ mine_c_ i_ w N1 R)) h)
def synclaw_walk.L2b (script_b : Option Addr) (script_l script_c : Nat) (steady quiet : Bool) (id0 : Int) (b : Nat) (x m0 : Option Addr) (reg was : Nat) (mine_b : Option Addr) (mine_l mine_c : Nat) (i : Int) (now k : Nat) (j : Int) (w : World) (N1 : Option Addr → Nat → Nat → Bool → Bool → Int → Nat → Option Addr → Option Addr → Nat → Nat → Option Addr → Nat → Nat → Int → World → Prop) (N2 : Option Addr → Nat → Nat → Bool → Bool → Int → Nat → Option Addr → Option Addr → Nat → Nat → Option Addr → Nat → Nat → Int → Nat → Nat → Int → World → Prop) (R : Int → Int → World → Prop) : Prop :=
  Bm (decide ((IntKind.i64.wrap (j + (1 : Int))) < ((mine_l : Nat) : Int))) (
    Pn mine_b fun a =>
    (0 ≤ (IntKind.i64.wrap (j + (1 : Int))) ∧ (IntKind.i64.wrap (j + (1 : Int))) < ((mine_l : Nat) : Int)) ∧
    LdL (Addr.add a ((IntKind.i64.wrap (j + (1 : Int))).toNat * 2)) w fun x248_0_b x248_0_l x248_0_c =>
    LdL ((Addr.add a ((IntKind.i64.wrap (j + (1 : Int))).toNat * 2)).add 1) w fun x248_1_b x248_1_l x248_1_c =>
    Pn mine_b fun a_1 =>
    (0 ≤ j ∧ j < ((mine_l : Nat) : Int)) ∧
    Sts [.slice x248_0_b x248_0_l x248_0_c, .slice x248_1_b x248_1_l x248_1_c] (Addr.add a_1 (j.toNat * 2)) 0 w fun w1 =>
    N2 script_b script_l script_c steady quiet id0 b x m0 reg was mine_b mine_l mine_c i now k (IntKind.i64.wrap (j + (1 : Int))) w1) (
    (0 ≤ (IntKind.i64.wrap (((mine_l : Nat) : Int) - (1 : Int))) ∧ (IntKind.i64.wrap (((mine_l : Nat) : Int) - (1 : Int))) ≤ ((mine_c : Nat) : Int)) ∧
    LdL ⟨k, 0, none⟩ w fun x256_0_b x256_0_l x256_0_c =>
    LdL ⟨k, 1, none⟩ w fun x256_1_b x256_1_l x256_1_c =>
    New (.cells #[.slice x256_0_b x256_0_l x256_0_c, .slice x256_1_b x256_1_l x256_1_c] 64) w fun b257 w2 =>
    Append 64 (.agg #[.slice none 0 0, .slice none 0 0]) 2 48 (slBase mine_b ((0 : Nat) : Int) ((mine_c : Nat) : Int) 2) ((IntKind.i64.wrap (((mine_l : Nat) : Int) - (1 : Int))).toNat - ((0 : Nat) : Int).toNat) (((mine_c : Nat) : Int).toNat - ((0 : Nat) : Int).toNat) (some ⟨b257, 0, none⟩) 1 w2 fun b258 c258 w3 =>
    synclaw_walk.B8 script_b script_l script_c steady quiet id0 b x m0 reg was b258 (((IntKind.i64.wrap (((mine_l : Nat) : Int) - (1 : Int))).toNat - ((0 : Nat) : Int).toNat) + 1) c258 i now w3 N1 R)
theorem synclaw_walk.L2b_eq (script_b : Option Addr) (script_l script_c : Nat) (steady quiet : Bool) (id0 : Int) (b : Nat) (x m0 : Option Addr) (reg was : Nat) (mine_b : Option Addr) (mine_l mine_c : Nat) (i : Int) (now k : Nat) (j : Int) (w : World) (N1 : Option Addr → Nat → Nat → Bool → Bool → Int → Nat → Option Addr → Option Addr → Nat → Nat → Option Addr → Nat → Nat → Int → World → Prop) (N2 : Option Addr → Nat → Nat → Bool → Bool → Int → Nat → Option Addr → Option Addr → Nat → Nat → Option Addr → Nat → Nat → Int → Nat → Nat → Int → World → Prop) (R : Int → Int → World → Prop) (sB8 : Option Addr → Nat → Nat → Bool → Bool → Int → Nat → Option Addr → Option Addr → Nat → Nat → Option Addr → Nat → Nat → Int → Nat → World → Prop) :
    (
  Bm (decide ((IntKind.i64.wrap (j + (1 : Int))) < ((mine_l : Nat) : Int))) (
    Pn mine_b fun a =>
    (0 ≤ (IntKind.i64.wrap (j + (1 : Int))) ∧ (IntKind.i64.wrap (j + (1 : Int))) < ((mine_l : Nat) : Int)) ∧
    LdL (Addr.add a ((IntKind.i64.wrap (j + (1 : Int))).toNat * 2)) w fun x248_0_b x248_0_l x248_0_c =>
    LdL ((Addr.add a ((IntKind.i64.wrap (j + (1 : Int))).toNat * 2)).add 1) w fun x248_1_b x248_1_l x248_1_c =>
    Pn mine_b fun a_1 =>
    (0 ≤ j ∧ j < ((mine_l : Nat) : Int)) ∧
    Sts [.slice x248_0_b x248_0_l x248_0_c, .slice x248_1_b x248_1_l x248_1_c] (Addr.add a_1 (j.toNat * 2)) 0 w fun w1 =>
    N2 script_b script_l script_c steady quiet id0 b x m0 reg was mine_b mine_l mine_c i now k (IntKind.i64.wrap (j + (1 : Int))) w1) (
    (0 ≤ (IntKind.i64.wrap (((mine_l : Nat) : Int) - (1 : Int))) ∧ (IntKind.i64.wrap (((mine_l : Nat) : Int) - (1 : Int))) ≤ ((mine_c : Nat) : Int)) ∧
    LdL ⟨k, 0, none⟩ w fun x256_0_b x256_0_l x256_0_c =>
    LdL ⟨k, 1, none⟩ w fun x256_1_b x256_1_l x256_1_c =>
    New (.cells #[.slice x256_0_b x256_0_l x256_0_c, .slice x256_1_b x256_1_l x256_1_c] 64) w fun b257 w2 =>
    Append 64 (.agg #[.slice none 0 0, .slice none 0 0]) 2 48 (slBase mine_b ((0 : Nat) : Int) ((mine_c : Nat) : Int) 2) ((IntKind.i64.wrap (((mine_l : Nat) : Int) - (1 : Int))).toNat - ((0 : Nat) : Int).toNat) (((mine_c : Nat) : Int).toNat - ((0 : Nat) : Int).toNat) (some ⟨b257, 0, none⟩) 1 w2 fun b258 c258 w3 =>
    sB8 script_b script_l script_c steady quiet id0 b x m0 reg was b258 (((IntKind.i64.wrap (((mine_l : Nat) : Int) - (1 : Int))).toNat - ((0 : Nat) : Int).toNat) + 1) c258 i now w3)) = kstep Tryz.prog 283 Tryz.f7.results.toList (Tryz.f7.body.getD .skip) (synclaw_walk.RV R) (kvc Tryz.prog 283 Tryz.f7.results.toList (Tryz.f7.body.getD .skip) (synclaw_walk.RV R) [([(0, [1, 1, 1, 1, 1, 1, 1, 1, 1, 1, 1, 0, 1, 0, 0, 1, 0, 0, 1, 1, 1, 1, 1, 1, 1, 1, 1, 1, 1, 0, 1, 0, 1, 0, 1, 0, 0, 1, 0, 0, 1, 0, 0]), (2, [1, 1, 1, 1, 1, 1, 1, 1, 1, 1, 1, 0, 1, 0, 0, 1, 0, 0, 1, 1, 1, 1, 1, 1, 1, 1, 1, 1, 1, 0, 1, 0, 1, 0, 1, 0, 0, 1, 0, 0, 1, 0, 0]), (1, [3]), (0, [1, 1, 1, 1, 1, 1, 1, 1, 1, 1, 1, 0, 1, 0, 0, 1, 0, 0, 1, 1, 1, 1, 1, 1, 1, 1, 1, 1, 1, 0, 1, 0, 1, 0, 1, 0, 0, 1, 0, 1]), (0, [1, 1, 1, 1, 1, 1, 1, 1, 1, 1, 1, 0, 1, 0, 0, 1, 0, 0, 1, 1, 1, 1, 1, 1, 1, 1, 1, 1, 1, 0, 1, 0, 1, 0, 1, 0, 1]), (0, [1, 1, 1, 1, 1, 1, 1, 1, 1, 1, 1, 0, 1, 0, 0, 1, 0, 0, 1, 1, 1, 1, 1, 1, 1, 1, 1, 1, 1, 0, 1, 0, 1, 1]), (0, [1, 1, 1, 1, 1, 1, 1, 1, 1, 1, 1, 0, 1, 0, 0, 1, 0, 0, 1, 1, 1, 1, 1, 1, 1, 1, 1, 1, 1, 1]), (1, [1]), (0, [1, 1, 1, 1, 1, 1, 1, 1, 1, 1, 1, 0, 1, 0, 0, 1, 1]), (2, [1, 1, 1, 1, 1, 1, 1, 1, 1, 1, 1, 0, 1, 0, 0]), (1, [0]), (0, [1, 1, 1, 1, 1, 1, 1, 1, 1, 1, 1, 1])], fun σ w => dL (slotOf σ 0) fun script_b_ script_l_ script_c_ => dB (slotOf σ 1) fun steady_ => dB (slotOf σ 2) fun quiet_ => dI .i64 (slotOf σ 8) fun id0_ => dK (slotOf σ 9) fun b_ => dP (slotOf σ 11) fun x_ => dP (slotOf σ 12) fun m0_ => dK (slotOf σ 13) fun reg_ => dK (slotOf σ 14) fun was_ => dL (slotOf σ 15) fun mine_b_ mine_l_ mine_c_ => dI .i64 (slotOf σ 16) fun i_ => dK (slotOf σ 28) fun now_ => dK (slotOf σ 29) fun k_ => dI .i64 (slotOf σ 30) fun j_ => N2 script_b_ script_l_ script_c_ steady_ quiet_ id0_ b_ x_ m0_ reg_ was_ mine_b_ mine_l_ mine_c_ i_ now_ k_ j_ w),
    ([(0, [1, 1, 1, 1, 1, 1, 1, 1, 1, 1, 1, 0, 1, 0, 0, 1, 0, 0, 1, 1, 1, 1, 1, 1, 1, 1, 1, 1, 1, 0, 1, 0, 1, 1]), (0, [1, 1, 1, 1, 1, 1, 1, 1, 1, 1, 1, 0, 1, 0, 0, 1, 0, 0, 1, 1, 1, 1, 1, 1, 1, 1, 1, 1, 1, 1]), (1, [1]), (0, [1, 1, 1, 1, 1, 1, 1, 1, 1, 1, 1, 0, 1, 0, 0, 1, 1]), (2, [1, 1, 1, 1, 1, 1, 1, 1, 1, 1, 1, 0, 1, 0, 0]), (1, [0]), (0, [1, 1, 1, 1, 1, 1, 1, 1, 1, 1, 1, 1])], fun σ w => dL (slotOf σ 0) fun script_b_ script_l_ script_c_ => dB (slotOf σ 1) fun steady_ => dB (slotOf σ 2) fun quiet_ => dI .i64 (slotOf σ 8) fun id0_ => dK (slotOf σ 9) fun b_ => dP (slotOf σ 11) fun x_ => dP (slotOf σ 12) fun m0_ => dK (slotOf σ 13) fun reg_ => dK (slotOf σ 14) fun was_ => dL (slotOf σ 15) fun mine_b_ mine_l_ mine_c_ => dI .i64 (slotOf σ 16) fun i_ => dK (slotOf σ 28) fun now_ => sB8 script_b_ script_l_ script_c_ steady_ quiet_ id0_ b_ x_ m0_ reg_ was_ mine_b_ mine_l_ mine_c_ i_ now_ w)] 2000) [(0, [1, 1, 1, 1, 1, 1, 1, 1, 1, 1, 1, 0, 1, 0, 0, 1, 0, 0, 1, 1, 1, 1, 1, 1, 1, 1, 1, 1, 1, 0, 1, 0, 1, 0, 1, 0, 0, 1, 0, 0, 1, 0, 0]), (2, [1, 1, 1, 1, 1, 1, 1, 1, 1, 1, 1, 0, 1, 0, 0, 1, 0, 0, 1, 1, 1, 1, 1, 1, 1, 1, 1, 1, 1, 0, 1, 0, 1, 0, 1, 0, 0, 1, 0, 0, 1, 0, 0]), (1, [3]), (0, [1, 1, 1, 1, 1, 1, 1, 1, 1, 1, 1, 0, 1, 0, 0, 1, 0, 0, 1, 1, 1, 1, 1, 1, 1, 1, 1, 1, 1, 0, 1, 0, 1, 0, 1, 0, 0, 1, 0, 1]), (0, [1, 1, 1, 1, 1, 1, 1, 1, 1, 1, 1, 0, 1, 0, 0, 1, 0, 0, 1, 1, 1, 1, 1, 1, 1, 1, 1, 1, 1, 0, 1, 0, 1, 0, 1, 0, 1]), (0, [1, 1, 1, 1, 1, 1, 1, 1, 1, 1, 1, 0, 1, 0, 0, 1, 0, 0, 1, 1, 1, 1, 1, 1, 1, 1, 1, 1, 1, 0, 1, 0, 1, 1]), (0, [1, 1, 1, 1, 1, 1, 1, 1, 1, 1, 1, 0, 1, 0, 0, 1, 0, 0, 1, 1, 1, 1, 1, 1, 1, 1, 1, 1, 1, 1]), (1, [1]), (0, [1, 1, 1, 1, 1, 1, 1, 1, 1, 1, 1, 0, 1, 0, 0, 1, 1]), (2, [1, 1, 1, 1, 1, 1, 1, 1, 1, 1, 1, 0, 1, 0, 0]), (1, [0]), (0, [1, 1, 1, 1, 1, 1, 1, 1, 1, 1, 1, 1])] [(0, .slice script_b script_l script_c), (1, .bool steady), (2, .bool quiet), (8, .int .i64 id0), (9, .pointer (some ⟨b, 0, none⟩)), (11, .pointer x), (12, .pointer m0), (13, .pointer (some ⟨reg, 0, none⟩)), (14, .pointer (some ⟨was, 0, none⟩)), (15, .slice mine_b mine_l mine_c), (16, .int .i64 i), (28, .pointer (some ⟨now, 0, none⟩)), (29, .pointer (some ⟨k, 0, none⟩)), (30, .int .i64 j)] w := by kernel_rfl
theorem synclaw_walk.L2b_sound {R : Int → Int → World → Prop} {N1 : Option Addr → Nat → Nat → Bool → Bool → Int → Nat → Option Addr → Option Addr → Nat → Nat → Option Addr → Nat → Nat → Int → World → Prop} (hN1 : ∀ script_b script_l script_c steady quiet id0 b x m0 reg was mine_b mine_l mine_c i w, N1 script_b script_l script_c steady quiet id0 b x m0 reg was mine_b mine_l mine_c i w → KW Tryz.prog 7 283 (synclaw_walk.RV R) ([(0, [1, 1, 1, 1, 1, 1, 1, 1, 1, 1, 1, 0, 1, 0, 0]), (2, [1, 1, 1, 1, 1, 1, 1, 1, 1, 1, 1, 0, 1, 0, 0]), (1, [0]), (0, [1, 1, 1, 1, 1, 1, 1, 1, 1, 1, 1, 1])].map (toItem (Tryz.f7.body.getD .skip))) [(0, .slice script_b script_l script_c), (1, .bool steady), (2, .bool quiet), (8, .int .i64 id0), (9, .pointer (some ⟨b, 0, none⟩)), (11, .pointer x), (12, .pointer m0), (13, .pointer (some ⟨reg, 0, none⟩)), (14, .pointer (some ⟨was, 0, none⟩)), (15, .slice mine_b mine_l mine_c), (16, .int .i64 i)] w) {N2 : Option Addr → Nat → Nat → Bool → Bool → Int → Nat → Option Addr → Option Addr → Nat → Nat → Option Addr → Nat → Nat → Int → Nat → Nat → Int → World → Prop} (hN2 : ∀ script_b script_l script_c steady quiet id0 b x m0 reg was mine_b mine_l mine_c i now k j w, N2 script_b script_l script_c steady quiet id0 b x m0 reg was mine_b mine_l mine_c i now k j w → KW Tryz.prog 7 283 (synclaw_walk.RV R) ([(0, [1, 1, 1, 1, 1, 1, 1, 1, 1, 1, 1, 0, 1, 0, 0, 1, 0, 0, 1, 1, 1, 1, 1, 1, 1, 1, 1, 1, 1, 0, 1, 0, 1, 0, 1, 0, 0, 1, 0, 0, 1, 0, 0]), (2, [1, 1, 1, 1, 1, 1, 1, 1, 1, 1, 1, 0, 1, 0, 0, 1, 0, 0, 1, 1, 1, 1, 1, 1, 1, 1, 1, 1, 1, 0, 1, 0, 1, 0, 1, 0, 0, 1, 0, 0, 1, 0, 0]), (1, [3]), (0, [1, 1, 1, 1, 1, 1, 1, 1, 1, 1, 1, 0, 1, 0, 0, 1, 0, 0, 1, 1, 1, 1, 1, 1, 1, 1, 1, 1, 1, 0, 1, 0, 1, 0, 1, 0, 0, 1, 0, 1]), (0, [1, 1, 1, 1, 1, 1, 1, 1, 1, 1, 1, 0, 1, 0, 0, 1, 0, 0, 1, 1, 1, 1, 1, 1, 1, 1, 1, 1, 1, 0, 1, 0, 1, 0, 1, 0, 1]), (0, [1, 1, 1, 1, 1, 1, 1, 1, 1, 1, 1, 0, 1, 0, 0, 1, 0, 0, 1, 1, 1, 1, 1, 1, 1, 1, 1, 1, 1, 0, 1, 0, 1, 1]), (0, [1, 1, 1, 1, 1, 1, 1, 1, 1, 1, 1, 0, 1, 0, 0, 1, 0, 0, 1, 1, 1, 1, 1, 1, 1, 1, 1, 1, 1, 1]), (1, [1]), (0, [1, 1, 1, 1, 1, 1, 1, 1, 1, 1, 1, 0, 1, 0, 0, 1, 1]), (2, [1, 1, 1, 1, 1, 1, 1, 1, 1, 1, 1, 0, 1, 0, 0]), (1, [0]), (0, [1, 1, 1, 1, 1, 1, 1, 1, 1, 1, 1, 1])].map (toItem (Tryz.f7.body.getD .skip))) [(0, .slice script_b script_l script_c), (1, .bool steady), (2, .bool quiet), (8, .int .i64 id0), (9, .pointer (some ⟨b, 0, none⟩)), (11, .pointer x), (12, .pointer m0), (13, .pointer (some ⟨reg, 0, none⟩)), (14, .pointer (some ⟨was, 0, none⟩)), (15, .slice mine_b mine_l mine_c), (16, .int .i64 i), (28, .pointer (some ⟨now, 0, none⟩)), (29, .pointer (some ⟨k, 0, none⟩)), (30, .int .i64 j)] w) (script_b : Option Addr) (script_l script_c : Nat) (steady quiet : Bool) (id0 : Int) (b : Nat) (x m0 : Option Addr) (reg was : Nat) (mine_b : Option Addr) (mine_l mine_c : Nat) (i : Int) (now k : Nat) (j : Int) (w : World) (h : synclaw_walk.L2b script_b script_l script_c steady quiet id0 b x m0 reg was mine_b mine_l mine_c i now k j w N1 N2 R) :
    KW Tryz.prog 7 283 (synclaw_walk.RV R) ([(0, [1, 1, 1, 1, 1, 1, 1, 1, 1, 1, 1, 0, 1, 0, 0, 1, 0, 0, 1, 1, 1, 1, 1, 1, 1, 1, 1, 1, 1, 0, 1, 0, 1, 0, 1, 0, 0, 1, 0, 0, 1, 0, 0]), (2, [1, 1, 1, 1, 1, 1, 1, 1, 1, 1, 1, 0, 1, 0, 0, 1, 0, 0, 1, 1, 1, 1, 1, 1, 1, 1, 1, 1, 1, 0, 1, 0, 1, 0, 1, 0, 0, 1, 0, 0, 1, 0, 0]), (1, [3]), (0, [1, 1, 1, 1, 1, 1, 1, 1, 1, 1, 1, 0, 1, 0, 0, 1, 0, 0, 1, 1, 1, 1, 1, 1, 1, 1, 1, 1, 1, 0, 1, 0, 1, 0, 1, 0, 0, 1, 0, 1]), (0, [1, 1, 1, 1, 1, 1, 1, 1, 1, 1, 1, 0, 1, 0, 0, 1, 0, 0, 1, 1, 1, 1, 1, 1, 1, 1, 1, 1, 1, 0, 1, 0, 1, 0, 1, 0, 1]), (0, [1, 1, 1, 1, 1, 1, 1, 1, 1, 1, 1, 0, 1, 0, 0, 1, 0, 0, 1, 1, 1, 1, 1, 1, 1, 1, 1, 1, 1, 0, 1, 0, 1, 1]), (0, [1, 1, 1, 1, 1, 1, 1, 1, 1, 1, 1, 0, 1, 0, 0, 1, 0, 0, 1, 1, 1, 1, 1, 1, 1, 1, 1, 1, 1, 1]), (1, [1]), (0, [1, 1, 1, 1, 1, 1, 1, 1, 1, 1, 1, 0, 1, 0, 0, 1, 1]), (2, [1, 1, 1, 1, 1, 1, 1, 1, 1, 1, 1, 0, 1, 0, 0]), (1, [0]), (0, [1, 1, 1, 1, 1, 1, 1, 1, 1, 1, 1, 1])].map (toItem (Tryz.f7.body.getD .skip))) [(0, .slice script_b script_l script_c), (1, .bool steady), (2, .bool quiet), (8, .int .i64 id0), (9, .pointer (some ⟨b, 0, none⟩)), (11, .pointer x), (12, .pointer m0), (13, .pointer (some ⟨reg, 0, none⟩)), (14, .pointer (some ⟨was, 0, none⟩)), (15, .slice mine_b mine_l mine_c), (16, .int .i64 i), (28, .pointer (some ⟨now, 0, none⟩)), (29, .pointer (some ⟨k, 0, none⟩)), (30, .int .i64 j)] w := by
  exact block_spec Tryz.func7 Tryz.mixed (stops_cons (fun σ w h => by
      obtain ⟨script_b_, script_l_, script_c_, e0, h⟩ := dL_elim h
      obtain ⟨steady_, e1, h⟩ := dB_elim h
      obtain ⟨quiet_, e2, h⟩ := dB_elim h
      obtain ⟨id0_, e3, h⟩ := dI_elim h
      obtain ⟨b_, e4, h⟩ := dK_elim h
      obtain ⟨x_, e5, h⟩ := dP_elim h
      obtain ⟨m0_, e6, h⟩ := dP_elim h
      obtain ⟨reg_, e7, h⟩ := dK_elim h
      obtain ⟨was_, e8, h⟩ := dK_elim h
      obtain ⟨mine_b_, mine_l_, mine_c_, e9, h⟩ := dL_elim h
      obtain ⟨i_, e10, h⟩ := dI_elim h
      obtain ⟨now_, e11, h⟩ := dK_elim h
      obtain ⟨k_, e12, h⟩ := dK_elim h
      obtain ⟨j_, e13, h⟩ := dI_elim h
      exact (hN2 script_b_ script_l_ script_c_ steady_ quiet_ id0_ b_ x_ m0_ reg_ was_ mine_b_ mine_l_ mine_c_ i_ now_ k_ j_ w h).weaken (Sub.cons (Sub.cons (Sub.cons (Sub.cons (Sub.cons (Sub.cons (Sub.cons (Sub.cons (Sub.cons (Sub.cons (Sub.cons (Sub.cons (Sub.cons (Sub.cons (Sub.nil _) e13) e12) e11) e10) e9) e8) e7) e6) e5) e4) e3) e2) e1) e0)) (stops_cons (fun σ w h => by
      obtain ⟨script_b_, script_l_, script_c_, e0, h⟩ := dL_elim h
      obtain ⟨steady_, e1, h⟩ := dB_elim h
      obtain ⟨quiet_, e2, h⟩ := dB_elim h
      obtain ⟨id0_, e3, h⟩ := dI_elim h
      obtain ⟨b_, e4, h⟩ := dK_elim h
      obtain ⟨x_, e5, h⟩ := dP_elim h
      obtain ⟨m0_, e6, h⟩ := dP_elim h
      obtain ⟨reg_, e7, h⟩ := dK_elim h
      obtain ⟨was_, e8, h⟩ := dK_elim h
      obtain ⟨mine_b_, mine_l_, mine_c_, e9, h⟩ := dL_elim h
      obtain ⟨i_, e10, h⟩ := dI_elim h
      obtain ⟨now_, e11, h⟩ := dK_elim h
      exact (synclaw_walk.B8_sound hN1 script_b_ script_l_ script_c_ steady_ quiet_ id0_ b_ x_ m0_ reg_ was_ mine_b_ mine_l_ mine_c_ i_ now_ w h).weaken (Sub.cons (Sub.cons (Sub.cons (Sub.cons (Sub.cons (Sub.cons (Sub.cons (Sub.cons (Sub.cons (Sub.cons (Sub.cons (Sub.cons (Sub.nil _) e11) e10) e9) e8) e7) e6) e5) e4) e3) e2) e1) e0)) stops_nil)) (Eq.mp (synclaw_walk.L2b_eq script_b script_l script_c steady quiet id0 b x m0 reg was mine_b mine_l mine_c i now k j w N1 N2 R (fun script_b_ script_l_ script_c_ steady_ quiet_ id0_ b_ x_ m0_ reg_ was_ mine_b_ mine_l_ mine_c_ i_ now_ w => synclaw_walk.B8 script_b_ script_l_ script_c_ steady_ quiet_ id0_ b_ x_ m0_ reg_ was_ mine_b_ mine_l_ mine_c_ i_ now_ w N1 R)) h)
def synclaw_walk.L2 (script_b : Option Addr) (script_l script_c : Nat) (steady quiet : Bool) (id0 : Int) (b : Nat) (x m0 : Option Addr) (reg was : Nat) (mine_b : Option Addr) (mine_l mine_c : Nat) (i : Int) (now k : Nat) (j : Int) (w : World) (N1 : Option Addr → Nat → Nat → Bool → Bool → Int → Nat → Option Addr → Option Addr → Nat → Nat → Option Addr → Nat → Nat → Int → World → Prop) (R : Int → Int → World → Prop) : Prop :=
  ∃ (I : Nat → Option Addr → Nat → Nat → Bool → Bool → Int → Nat → Option Addr → Option Addr → Nat → Nat → Option Addr → Nat → Nat → Int → Nat → Nat → Int → World → Prop) (m : Nat), I m script_b script_l script_c steady quiet id0 b x m0 reg was mine_b mine_l mine_c i now k j w ∧ ∀ m script_b script_l script_c steady quiet id0 b x m0 reg was mine_b mine_l mine_c i now k j w, I m script_b script_l script_c steady quiet id0 b x m0 reg was mine_b mine_l mine_c i now k j w → synclaw_walk.L2b script_b script_l script_c steady quiet id0 b x m0 reg was mine_b mine_l mine_c i now k j w N1 (fun script_b' script_l' script_c' steady' quiet' id0' b' x' m0' reg' was' mine_b' mine_l' mine_c' i' now' k' j' w' => ∃ m', m' < m ∧ I m' script_b' script_l' script_c' steady' quiet' id0' b' x' m0' reg' was' mine_b' mine_l' mine_c' i' now' k' j' w') R
theorem synclaw_walk.L2_sound {R : Int → Int → World → Prop} {N1 : Option Addr → Nat → Nat → Bool → Bool → Int → Nat → Option Addr → Option Addr → Nat → Nat → Option Addr → Nat → Nat → Int → World → Prop} (hN1 : ∀ script_b script_l script_c steady quiet id0 b x m0 reg was mine_b mine_l mine_c i w, N1 script_b script_l script_c steady quiet id0 b x m0 reg was mine_b mine_l mine_c i w → KW Tryz.prog 7 283 (synclaw_walk.RV R) ([(0, [1, 1, 1, 1, 1, 1, 1, 1, 1, 1, 1, 0, 1, 0, 0]), (2, [1, 1, 1, 1, 1, 1, 1, 1, 1, 1, 1, 0, 1, 0, 0]), (1, [0]), (0, [1, 1, 1, 1, 1, 1, 1, 1, 1, 1, 1, 1])].map (toItem (Tryz.f7.body.getD .skip))) [(0, .slice script_b script_l script_c), (1, .bool steady), (2, .bool quiet), (8, .int .i64 id0), (9, .pointer (some ⟨b, 0, none⟩)), (11, .pointer x), (12, .pointer m0), (13, .pointer (some ⟨reg, 0, none⟩)), (14, .pointer (some ⟨was, 0, none⟩)), (15, .slice mine_b mine_l mine_c), (16, .int .i64 i)] w) (script_b : Option Addr) (script_l script_c : Nat) (steady quiet : Bool) (id0 : Int) (b : Nat) (x m0 : Option Addr) (reg was : Nat) (mine_b : Option Addr) (mine_l mine_c : Nat) (i : Int) (now k : Nat) (j : Int) (w : World) (h : synclaw_walk.L2 script_b script_l script_c steady quiet id0 b x m0 reg was mine_b mine_l mine_c i now k j w N1 R) :
    KW Tryz.prog 7 283 (synclaw_walk.RV R) ([(0, [1, 1, 1, 1, 1, 1, 1, 1, 1, 1, 1, 0, 1, 0, 0, 1, 0, 0, 1, 1, 1, 1, 1, 1, 1, 1, 1, 1, 1, 0, 1, 0, 1, 0, 1, 0, 0, 1, 0, 0, 1, 0, 0]), (2, [1, 1, 1, 1, 1, 1, 1, 1, 1, 1, 1, 0, 1, 0, 0, 1, 0, 0, 1, 1, 1, 1, 1, 1, 1, 1, 1, 1, 1, 0, 1, 0, 1, 0, 1, 0, 0, 1, 0, 0, 1, 0, 0]), (1, [3]), (0, [1, 1, 1, 1, 1, 1, 1, 1, 1, 1, 1, 0, 1, 0, 0, 1, 0, 0, 1, 1, 1, 1, 1, 1, 1, 1, 1, 1, 1, 0, 1, 0, 1, 0, 1, 0, 0, 1, 0, 1]), (0, [1, 1, 1, 1, 1, 1, 1, 1, 1, 1, 1, 0, 1, 0, 0, 1, 0, 0, 1, 1, 1, 1, 1, 1, 1, 1, 1, 1, 1, 0, 1, 0, 1, 0, 1, 0, 1]), (0, [1, 1, 1, 1, 1, 1, 1, 1, 1, 1, 1, 0, 1, 0, 0, 1, 0, 0, 1, 1, 1, 1, 1, 1, 1, 1, 1, 1, 1, 0, 1, 0, 1, 1]), (0, [1, 1, 1, 1, 1, 1, 1, 1, 1, 1, 1, 0, 1, 0, 0, 1, 0, 0, 1, 1, 1, 1, 1, 1, 1, 1, 1, 1, 1, 1]), (1, [1]), (0, [1, 1, 1, 1, 1, 1, 1, 1, 1, 1, 1, 0, 1, 0, 0, 1, 1]), (2, [1, 1, 1, 1, 1, 1, 1, 1, 1, 1, 1, 0, 1, 0, 0]), (1, [0]), (0, [1, 1, 1, 1, 1, 1, 1, 1, 1, 1, 1, 1])].map (toItem (Tryz.f7.body.getD .skip))) [(0, .slice script_b script_l script_c), (1, .bool steady), (2, .bool quiet), (8, .int .i64 id0), (9, .pointer (some ⟨b, 0, none⟩)), (11, .pointer x), (12, .pointer m0), (13, .pointer (some ⟨reg, 0, none⟩)), (14, .pointer (some ⟨was, 0, none⟩)), (15, .slice mine_b mine_l mine_c), (16, .int .i64 i), (28, .pointer (some ⟨now, 0, none⟩)), (29, .pointer (some ⟨k, 0, none⟩)), (30, .int .i64 j)] w := by
  obtain ⟨I, m, hBase, hr⟩ := h
  refine KW.loop (fun m σ w => ∃ (script_b : Option Addr) (script_l script_c : Nat) (steady quiet : Bool) (id0 : Int) (b : Nat) (x m0 : Option Addr) (reg was : Nat) (mine_b : Option Addr) (mine_l mine_c : Nat) (i : Int) (now k : Nat) (j : Int), σ = [(0, .slice script_b script_l script_c), (1, .bool steady), (2, .bool quiet), (8, .int .i64 id0), (9, .pointer (some ⟨b, 0, none⟩)), (11, .pointer x), (12, .pointer m0), (13, .pointer (some ⟨reg, 0, none⟩)), (14, .pointer (some ⟨was, 0, none⟩)), (15, .slice mine_b mine_l mine_c), (16, .int .i64 i), (28, .pointer (some ⟨now, 0, none⟩)), (29, .pointer (some ⟨k, 0, none⟩)), (30, .int .i64 j)] ∧ I m script_b script_l script_c steady quiet id0 b x m0 reg was mine_b mine_l mine_c i now k j w) ?_ m _ w ⟨script_b, script_l, script_c, steady, quiet, id0, b, x, m0, reg, was, mine_b, mine_l, mine_c, i, now, k, j, rfl, hBase⟩
  rintro m ih σ w ⟨script_b, script_l, script_c, steady, quiet, id0, b, x, m0, reg, was, mine_b, mine_l, mine_c, i, now, k, j, rfl, hI⟩
  exact synclaw_walk.L2b_sound hN1 (N2 := fun script_b' script_l' script_c' steady' quiet' id0' b' x' m0' reg' was' mine_b' mine_l' mine_c' i' now' k' j' w' => ∃ m', m' < m ∧ I m' script_b' script_l' script_c' steady' quiet' id0' b' x' m0' reg' was' mine_b' mine_l' mine_c' i' now' k' j' w') (fun script_b' script_l' script_c' steady' quiet' id0' b' x' m0' reg' was' mine_b' mine_l' mine_c' i' now' k' j' w' hx => by obtain ⟨m', hlt, hI'⟩ := hx; exact ih m' hlt _ w' ⟨script_b', script_l', script_c', steady', quiet', id0', b', x', m0', reg', was', mine_b', mine_l', mine_c', i', now', k', j', rfl, hI'⟩) script_b script_l script_c steady quiet id0 b x m0 reg was mine_b mine_l mine_c i now k j w (hr m script_b script_l script_c steady quiet id0 b x m0 reg was mine_b mine_l mine_c i now k j w hI)
def synclaw_walk.B5 (script_b : Option Addr) (script_l script_c : Nat) (steady quiet : Bool) (id0 : Int) (b : Nat) (x m0 : Option Addr) (reg was : Nat) (mine_b : Option Addr) (mine_l mine_c : Nat) (i : Int) (same sent : Bool) (now : Nat) (w : World) (N1 : Option Addr → Nat → Nat → Bool → Bool → Int → Nat → Option Addr → Option Addr → Nat → Nat → Option Addr → Nat → Nat → Int → World → Prop)  (R : Int → Int → World → Prop) : Prop :=
  Bm (!same) (
    R i i w) (
    LdL ⟨was, 0, none⟩ w fun x212_b x212_l x212_c =>
    LdL ⟨was, 1, none⟩ w fun x214_b x214_l x214_c =>
    synclaw_SameMsgs.Call x212_b x212_l x212_c x214_b x214_l x214_c w fun r215 w1 =>
    Bm (!r215) (
      R i i w1) (
      synclaw_Untouched.Call mine_b mine_l mine_c w1 fun r220 w2 =>
      Bm (!r220) (
        R i i w2) (
        Bm sent (
          LdL ⟨was, 0, none⟩ w2 fun x226_b x226_l x226_c =>
          synclaw_Spoil.Call x226_b x226_l x226_c w2 fun r227_0_b r227_0_l r227_0_c r227_1_b r227_1_l r227_1_c w3 =>
          New (.cells #[.slice none 0 0, .slice none 0 0] 64) w3 fun k_ w4 =>
          Sts [.slice r227_0_b r227_0_l r227_0_c, .slice r227_1_b r227_1_l r227_1_c] ⟨k_, 0, none⟩ 0 w4 fun w5 =>
          LdL ⟨was, 0, none⟩ w5 fun x229_b x229_l x229_c =>
          Bm (decide (((x229_l : Nat) : Int) > (0 : Int))) (
            Bm (decide (((mine_l : Nat) : Int) ≥ (8 : Int))) (
              synclaw_walk.L2 script_b script_l script_c steady quiet id0 b x m0 reg was mine_b mine_l mine_c i now k_ (0 : Int) w5 N1 R) (
              LdL ⟨k_, 0, none⟩ w5 fun x256_0_b x256_0_l x256_0_c =>
              LdL ⟨k_, 1, none⟩ w5 fun x256_1_b x256_1_l x256_1_c =>
              New (.cells #[.slice x256_0_b x256_0_l x256_0_c, .slice x256_1_b x256_1_l x256_1_c] 64) w5 fun b257 w6 =>
              Append 64 (.agg #[.slice none 0 0, .slice none 0 0]) 2 48 mine_b mine_l mine_c (some ⟨b257, 0, none⟩) 1 w6 fun b258 c258 w7 =>
              synclaw_walk.B8 script_b script_l script_c steady quiet id0 b x m0 reg was b258 (mine_l + 1) c258 i now w7 N1 R)) (
            synclaw_walk.B8 script_b script_l script_c steady quiet id0 b x m0 reg was mine_b mine_l mine_c i now w5 N1 R)) (
          LdP ⟨b, 0, none⟩ w2 fun x260_0 =>
          LdP ⟨b, 1, none⟩ w2 fun x260_1 =>
          synclaw_Idle.Call x260_0 x260_1 m0 w2 fun r262 w8 =>
          Bm (!r262) (
            R i i w8) (
            LdP ⟨b, 0, none⟩ w8 fun x266_0 =>
            LdP ⟨b, 1, none⟩ w8 fun x266_1 =>
            synclaw_Steps.Call x266_0 x266_1 w8 fun r267 w9 =>
            Bm (!quiet) (
              LdP ⟨b, 0, none⟩ w9 fun x272_0 =>
              LdP ⟨b, 1, none⟩ w9 fun x272_1 =>
              synclaw_Seen.Call x m0 x272_0 x272_1 r267 w9 fun r274 w10 =>
              Bm (!r274) (
                R i i w10) (
                synclaw_walk.B3 script_b script_l script_c steady quiet id0 b x m0 reg was mine_b mine_l mine_c i w10 N1 R)) (
              synclaw_walk.B3 script_b script_l script_c steady quiet id0 b x m0 reg was mine_b mine_l mine_c i w9 N1 R))))))
theorem synclaw_walk.B5_eq (script_b : Option Addr) (script_l script_c : Nat) (steady quiet : Bool) (id0 : Int) (b : Nat) (x m0 : Option Addr) (reg was : Nat) (mine_b : Option Addr) (mine_l mine_c : Nat) (i : Int) (same sent : Bool) (now : Nat) (w : World) (N1 : Option Addr → Nat → Nat → Bool → Bool → Int → Nat → Option Addr → Option Addr → Nat → Nat → Option Addr → Nat → Nat → Int → World → Prop)  (R : Int → Int → World → Prop) (sL2 : Option Addr → Nat → Nat → Bool → Bool → Int → Nat → Option Addr → Option Addr → Nat → Nat → Option Addr → Nat → Nat → Int → Nat → Nat → Int → World → Prop) (sB8 : Option Addr → Nat → Nat → Bool → Bool → Int → Nat → Option Addr → Option Addr → Nat → Nat → Option Addr → Nat → Nat → Int → Nat → World → Prop) (sB3 : Option Addr → Nat → Nat → Bool → Bool → Int → Nat → Option Addr → Option Addr → Nat → Nat → Option Addr → Nat → Nat → Int → World → Prop) :
    (
  Bm (!same) (
    R i i w) (
    LdL ⟨was, 0, none⟩ w fun x212_b x212_l x212_c =>
    LdL ⟨was, 1, none⟩ w fun x214_b x214_l x214_c =>
    synclaw_SameMsgs.Call x212_b x212_l x212_c x214_b x214_l x214_c w fun r215 w1 =>
    Bm (!r215) (
      R i i w1) (
      synclaw_Untouched.Call mine_b mine_l mine_c w1 fun r220 w2 =>
      Bm (!r220) (
        R i i w2) (
        Bm sent (
          LdL ⟨was, 0, none⟩ w2 fun x226_b x226_l x226_c =>
          synclaw_Spoil.Call x226_b x226_l x226_c w2 fun r227_0_b r227_0_l r227_0_c r227_1_b r227_1_l r227_1_c w3 =>
          New (.cells #[.slice none 0 0, .slice none 0 0] 64) w3 fun k_ w4 =>
          Sts [.slice r227_0_b r227_0_l r227_0_c, .slice r227_1_b r227_1_l r227_1_c] ⟨k_, 0, none⟩ 0 w4 fun w5 =>
          LdL ⟨was, 0, none⟩ w5 fun x229_b x229_l x229_c =>
          Bm (decide (((x229_l : Nat) : Int) > (0 : Int))) (
            Bm (decide (((mine_l : Nat) : Int) ≥ (8 : Int))) (
              sL2 script_b script_l script_c steady quiet id0 b x m0 reg was mine_b mine_l mine_c i now k_ (0 : Int) w5) (
              LdL ⟨k_, 0, none⟩ w5 fun x256_0_b x256_0_l x256_0_c =>
              LdL ⟨k_, 1, none⟩ w5 fun x256_1_b x256_1_l x256_1_c =>
              New (.cells #[.slice x256_0_b x256_0_l x256_0_c, .slice x256_1_b x256_1_l x256_1_c] 64) w5 fun b257 w6 =>
              Append 64 (.agg #[.slice none 0 0, .slice none 0 0]) 2 48 mine_b mine_l mine_c (some ⟨b257, 0, none⟩) 1 w6 fun b258 c258 w7 =>
              sB8 script_b script_l script_c steady quiet id0 b x m0 reg was b258 (mine_l + 1) c258 i now w7)) (
            sB8 script_b script_l script_c steady quiet id0 b x m0 reg was mine_b mine_l mine_c i now w5)) (
          LdP ⟨b, 0, none⟩ w2 fun x260_0 =>
          LdP ⟨b, 1, none⟩ w2 fun x260_1 =>
          synclaw_Idle.Call x260_0 x260_1 m0 w2 fun r262 w8 =>
          Bm (!r262) (
            R i i w8) (
            LdP ⟨b, 0, none⟩ w8 fun x266_0 =>
            LdP ⟨b, 1, none⟩ w8 fun x266_1 =>
            synclaw_Steps.Call x266_0 x266_1 w8 fun r267 w9 =>
            Bm (!quiet) (
              LdP ⟨b, 0, none⟩ w9 fun x272_0 =>
              LdP ⟨b, 1, none⟩ w9 fun x272_1 =>
              synclaw_Seen.Call x m0 x272_0 x272_1 r267 w9 fun r274 w10 =>
              Bm (!r274) (
                R i i w10) (
                sB3 script_b script_l script_c steady quiet id0 b x m0 reg was mine_b mine_l mine_c i w10)) (
              sB3 script_b script_l script_c steady quiet id0 b x m0 reg was mine_b mine_l mine_c i w9))))))) = kstep Tryz.prog 283 Tryz.f7.results.toList (Tryz.f7.body.getD .skip) (synclaw_walk.RV R) (kvc Tryz.prog 283 Tryz.f7.results.toList (Tryz.f7.body.getD .skip) (synclaw_walk.RV R) [([(0, [1, 1, 1, 1, 1, 1, 1, 1, 1, 1, 1, 0, 1, 0, 0, 1, 0, 0, 1, 1, 1, 1, 1, 1, 1, 1, 1, 1, 1, 0, 1, 0, 1, 0, 1, 0, 0, 1, 0, 0, 1, 0, 0]), (2, [1, 1, 1, 1, 1, 1, 1, 1, 1, 1, 1, 0, 1, 0, 0, 1, 0, 0, 1, 1, 1, 1, 1, 1, 1, 1, 1, 1, 1, 0, 1, 0, 1, 0, 1, 0, 0, 1, 0, 0, 1, 0, 0]), (1, [3]), (0, [1, 1, 1, 1, 1, 1, 1, 1, 1, 1, 1, 0, 1, 0, 0, 1, 0, 0, 1, 1, 1, 1, 1, 1, 1, 1, 1, 1, 1, 0, 1, 0, 1, 0, 1, 0, 0, 1, 0, 1]), (0, [1, 1, 1, 1, 1, 1, 1, 1, 1, 1, 1, 0, 1, 0, 0, 1, 0, 0, 1, 1, 1, 1, 1, 1, 1, 1, 1, 1, 1, 0, 1, 0, 1, 0, 1, 0, 1]), (0, [1, 1, 1, 1, 1, 1, 1, 1, 1, 1, 1, 0, 1, 0, 0, 1, 0, 0, 1, 1, 1, 1, 1, 1, 1, 1, 1, 1, 1, 0, 1, 0, 1, 1]), (0, [1, 1, 1, 1, 1, 1, 1, 1, 1, 1, 1, 0, 1, 0, 0, 1, 0, 0, 1, 1, 1, 1, 1, 1, 1, 1, 1, 1, 1, 1]), (1, [1]), (0, [1, 1, 1, 1, 1, 1, 1, 1, 1, 1, 1, 0, 1, 0, 0, 1, 1]), (2, [1, 1, 1, 1, 1, 1, 1, 1, 1, 1, 1, 0, 1, 0, 0]), (1, [0]), (0, [1, 1, 1, 1, 1, 1, 1, 1, 1, 1, 1, 1])], fun σ w => dL (slotOf σ 0) fun script_b_ script_l_ script_c_ => dB (slotOf σ 1) fun steady_ => dB (slotOf σ 2) fun quiet_ => dI .i64 (slotOf σ 8) fun id0_ => dK (slotOf σ 9) fun b_ => dP (slotOf σ 11) fun x_ => dP (slotOf σ 12) fun m0_ => dK (slotOf σ 13) fun reg_ => dK (slotOf σ 14) fun was_ => dL (slotOf σ 15) fun mine_b_ mine_l_ mine_c_ => dI .i64 (slotOf σ 16) fun i_ => dK (slotOf σ 28) fun now_ => dK (slotOf σ 29) fun k_ => dI .i64 (slotOf σ 30) fun j_ => sL2 script_b_ script_l_ script_c_ steady_ quiet_ id0_ b_ x_ m0_ reg_ was_ mine_b_ mine_l_ mine_c_ i_ now_ k_ j_ w),
    ([(0, [1, 1, 1, 1, 1, 1, 1, 1, 1, 1, 1, 0, 1, 0, 0, 1, 0, 0, 1, 1, 1, 1, 1, 1, 1, 1, 1, 1, 1, 0, 1, 0, 1, 1]), (0, [1, 1, 1, 1, 1, 1, 1, 1, 1, 1, 1, 0, 1, 0, 0, 1, 0, 0, 1, 1, 1, 1, 1, 1, 1, 1, 1, 1, 1, 1]), (1, [1]), (0, [1, 1, 1, 1, 1, 1, 1, 1, 1, 1, 1, 0, 1, 0, 0, 1, 1]), (2, [1, 1, 1, 1, 1, 1, 1, 1, 1, 1, 1, 0, 1, 0, 0]), (1, [0]), (0, [1, 1, 1, 1, 1, 1, 1, 1, 1, 1, 1, 1])], fun σ w => dL (slotOf σ 0) fun script_b_ script_l_ script_c_ => dB (slotOf σ 1) fun steady_ => dB (slotOf σ 2) fun quiet_ => dI .i64 (slotOf σ 8) fun id0_ => dK (slotOf σ 9) fun b_ => dP (slotOf σ 11) fun x_ => dP (slotOf σ 12) fun m0_ => dK (slotOf σ 13) fun reg_ => dK (slotOf σ 14) fun was_ => dL (slotOf σ 15) fun mine_b_ mine_l_ mine_c_ => dI .i64 (slotOf σ 16) fun i_ => dK (slotOf σ 28) fun now_ => sB8 script_b_ script_l_ script_c_ steady_ quiet_ id0_ b_ x_ m0_ reg_ was_ mine_b_ mine_l_ mine_c_ i_ now_ w),
    ([(0, [1, 1, 1, 1, 1, 1, 1, 1, 1, 1, 1, 0, 1, 0, 0, 1, 1]), (2, [1, 1, 1, 1, 1, 1, 1, 1, 1, 1, 1, 0, 1, 0, 0]), (1, [0]), (0, [1, 1, 1, 1, 1, 1, 1, 1, 1, 1, 1, 1])], fun σ w => dL (slotOf σ 0) fun script_b_ script_l_ script_c_ => dB (slotOf σ 1) fun steady_ => dB (slotOf σ 2) fun quiet_ => dI .i64 (slotOf σ 8) fun id0_ => dK (slotOf σ 9) fun b_ => dP (slotOf σ 11) fun x_ => dP (slotOf σ 12) fun m0_ => dK (slotOf σ 13) fun reg_ => dK (slotOf σ 14) fun was_ => dL (slotOf σ 15) fun mine_b_ mine_l_ mine_c_ => dI .i64 (slotOf σ 16) fun i_ => sB3 script_b_ script_l_ script_c_ steady_ quiet_ id0_ b_ x_ m0_ reg_ was_ mine_b_ mine_l_ mine_c_ i_ w)] 2000) [(0, [1, 1, 1, 1, 1, 1, 1, 1, 1, 1, 1, 0, 1, 0, 0, 1, 0, 0, 1, 1, 1, 1, 1, 1, 1, 1]), (1, [1]), (0, [1, 1, 1, 1, 1, 1, 1, 1, 1, 1, 1, 0, 1, 0, 0, 1, 1]), (2, [1, 1, 1, 1, 1, 1, 1, 1, 1, 1, 1, 0, 1, 0, 0]), (1, [0]), (0, [1, 1, 1, 1, 1, 1, 1, 1, 1, 1, 1, 1])] [(0, .slice script_b script_l script_c), (1, .bool steady), (2, .bool quiet), (8, .int .i64 id0), (9, .pointer (some ⟨b, 0, none⟩)), (11, .pointer x), (12, .pointer m0), (13, .pointer (some ⟨reg, 0, none⟩)), (14, .pointer (some ⟨was, 0, none⟩)), (15, .slice mine_b mine_l mine_c), (16, .int .i64 i), (26, .bool same), (27, .bool sent), (28, .pointer (some ⟨now, 0, none⟩))] w := by kernel_rfl
theorem synclaw_walk.B5_sound {R : Int → Int → World → Prop} {N1 : Option Addr → Nat → Nat → Bool → Bool → Int → Nat → Option Addr → Option Addr → Nat → Nat → Option Addr → Nat → Nat → Int → World → Prop} (hN1 : ∀ script_b script_l script_c steady quiet id0 b x m0 reg was mine_b mine_l mine_c i w, N1 script_b script_l script_c steady quiet id0 b x m0 reg was mine_b mine_l mine_c i w → KW Tryz.prog 7 283 (synclaw_walk.RV R) ([(0, [1, 1, 1, 1, 1, 1, 1, 1, 1, 1, 1, 0, 1, 0, 0]), (2, [1, 1, 1, 1, 1, 1, 1, 1, 1, 1, 1, 0, 1, 0, 0]), (1, [0]), (0, [1, 1, 1, 1, 1, 1, 1, 1, 1, 1, 1, 1])].map (toItem (Tryz.f7.body.getD .skip))) [(0, .slice script_b script_l script_c), (1, .bool steady), (2, .bool quiet), (8, .int .i64 id0), (9, .pointer (some ⟨b, 0, none⟩)), (11, .pointer x), (12, .pointer m0), (13, .pointer (some ⟨reg, 0, none⟩)), (14, .pointer (some ⟨was, 0, none⟩)), (15, .slice mine_b mine_l mine_c), (16, .int .i64 i)] w) (script_b : Option Addr) (script_l script_c : Nat) (steady quiet : Bool) (id0 : Int) (b : Nat) (x m0 : Option Addr) (reg was : Nat) (mine_b : Option Addr) (mine_l mine_c : Nat) (i : Int) (same sent : Bool) (now : Nat) (w : World) (h : synclaw_walk.B5 script_b script_l script_c steady quiet id0 b x m0 reg was mine_b mine_l mine_c i same sent now w N1  R) :
    KW Tryz.prog 7 283 (synclaw_walk.RV R) ([(0, [1, 1, 1, 1, 1, 1, 1, 1, 1, 1, 1, 0, 1, 0, 0, 1, 0, 0, 1, 1, 1, 1, 1, 1, 1, 1]), (1, [1]), (0, [1, 1, 1, 1, 1, 1, 1, 1, 1, 1, 1, 0, 1, 0, 0, 1, 1]), (2, [1, 1, 1, 1, 1, 1, 1, 1, 1, 1, 1, 0, 1, 0, 0]), (1, [0]), (0, [1, 1, 1, 1, 1, 1, 1, 1, 1, 1, 1, 1])].map (toItem (Tryz.f7.body.getD .skip))) [(0, .slice script_b script_l script_c), (1, .bool steady), (2, .bool quiet), (8, .int .i64 id0), (9, .pointer (some ⟨b, 0, none⟩)), (11, .pointer x), (12, .pointer m0), (13, .pointer (some ⟨reg, 0, none⟩)), (14, .pointer (some ⟨was, 0, none⟩)), (15, .slice mine_b mine_l mine_c), (16, .int .i64 i), (26, .bool same), (27, .bool sent), (28, .pointer (some ⟨now, 0, none⟩))] w := by
  exact block_spec Tryz.func7 Tryz.mixed (stops_cons (fun σ w h => by
      obtain ⟨script_b_, script_l_, script_c_, e0, h⟩ := dL_elim h
      obtain ⟨steady_, e1, h⟩ := dB_elim h
      obtain ⟨quiet_, e2, h⟩ := dB_elim h
      obtain ⟨id0_, e3, h⟩ := dI_elim h
      obtain ⟨b_, e4, h⟩ := dK_elim h
      obtain ⟨x_, e5, h⟩ := dP_elim h
      obtain ⟨m0_, e6, h⟩ := dP_elim h
      obtain ⟨reg_, e7, h⟩ := dK_elim h
      obtain ⟨was_, e8, h⟩ := dK_elim h
      obtain ⟨mine_b_, mine_l_, mine_c_, e9, h⟩ := dL_elim h
      obtain ⟨i_, e10, h⟩ := dI_elim h
      obtain ⟨now_, e11, h⟩ := dK_elim h
      obtain ⟨k_, e12, h⟩ := dK_elim h
      obtain ⟨j_, e13, h⟩ := dI_elim h
      exact (synclaw_walk.L2_sound hN1 script_b_ script_l_ script_c_ steady_ quiet_ id0_ b_ x_ m0_ reg_ was_ mine_b_ mine_l_ mine_c_ i_ now_ k_ j_ w h).weaken (Sub.cons (Sub.cons (Sub.cons (Sub.cons (Sub.cons (Sub.cons (Sub.cons (Sub.cons (Sub.cons (Sub.cons (Sub.cons (Sub.cons (Sub.cons (Sub.cons (Sub.nil _) e13) e12) e11) e10) e9) e8) e7) e6) e5) e4) e3) e2) e1) e0)) (stops_cons (fun σ w h => by
      obtain ⟨script_b_, script_l_, script_c_, e0, h⟩ := dL_elim h
      obtain ⟨steady_, e1, h⟩ := dB_elim h
      obtain ⟨quiet_, e2, h⟩ := dB_elim h
      obtain ⟨id0_, e3, h⟩ := dI_elim h
      obtain ⟨b_, e4, h⟩ := dK_elim h
      obtain ⟨x_, e5, h⟩ := dP_elim h
      obtain ⟨m0_, e6, h⟩ := dP_elim h
      obtain ⟨reg_, e7, h⟩ := dK_elim h
      obtain ⟨was_, e8, h⟩ := dK_elim h
      obtain ⟨mine_b_, mine_l_, mine_c_, e9, h⟩ := dL_elim h
      obtain ⟨i_, e10, h⟩ := dI_elim h
      obtain ⟨now_, e11, h⟩ := dK_elim h
      exact (synclaw_walk.B8_sound hN1 script_b_ script_l_ script_c_ steady_ quiet_ id0_ b_ x_ m0_ reg_ was_ mine_b_ mine_l_ mine_c_ i_ now_ w h).weaken (Sub.cons (Sub.cons (Sub.cons (Sub.cons (Sub.cons (Sub.cons (Sub.cons (Sub.cons (Sub.cons (Sub.cons (Sub.cons (Sub.cons (Sub.nil _) e11) e10) e9) e8) e7) e6) e5) e4) e3) e2) e1) e0)) (stops_cons (fun σ w h => by
      obtain ⟨script_b_, script_l_, script_c_, e0, h⟩ := dL_elim h
      obtain ⟨steady_, e1, h⟩ := dB_elim h
      obtain ⟨quiet_, e2, h⟩ := dB_elim h
      obtain ⟨id0_, e3, h⟩ := dI_elim h
      obtain ⟨b_, e4, h⟩ := dK_elim h
      obtain ⟨x_, e5, h⟩ := dP_elim h
      obtain ⟨m0_, e6, h⟩ := dP_elim h
      obtain ⟨reg_, e7, h⟩ := dK_elim h
      obtain ⟨was_, e8, h⟩ := dK_elim h
      obtain ⟨mine_b_, mine_l_, mine_c_, e9, h⟩ := dL_elim h
      obtain ⟨i_, e10, h⟩ := dI_elim h
      exact (synclaw_walk.B3_sound hN1 script_b_ script_l_ script_c_ steady_ quiet_ id0_ b_ x_ m0_ reg_ was_ mine_b_ mine_l_ mine_c_ i_ w h).weaken (Sub.cons (Sub.cons (Sub.cons (Sub.cons (Sub.cons (Sub.cons (Sub.cons (Sub.cons (Sub.cons (Sub.cons (Sub.cons (Sub.nil _) e10) e9) e8) e7) e6) e5) e4) e3) e2) e1) e0)) stops_nil))) (Eq.mp (synclaw_walk.B5_eq script_b script_l script_c steady quiet id0 b x m0 reg was mine_b mine_l mine_c i same sent now w N1  R (fun script_b_ script_l_ script_c_ steady_ quiet_ id0_ b_ x_ m0_ reg_ was_ mine_b_ mine_l_ mine_c_ i_ now_ k_ j_ w => synclaw_walk.L2 script_b_ script_l_ script_c_ steady_ quiet_ id0_ b_ x_ m0_ reg_ was_ mine_b_ mine_l_ mine_c_ i_ now_ k_ j_ w N1 R) (fun script_b_ script_l_ script_c_ steady_ quiet_ id0_ b_ x_ m0_ reg_ was_ mine_b_ mine_l_ mine_c_ i_ now_ w => synclaw_walk.B8 script_b_ script_l_ script_c_ steady_ quiet_ id0_ b_ x_ m0_ reg_ was_ mine_b_ mine_l_ mine_c_ i_ now_ w N1 R) (fun script_b_ script_l_ script_c_ steady_ quiet_ id0_ b_ x_ m0_ reg_ was_ mine_b_ mine_l_ mine_c_ i_ w => synclaw_walk.B3 script_b_ script_l_ script_c_ steady_ quiet_ id0_ b_ x_ m0_ reg_ was_ mine_b_ mine_l_ mine_c_ i_ w N1 R)) h)
def synclaw_walk.B6 (script_b : Option Addr) (script_l script_c : Nat) (steady quiet : Bool) (id0 : Int) (b : Nat) (x m0 : Option Addr) (reg was : Nat) (mine_b : Option Addr) (mine_l mine_c : Nat) (i : Int) (o : Nat) (same sent : Bool) (now : Nat) (t199 : Bool) (w : World) (N1 : Option Addr → Nat → Nat → Bool → Bool → Int → Nat → Option Addr → Option Addr → Nat → Nat → Option Addr → Nat → Nat → Int → World → Prop)  (R : Int → Int → World → Prop) : Prop :=
  Bm t199 (
    LdI .i64 ⟨reg, 0, none⟩ w fun x204_0 =>
    LdI .i64 ⟨reg, 1, none⟩ w fun x204_1 =>
    LdI .i64 ⟨reg, 2, none⟩ w fun x204_2 =>
    LdI .i64 ⟨reg, 3, none⟩ w fun x204_3 =>
    LdI .i64 ⟨reg, 4, none⟩ w fun x204_4 =>
    LdI .i64 ⟨reg, 5, none⟩ w fun x204_5 =>
    LdI .i64 ⟨reg, 6, none⟩ w fun x204_6 =>
    LdB ⟨reg, 7, none⟩ w fun x204_7 =>
    LdL ⟨reg, 8, none⟩ w fun x204_8_b x204_8_l x204_8_c =>
    LdS ⟨reg, 9, none⟩ w fun x204_9 =>
    LdI .i64 ⟨o, 0, none⟩ w fun x205_0 =>
    LdI .i64 ⟨o, 1, none⟩ w fun x205_1 =>
    LdI .i64 ⟨o, 2, none⟩ w fun x205_2 =>
    LdI .i64 ⟨o, 3, none⟩ w fun x205_3 =>
    LdS ⟨o, 4, none⟩ w fun x205_4 =>
    LdS ⟨o, 5, none⟩ w fun x205_5 =>
    synclaw_Write.Call x204_0 x204_1 x204_2 x204_3 x204_4 x204_5 x204_6 x204_7 x204_8_b x204_8_l x204_8_c x204_9 x205_0 x205_1 x205_2 x205_3 x205_4 x205_5 w fun r206_0 r206_1 r206_2 r206_3 r206_4 r206_5 r206_6 r206_7 r206_8_b r206_8_l r206_8_c r206_9 w1 =>
    Sts [.int .i64 r206_0, .int .i64 r206_1, .int .i64 r206_2, .int .i64 r206_3, .int .i64 r206_4, .int .i64 r206_5, .int .i64 r206_6, .bool r206_7, .slice r206_8_b r206_8_l r206_8_c, .string r206_9] ⟨reg, 0, none⟩ 0 w1 fun w2 =>
    synclaw_walk.B5 script_b script_l script_c steady quiet id0 b x m0 reg was mine_b mine_l mine_c i same sent now w2 N1 R) (
    LdI .i64 ⟨o, 0, none⟩ w fun x159_0 =>
    LdI .i64 ⟨o, 1, none⟩ w fun x159_1 =>
    LdI .i64 ⟨o, 2, none⟩ w fun x159_2 =>
    LdI .i64 ⟨o, 3, none⟩ w fun x159_3 =>
    LdS ⟨o, 4, none⟩ w fun x159_4 =>
    LdS ⟨o, 5, none⟩ w fun x159_5 =>
    synclaw_Play.Call x m0 x159_0 x159_1 x159_2 x159_3 x159_4 x159_5 w fun r160 w3 =>
    synclaw_walk.B5 script_b script_l script_c steady quiet id0 b x m0 reg was mine_b mine_l mine_c i r160 sent now w3 N1 R)
theorem synclaw_walk.B6_eq (script_b : Option Addr) (script_l script_c : Nat) (steady quiet : Bool) (id0 : Int) (b : Nat) (x m0 : Option Addr) (reg was : Nat) (mine_b : Option Addr) (mine_l mine_c : Nat) (i : Int) (o : Nat) (same sent : Bool) (now : Nat) (t199 : Bool) (w : World) (N1 : Option Addr → Nat → Nat → Bool → Bool → Int → Nat → Option Addr → Option Addr → Nat → Nat → Option Addr → Nat → Nat → Int → World → Prop)  (R : Int → Int → World → Prop) (sB5 : Option Addr → Nat → Nat → Bool → Bool → Int → Nat → Option Addr → Option Addr → Nat → Nat → Option Addr → Nat → Nat → Int → Bool → Bool → Nat → World → Prop) :
    (
  Bm t199 (
    LdI .i64 ⟨reg, 0, none⟩ w fun x204_0 =>
    LdI .i64 ⟨reg, 1, none⟩ w fun x204_1 =>
    LdI .i64 ⟨reg, 2, none⟩ w fun x204_2 =>
    LdI .i64 ⟨reg, 3, none⟩ w fun x204_3 =>
    LdI .i64 ⟨reg, 4, none⟩ w fun x204_4 =>
    LdI .i64 ⟨reg, 5, none⟩ w fun x204_5 =>
    LdI .i64 ⟨reg, 6, none⟩ w fun x204_6 =>
    LdB ⟨reg, 7, none⟩ w fun x204_7 =>
    LdL ⟨reg, 8, none⟩ w fun x204_8_b x204_8_l x204_8_c =>
    LdS ⟨reg, 9, none⟩ w fun x204_9 =>
    LdI .i64 ⟨o, 0, none⟩ w fun x205_0 =>
    LdI .i64 ⟨o, 1, none⟩ w fun x205_1 =>
    LdI .i64 ⟨o, 2, none⟩ w fun x205_2 =>
    LdI .i64 ⟨o, 3, none⟩ w fun x205_3 =>
    LdS ⟨o, 4, none⟩ w fun x205_4 =>
    LdS ⟨o, 5, none⟩ w fun x205_5 =>
    synclaw_Write.Call x204_0 x204_1 x204_2 x204_3 x204_4 x204_5 x204_6 x204_7 x204_8_b x204_8_l x204_8_c x204_9 x205_0 x205_1 x205_2 x205_3 x205_4 x205_5 w fun r206_0 r206_1 r206_2 r206_3 r206_4 r206_5 r206_6 r206_7 r206_8_b r206_8_l r206_8_c r206_9 w1 =>
    Sts [.int .i64 r206_0, .int .i64 r206_1, .int .i64 r206_2, .int .i64 r206_3, .int .i64 r206_4, .int .i64 r206_5, .int .i64 r206_6, .bool r206_7, .slice r206_8_b r206_8_l r206_8_c, .string r206_9] ⟨reg, 0, none⟩ 0 w1 fun w2 =>
    sB5 script_b script_l script_c steady quiet id0 b x m0 reg was mine_b mine_l mine_c i same sent now w2) (
    LdI .i64 ⟨o, 0, none⟩ w fun x159_0 =>
    LdI .i64 ⟨o, 1, none⟩ w fun x159_1 =>
    LdI .i64 ⟨o, 2, none⟩ w fun x159_2 =>
    LdI .i64 ⟨o, 3, none⟩ w fun x159_3 =>
    LdS ⟨o, 4, none⟩ w fun x159_4 =>
    LdS ⟨o, 5, none⟩ w fun x159_5 =>
    synclaw_Play.Call x m0 x159_0 x159_1 x159_2 x159_3 x159_4 x159_5 w fun r160 w3 =>
    sB5 script_b script_l script_c steady quiet id0 b x m0 reg was mine_b mine_l mine_c i r160 sent now w3)) = kstep Tryz.prog 283 Tryz.f7.results.toList (Tryz.f7.body.getD .skip) (synclaw_walk.RV R) (kvc Tryz.prog 283 Tryz.f7.results.toList (Tryz.f7.body.getD .skip) (synclaw_walk.RV R) [([(0, [1, 1, 1, 1, 1, 1, 1, 1, 1, 1, 1, 0, 1, 0, 0, 1, 0, 0, 1, 1, 1, 1, 1, 1, 1, 1]), (1, [1]), (0, [1, 1, 1, 1, 1, 1, 1, 1, 1, 1, 1, 0, 1, 0, 0, 1, 1]), (2, [1, 1, 1, 1, 1, 1, 1, 1, 1, 1, 1, 0, 1, 0, 0]), (1, [0]), (0, [1, 1, 1, 1, 1, 1, 1, 1, 1, 1, 1, 1])], fun σ w => dL (slotOf σ 0) fun script_b_ script_l_ script_c_ => dB (slotOf σ 1) fun steady_ => dB (slotOf σ 2) fun quiet_ => dI .i64 (slotOf σ 8) fun id0_ => dK (slotOf σ 9) fun b_ => dP (slotOf σ 11) fun x_ => dP (slotOf σ 12) fun m0_ => dK (slotOf σ 13) fun reg_ => dK (slotOf σ 14) fun was_ => dL (slotOf σ 15) fun mine_b_ mine_l_ mine_c_ => dI .i64 (slotOf σ 16) fun i_ => dB (slotOf σ 26) fun same_ => dB (slotOf σ 27) fun sent_ => dK (slotOf σ 28) fun now_ => sB5 script_b_ script_l_ script_c_ steady_ quiet_ id0_ b_ x_ m0_ reg_ was_ mine_b_ mine_l_ mine_c_ i_ same_ sent_ now_ w)] 2000) [(0, [1, 1, 1, 1, 1, 1, 1, 1, 1, 1, 1, 0, 1, 0, 0, 1, 0, 0, 1, 1, 1, 1, 1, 1, 1, 0, 1, 0, 1, 1, 1, 1, 1, 1, 1]), (1, [2]), (0, [1, 1, 1, 1, 1, 1, 1, 1, 1, 1, 1, 0, 1, 0, 0, 1, 0, 0, 1, 1, 1, 1, 1, 1, 1, 1]), (1, [1]), (0, [1, 1, 1, 1, 1, 1, 1, 1, 1, 1, 1, 0, 1, 0, 0, 1, 1]), (2, [1, 1, 1, 1, 1, 1, 1, 1, 1, 1, 1, 0, 1, 0, 0]), (1, [0]), (0, [1, 1, 1, 1, 1, 1, 1, 1, 1, 1, 1, 1])] [(0, .slice script_b script_l script_c), (1, .bool steady), (2, .bool quiet), (8, .int .i64 id0), (9, .pointer (some ⟨b, 0, none⟩)), (11, .pointer x), (12, .pointer m0), (13, .pointer (some ⟨reg, 0, none⟩)), (14, .pointer (some ⟨was, 0, none⟩)), (15, .slice mine_b mine_l mine_c), (16, .int .i64 i), (17, .pointer (some ⟨o, 0, none⟩)), (26, .bool same), (27, .bool sent), (28, .pointer (some ⟨now, 0, none⟩)), (199, .bool t199)] w := by kernel_rfl
theorem synclaw_walk.B6_sound {R : Int → Int → World → Prop} {N1 : Option Addr → Nat → Nat → Bool → Bool → Int → Nat → Option Addr → Option Addr → Nat → Nat → Option Addr → Nat → Nat → Int → World → Prop} (hN1 : ∀ script_b script_l script_c steady quiet id0 b x m0 reg was mine_b mine_l mine_c i w, N1 script_b script_l script_c steady quiet id0 b x m0 reg was mine_b mine_l mine_c i w → KW Tryz.prog 7 283 (synclaw_walk.RV R) ([(0, [1, 1, 1, 1, 1, 1, 1, 1, 1, 1, 1, 0, 1, 0, 0]), (2, [1, 1, 1, 1, 1, 1, 1, 1, 1, 1, 1, 0, 1, 0, 0]), (1, [0]), (0, [1, 1, 1, 1, 1, 1, 1, 1, 1, 1, 1, 1])].map (toItem (Tryz.f7.body.getD .skip))) [(0, .slice script_b script_l script_c), (1, .bool steady), (2, .bool quiet), (8, .int .i64 id0), (9, .pointer (some ⟨b, 0, none⟩)), (11, .pointer x), (12, .pointer m0), (13, .pointer (some ⟨reg, 0, none⟩)), (14, .pointer (some ⟨was, 0, none⟩)), (15, .slice mine_b mine_l mine_c), (16, .int .i64 i)] w) (script_b : Option Addr) (script_l script_c : Nat) (steady quiet : Bool) (id0 : Int) (b : Nat) (x m0 : Option Addr) (reg was : Nat) (mine_b : Option Addr) (mine_l mine_c : Nat) (i : Int) (o : Nat) (same sent : Bool) (now : Nat) (t199 : Bool) (w : World) (h : synclaw_walk.B6 script_b script_l script_c steady quiet id0 b x m0 reg was mine_b mine_l mine_c i o same sent now t199 w N1  R) :
    KW Tryz.prog 7 283 (synclaw_walk.RV R) ([(0, [1, 1, 1, 1, 1, 1, 1, 1, 1, 1, 1, 0, 1, 0, 0, 1, 0, 0, 1, 1, 1, 1, 1, 1, 1, 0, 1, 0, 1, 1, 1, 1, 1, 1, 1]), (1, [2]), (0, [1, 1, 1, 1, 1, 1, 1, 1, 1, 1, 1, 0, 1, 0, 0, 1, 0, 0, 1, 1, 1, 1, 1, 1, 1, 1]), (1, [1]), (0, [1, 1, 1, 1, 1, 1, 1, 1, 1, 1, 1, 0, 1, 0, 0, 1, 1]), (2, [1, 1, 1, 1, 1, 1, 1, 1, 1, 1, 1, 0, 1, 0, 0]), (1, [0]), (0, [1, 1, 1, 1, 1, 1, 1, 1, 1, 1, 1, 1])].map (toItem (Tryz.f7.body.getD .skip))) [(0, .slice script_b script_l script_c), (1, .bool steady), (2, .bool quiet), (8, .int .i64 id0), (9, .pointer (some ⟨b, 0, none⟩)), (11, .pointer x), (12, .pointer m0), (13, .pointer (some ⟨reg, 0, none⟩)), (14, .pointer (some ⟨was, 0, none⟩)), (15, .slice mine_b mine_l mine_c), (16, .int .i64 i), (17, .pointer (some ⟨o, 0, none⟩)), (26, .bool same), (27, .bool sent), (28, .pointer (some ⟨now, 0, none⟩)), (199, .bool t199)] w := by
  exact block_spec Tryz.func7 Tryz.mixed (stops_cons (fun σ w h => by
      obtain ⟨script_b_, script_l_, script_c_, e0, h⟩ := dL_elim h
      obtain ⟨steady_, e1, h⟩ := dB_elim h
      obtain ⟨quiet_, e2, h⟩ := dB_elim h
      obtain ⟨id0_, e3, h⟩ := dI_elim h
      obtain ⟨b_, e4, h⟩ := dK_elim h
      obtain ⟨x_, e5, h⟩ := dP_elim h
      obtain ⟨m0_, e6, h⟩ := dP_elim h
      obtain ⟨reg_, e7, h⟩ := dK_elim h
      obtain ⟨was_, e8, h⟩ := dK_elim h
      obtain ⟨mine_b_, mine_l_, mine_c_, e9, h⟩ := dL_elim h
      obtain ⟨i_, e10, h⟩ := dI_elim h
      obtain ⟨same_, e11, h⟩ := dB_elim h
      obtain ⟨sent_, e12, h⟩ := dB_elim h
      obtain ⟨now_, e13, h⟩ := dK_elim h
      exact (synclaw_walk.B5_sound hN1 script_b_ script_l_ script_c_ steady_ quiet_ id0_ b_ x_ m0_ reg_ was_ mine_b_ mine_l_ mine_c_ i_ same_ sent_ now_ w h).weaken (Sub.cons (Sub.cons (Sub.cons (Sub.cons (Sub.cons (Sub.cons (Sub.cons (Sub.cons (Sub.cons (Sub.cons (Sub.cons (Sub.cons (Sub.cons (Sub.cons (Sub.nil _) e13) e12) e11) e10) e9) e8) e7) e6) e5) e4) e3) e2) e1) e0)) stops_nil) (Eq.mp (synclaw_walk.B6_eq script_b script_l script_c steady quiet id0 b x m0 reg was mine_b mine_l mine_c i o same sent now t199 w N1  R (fun script_b_ script_l_ script_c_ steady_ quiet_ id0_ b_ x_ m0_ reg_ was_ mine_b_ mine_l_ mine_c_ i_ same_ sent_ now_ w => synclaw_walk.B5 script_b_ script_l_ script_c_ steady_ quiet_ id0_ b_ x_ m0_ reg_ was_ mine_b_ mine_l_ mine_c_ i_ same_ sent_ now_ w N1 R)) h)
def synclaw_walk.B2 (script_b : Option Addr) (script_l script_c : Nat) (steady quiet : Bool) (id0 : Int) (b : Nat) (x m0 : Option Addr) (reg was : Nat) (mine_b : Option Addr) (mine_l mine_c : Nat) (i : Int) (t58 : Bool) (w : World) (N1 : Option Addr → Nat → Nat → Bool → Bool → Int → Nat → Option Addr → Option Addr → Nat → Nat → Option Addr → Nat → Nat → Int → World → Prop)  (R : Int → Int → World → Prop) : Prop :=
  Bm t58 (
    Pn script_b fun a =>
    (0 ≤ i ∧ i < ((script_l : Nat) : Int)) ∧
    LdI .i64 (Addr.add a (i.toNat * 6)) w fun x64_0 =>
    LdI .i64 ((Addr.add a (i.toNat * 6)).add 1) w fun x64_1 =>
    LdI .i64 ((Addr.add a (i.toNat * 6)).add 2) w fun x64_2 =>
    LdI .i64 ((Addr.add a (i.toNat * 6)).add 3) w fun x64_3 =>
    LdS ((Addr.add a (i.toNat * 6)).add 4) w fun x64_4 =>
    LdS ((Addr.add a (i.toNat * 6)).add 5) w fun x64_5 =>
    New (.cells #[.int .i64 (0 : Int), .int .i64 (0 : Int), .int .i64 (0 : Int), .int .i64 (0 : Int), .string (ByteArray.mk #[]), .string (ByteArray.mk #[])] 48) w fun o_ w1 =>
    Sts [.int .i64 x64_0, .int .i64 x64_1, .int .i64 x64_2, .int .i64 x64_3, .string x64_4, .string x64_5] ⟨o_, 0, none⟩ 0 w1 fun w2 =>
    LdI .i64 ⟨o_, 0, none⟩ w2 fun x66 =>
    Bm (x66 == (6 : Int)) (
      Bm steady (
        synclaw_walk.B3 script_b script_l script_c steady quiet id0 b x m0 reg was mine_b mine_l mine_c i w2 N1 R) (
        LdP ⟨b, 0, none⟩ w2 fun x69_0 =>
        LdP ⟨b, 1, none⟩ w2 fun x69_1 =>
        synclaw_Steps.Call x69_0 x69_1 w2 fun r70 w3 =>
        LdP ⟨b, 0, none⟩ w3 fun x71_0 =>
        LdP ⟨b, 1, none⟩ w3 fun x71_1 =>
        New (.cells #[.pointer none, .pointer none] 30) w3 fun b0_ w4 =>
        Sts [.pointer x71_0, .pointer x71_1] ⟨b0_, 0, none⟩ 0 w4 fun w5 =>
        LdP ⟨b0_, 0, none⟩ w5 fun x72_0 =>
        LdP ⟨b0_, 1, none⟩ w5 fun x72_1 =>
        LdI .i64 ⟨o_, 1, none⟩ w5 fun x74 =>
        synclaw_After.Call x72_0 x72_1 x74 w5 fun r75_0 r75_1 w6 =>
        Sts [.pointer r75_0, .pointer r75_1] ⟨b, 0, none⟩ 0 w6 fun w7 =>
        LdP ⟨b, 0, none⟩ w7 fun x76_0 =>
        LdP ⟨b, 1, none⟩ w7 fun x76_1 =>
        synclaw_Steps.Call x76_0 x76_1 w7 fun r77 w8 =>
        elect_New.Call id0 w8 fun r79 w9 =>
        LdP ⟨b, 1, none⟩ w9 fun x81 =>
        sync_Open.Call x81 r79 w9 fun r83 w10 =>
        LdP ⟨b, 0, none⟩ w10 fun x84_0 =>
        LdP ⟨b, 1, none⟩ w10 fun x84_1 =>
        synclaw_Steps.Call x84_0 x84_1 w10 fun r85 w11 =>
        Bm (r85 != r77) (
          R i i w11) (
          sync_Sync_Check.Call r83 w11 fun r91 w12 =>
          synclaw_Match.Call r83 m0 w12 fun r95 w13 =>
          syncm_Sync_Steps.Call m0 w13 fun r97 w14 =>
          syncm_Sync_After.Call m0 r97 w14 fun r100 w15 =>
          synclaw_Alike.Call r83 r100 w15 fun r103 w16 =>
          Bm (!(r91.toList == (ByteArray.mk #[]).toList)) (
            R i i w16) (
            LdP ⟨b, 0, none⟩ w16 fun x108_0 =>
            LdP ⟨b, 1, none⟩ w16 fun x108_1 =>
            synclaw_Steps.Call x108_0 x108_1 w16 fun r109 w17 =>
            Bm (r109 != r77) (
              R i i w17) (
              Bm (decide (r95 < (0 : Int))) (
                R i i w17) (
                LdI .i64 ⟨o_, 1, none⟩ w17 fun x119 =>
                Bm (decide (x119 ≤ (0 : Int))) (
                  synclaw_walk.B4 script_b script_l script_c steady quiet id0 b r83 m0 reg was mine_b mine_l mine_c i o_ r70 b0_ r95 r103 (r95 != (0 : Int)) w17 N1 R) (
                  synclaw_walk.B4 script_b script_l script_c steady quiet id0 b r83 m0 reg was mine_b mine_l mine_c i o_ r70 b0_ r95 r103 false w17 N1 R))))))) (
      LdP ⟨b, 0, none⟩ w2 fun x151_0 =>
      LdP ⟨b, 1, none⟩ w2 fun x151_1 =>
      synclaw_Mark.Call x151_0 x151_1 w2 fun w18 =>
      syncm_Sync_Mark.Call m0 w18 fun w19 =>
      New (.cells #[.slice none 0 0, .slice none 0 0] 43) w19 fun now_ w20 =>
      LdI .i64 ⟨o_, 0, none⟩ w20 fun x156 =>
      Bm (x156 == (7 : Int)) (
        LdI .i64 ⟨o_, 1, none⟩ w20 fun x164 =>
        synclaw_Ground.Call  w20 fun r165_0 r165_1 w21 =>
        Sts [.pointer r165_0, .pointer r165_1] ⟨b, 0, none⟩ 0 w21 fun w22 =>
        elect_New.Call x164 w22 fun r167 w23 =>
        LdP ⟨b, 1, none⟩ w23 fun x169 =>
        sync_New.Call x169 r167 w23 fun r171 w24 =>
        syncm_New.Call x164 w24 fun r173 w25 =>
        synclaw_walk.B5 script_b script_l script_c steady quiet x164 b r171 r173 reg was mine_b mine_l mine_c i true false now_ w25 N1 R) (
        Bm (x156 == (1 : Int)) (
          synclaw_SameTick.Call x m0 w20 fun r179_0_0_b r179_0_0_l r179_0_0_c r179_0_1_b r179_0_1_l r179_0_1_c r179_1 w26 =>
          Sts [.slice r179_0_0_b r179_0_0_l r179_0_0_c, .slice r179_0_1_b r179_0_1_l r179_0_1_c] ⟨now_, 0, none⟩ 0 w26 fun w27 =>
          synclaw_walk.B5 script_b script_l script_c steady quiet id0 b x m0 reg was mine_b mine_l mine_c i r179_1 true now_ w27 N1 R) (
          Bm (x156 == (15 : Int)) (
            LdI .i64 ⟨o_, 1, none⟩ w20 fun x185 =>
            Sts [.int .i64 x185] ⟨reg, 0, none⟩ 0 w20 fun w28 =>
            LdI .i64 ⟨o_, 2, none⟩ w28 fun x188 =>
            Sts [.bool (x188 != (0 : Int))] ⟨reg, 7, none⟩ 0 w28 fun w29 =>
            LdI .i64 ⟨reg, 0, none⟩ w29 fun x194_0 =>
            LdI .i64 ⟨reg, 1, none⟩ w29 fun x194_1 =>
            LdI .i64 ⟨reg, 2, none⟩ w29 fun x194_2 =>
            LdI .i64 ⟨reg, 3, none⟩ w29 fun x194_3 =>
            LdI .i64 ⟨reg, 4, none⟩ w29 fun x194_4 =>
            LdI .i64 ⟨reg, 5, none⟩ w29 fun x194_5 =>
            LdI .i64 ⟨reg, 6, none⟩ w29 fun x194_6 =>
            LdB ⟨reg, 7, none⟩ w29 fun x194_7 =>
            LdL ⟨reg, 8, none⟩ w29 fun x194_8_b x194_8_l x194_8_c =>
            LdS ⟨reg, 9, none⟩ w29 fun x194_9 =>
            synclaw_SameStep.Call x m0 x194_0 x194_1 x194_2 x194_3 x194_4 x194_5 x194_6 x194_7 x194_8_b x194_8_l x194_8_c x194_9 w29 fun r195_0_0_b r195_0_0_l r195_0_0_c r195_0_1_b r195_0_1_l r195_0_1_c r195_1 w30 =>
            Sts [.slice r195_0_0_b r195_0_0_l r195_0_0_c, .slice r195_0_1_b r195_0_1_l r195_0_1_c] ⟨now_, 0, none⟩ 0 w30 fun w31 =>
            Sts [.int .i64 (0 : Int), .int .i64 (0 : Int), .int .i64 (0 : Int), .int .i64 (0 : Int), .int .i64 (0 : Int), .int .i64 (0 : Int), .int .i64 (0 : Int), .bool false, .slice none 0 0, .string (ByteArray.mk #[])] ⟨reg, 0, none⟩ 0 w31 fun w32 =>
            synclaw_walk.B5 script_b script_l script_c steady quiet id0 b x m0 reg was mine_b mine_l mine_c i r195_1 true now_ w32 N1 R) (
            Bm (x156 == (11 : Int)) (
              synclaw_walk.B6 script_b script_l script_c steady quiet id0 b x m0 reg was mine_b mine_l mine_c i o_ true false now_ (x156 == (11 : Int)) w20 N1 R) (
              Bm (x156 == (12 : Int)) (
                synclaw_walk.B6 script_b script_l script_c steady quiet id0 b x m0 reg was mine_b mine_l mine_c i o_ true false now_ (x156 == (12 : Int)) w20 N1 R) (
                Bm (x156 == (13 : Int)) (
                  synclaw_walk.B6 script_b script_l script_c steady quiet id0 b x m0 reg was mine_b mine_l mine_c i o_ true false now_ (x156 == (13 : Int)) w20 N1 R) (
                  synclaw_walk.B6 script_b script_l script_c steady quiet id0 b x m0 reg was mine_b mine_l mine_c i o_ true false now_ (x156 == (14 : Int)) w20 N1 R)))))))) (
    Bm (decide (((script_l : Nat) : Int) < (4398046511104 : Int))) (
      R (-1 : Int) ((script_l : Nat) : Int) w) (
      R (-1 : Int) (4398046511104 : Int) w))
theorem synclaw_walk.B2_eq (script_b : Option Addr) (script_l script_c : Nat) (steady quiet : Bool) (id0 : Int) (b : Nat) (x m0 : Option Addr) (reg was : Nat) (mine_b : Option Addr) (mine_l mine_c : Nat) (i : Int) (t58 : Bool) (w : World) (N1 : Option Addr → Nat → Nat → Bool → Bool → Int → Nat → Option Addr → Option Addr → Nat → Nat → Option Addr → Nat → Nat → Int → World → Prop)  (R : Int → Int → World → Prop) (sB3 : Option Addr → Nat → Nat → Bool → Bool → Int → Nat → Option Addr → Option Addr → Nat → Nat → Option Addr → Nat → Nat → Int → World → Prop) (sB4 : Option Addr → Nat → Nat → Bool → Bool → Int → Nat → Option Addr → Option Addr → Nat → Nat → Option Addr → Nat → Nat → Int → Nat → Int → Nat → Int → Bool → Bool → World → Prop) (sB5 : Option Addr → Nat → Nat → Bool → Bool → Int → Nat → Option Addr → Option Addr → Nat → Nat → Option Addr → Nat → Nat → Int → Bool → Bool → Nat → World → Prop) (sB6 : Option Addr → Nat → Nat → Bool → Bool → Int → Nat → Option Addr → Option Addr → Nat → Nat → Option Addr → Nat → Nat → Int → Nat → Bool → Bool → Nat → Bool → World → Prop) :
    (
  Bm t58 (
    Pn script_b fun a =>
    (0 ≤ i ∧ i < ((script_l : Nat) : Int)) ∧
    LdI .i64 (Addr.add a (i.toNat * 6)) w fun x64_0 =>
    LdI .i64 ((Addr.add a (i.toNat * 6)).add 1) w fun x64_1 =>
    LdI .i64 ((Addr.add a (i.toNat * 6)).add 2) w fun x64_2 =>
    LdI .i64 ((Addr.add a (i.toNat * 6)).add 3) w fun x64_3 =>
    LdS ((Addr.add a (i.toNat * 6)).add 4) w fun x64_4 =>
    LdS ((Addr.add a (i.toNat * 6)).add 5) w fun x64_5 =>
    New (.cells #[.int .i64 (0 : Int), .int .i64 (0 : Int), .int .i64 (0 : Int), .int .i64 (0 : Int), .string (ByteArray.mk #[]), .string (ByteArray.mk #[])] 48) w fun o_ w1 =>
    Sts [.int .i64 x64_0, .int .i64 x64_1, .int .i64 x64_2, .int .i64 x64_3, .string x64_4, .string x64_5] ⟨o_, 0, none⟩ 0 w1 fun w2 =>
    LdI .i64 ⟨o_, 0, none⟩ w2 fun x66 =>
    Bm (x66 == (6 : Int)) (
      Bm steady (
        sB3 script_b script_l script_c steady quiet id0 b x m0 reg was mine_b mine_l mine_c i w2) (
        LdP ⟨b, 0, none⟩ w2 fun x69_0 =>
        LdP ⟨b, 1, none⟩ w2 fun x69_1 =>
        synclaw_Steps.Call x69_0 x69_1 w2 fun r70 w3 =>
        LdP ⟨b, 0, none⟩ w3 fun x71_0 =>
        LdP ⟨b, 1, none⟩ w3 fun x71_1 =>
        New (.cells #[.pointer none, .pointer none] 30) w3 fun b0_ w4 =>
        Sts [.pointer x71_0, .pointer x71_1] ⟨b0_, 0, none⟩ 0 w4 fun w5 =>
        LdP ⟨b0_, 0, none⟩ w5 fun x72_0 =>
        LdP ⟨b0_, 1, none⟩ w5 fun x72_1 =>
        LdI .i64 ⟨o_, 1, none⟩ w5 fun x74 =>
        synclaw_After.Call x72_0 x72_1 x74 w5 fun r75_0 r75_1 w6 =>
        Sts [.pointer r75_0, .pointer r75_1] ⟨b, 0, none⟩ 0 w6 fun w7 =>
        LdP ⟨b, 0, none⟩ w7 fun x76_0 =>
        LdP ⟨b, 1, none⟩ w7 fun x76_1 =>
        synclaw_Steps.Call x76_0 x76_1 w7 fun r77 w8 =>
        elect_New.Call id0 w8 fun r79 w9 =>
        LdP ⟨b, 1, none⟩ w9 fun x81 =>
        sync_Open.Call x81 r79 w9 fun r83 w10 =>
        LdP ⟨b, 0, none⟩ w10 fun x84_0 =>
        LdP ⟨b, 1, none⟩ w10 fun x84_1 =>
        synclaw_Steps.Call x84_0 x84_1 w10 fun r85 w11 =>
        Bm (r85 != r77) (
          R i i w11) (
          sync_Sync_Check.Call r83 w11 fun r91 w12 =>
          synclaw_Match.Call r83 m0 w12 fun r95 w13 =>
          syncm_Sync_Steps.Call m0 w13 fun r97 w14 =>
          syncm_Sync_After.Call m0 r97 w14 fun r100 w15 =>
          synclaw_Alike.Call r83 r100 w15 fun r103 w16 =>
          Bm (!(r91.toList == (ByteArray.mk #[]).toList)) (
            R i i w16) (
            LdP ⟨b, 0, none⟩ w16 fun x108_0 =>
            LdP ⟨b, 1, none⟩ w16 fun x108_1 =>
            synclaw_Steps.Call x108_0 x108_1 w16 fun r109 w17 =>
            Bm (r109 != r77) (
              R i i w17) (
              Bm (decide (r95 < (0 : Int))) (
                R i i w17) (
                LdI .i64 ⟨o_, 1, none⟩ w17 fun x119 =>
                Bm (decide (x119 ≤ (0 : Int))) (
                  sB4 script_b script_l script_c steady quiet id0 b r83 m0 reg was mine_b mine_l mine_c i o_ r70 b0_ r95 r103 (r95 != (0 : Int)) w17) (
                  sB4 script_b script_l script_c steady quiet id0 b r83 m0 reg was mine_b mine_l mine_c i o_ r70 b0_ r95 r103 false w17))))))) (
      LdP ⟨b, 0, none⟩ w2 fun x151_0 =>
      LdP ⟨b, 1, none⟩ w2 fun x151_1 =>
      synclaw_Mark.Call x151_0 x151_1 w2 fun w18 =>
      syncm_Sync_Mark.Call m0 w18 fun w19 =>
      New (.cells #[.slice none 0 0, .slice none 0 0] 43) w19 fun now_ w20 =>
      LdI .i64 ⟨o_, 0, none⟩ w20 fun x156 =>
      Bm (x156 == (7 : Int)) (
        LdI .i64 ⟨o_, 1, none⟩ w20 fun x164 =>
        synclaw_Ground.Call  w20 fun r165_0 r165_1 w21 =>
        Sts [.pointer r165_0, .pointer r165_1] ⟨b, 0, none⟩ 0 w21 fun w22 =>
        elect_New.Call x164 w22 fun r167 w23 =>
        LdP ⟨b, 1, none⟩ w23 fun x169 =>
        sync_New.Call x169 r167 w23 fun r171 w24 =>
        syncm_New.Call x164 w24 fun r173 w25 =>
        sB5 script_b script_l script_c steady quiet x164 b r171 r173 reg was mine_b mine_l mine_c i true false now_ w25) (
        Bm (x156 == (1 : Int)) (
          synclaw_SameTick.Call x m0 w20 fun r179_0_0_b r179_0_0_l r179_0_0_c r179_0_1_b r179_0_1_l r179_0_1_c r179_1 w26 =>
          Sts [.slice r179_0_0_b r179_0_0_l r179_0_0_c, .slice r179_0_1_b r179_0_1_l r179_0_1_c] ⟨now_, 0, none⟩ 0 w26 fun w27 =>
          sB5 script_b script_l script_c steady quiet id0 b x m0 reg was mine_b mine_l mine_c i r179_1 true now_ w27) (
          Bm (x156 == (15 : Int)) (
            LdI .i64 ⟨o_, 1, none⟩ w20 fun x185 =>
            Sts [.int .i64 x185] ⟨reg, 0, none⟩ 0 w20 fun w28 =>
            LdI .i64 ⟨o_, 2, none⟩ w28 fun x188 =>
            Sts [.bool (x188 != (0 : Int))] ⟨reg, 7, none⟩ 0 w28 fun w29 =>
            LdI .i64 ⟨reg, 0, none⟩ w29 fun x194_0 =>
            LdI .i64 ⟨reg, 1, none⟩ w29 fun x194_1 =>
            LdI .i64 ⟨reg, 2, none⟩ w29 fun x194_2 =>
            LdI .i64 ⟨reg, 3, none⟩ w29 fun x194_3 =>
            LdI .i64 ⟨reg, 4, none⟩ w29 fun x194_4 =>
            LdI .i64 ⟨reg, 5, none⟩ w29 fun x194_5 =>
            LdI .i64 ⟨reg, 6, none⟩ w29 fun x194_6 =>
            LdB ⟨reg, 7, none⟩ w29 fun x194_7 =>
            LdL ⟨reg, 8, none⟩ w29 fun x194_8_b x194_8_l x194_8_c =>
            LdS ⟨reg, 9, none⟩ w29 fun x194_9 =>
            synclaw_SameStep.Call x m0 x194_0 x194_1 x194_2 x194_3 x194_4 x194_5 x194_6 x194_7 x194_8_b x194_8_l x194_8_c x194_9 w29 fun r195_0_0_b r195_0_0_l r195_0_0_c r195_0_1_b r195_0_1_l r195_0_1_c r195_1 w30 =>
            Sts [.slice r195_0_0_b r195_0_0_l r195_0_0_c, .slice r195_0_1_b r195_0_1_l r195_0_1_c] ⟨now_, 0, none⟩ 0 w30 fun w31 =>
            Sts [.int .i64 (0 : Int), .int .i64 (0 : Int), .int .i64 (0 : Int), .int .i64 (0 : Int), .int .i64 (0 : Int), .int .i64 (0 : Int), .int .i64 (0 : Int), .bool false, .slice none 0 0, .string (ByteArray.mk #[])] ⟨reg, 0, none⟩ 0 w31 fun w32 =>
            sB5 script_b script_l script_c steady quiet id0 b x m0 reg was mine_b mine_l mine_c i r195_1 true now_ w32) (
            Bm (x156 == (11 : Int)) (
              sB6 script_b script_l script_c steady quiet id0 b x m0 reg was mine_b mine_l mine_c i o_ true false now_ (x156 == (11 : Int)) w20) (
              Bm (x156 == (12 : Int)) (
                sB6 script_b script_l script_c steady quiet id0 b x m0 reg was mine_b mine_l mine_c i o_ true false now_ (x156 == (12 : Int)) w20) (
                Bm (x156 == (13 : Int)) (
                  sB6 script_b script_l script_c steady quiet id0 b x m0 reg was mine_b mine_l mine_c i o_ true false now_ (x156 == (13 : Int)) w20) (
                  sB6 script_b script_l script_c steady quiet id0 b x m0 reg was mine_b mine_l mine_c i o_ true false now_ (x156 == (14 : Int)) w20)))))))) (
    Bm (decide (((script_l : Nat) : Int) < (4398046511104 : Int))) (
      R (-1 : Int) ((script_l : Nat) : Int) w) (
      R (-1 : Int) (4398046511104 : Int) w))) = kstep Tryz.prog 283 Tryz.f7.results.toList (Tryz.f7.body.getD .skip) (synclaw_walk.RV R) (kvc Tryz.prog 283 Tryz.f7.results.toList (Tryz.f7.body.getD .skip) (synclaw_walk.RV R) [([(0, [1, 1, 1, 1, 1, 1, 1, 1, 1, 1, 1, 0, 1, 0, 0, 1, 1]), (2, [1, 1, 1, 1, 1, 1, 1, 1, 1, 1, 1, 0, 1, 0, 0]), (1, [0]), (0, [1, 1, 1, 1, 1, 1, 1, 1, 1, 1, 1, 1])], fun σ w => dL (slotOf σ 0) fun script_b_ script_l_ script_c_ => dB (slotOf σ 1) fun steady_ => dB (slotOf σ 2) fun quiet_ => dI .i64 (slotOf σ 8) fun id0_ => dK (slotOf σ 9) fun b_ => dP (slotOf σ 11) fun x_ => dP (slotOf σ 12) fun m0_ => dK (slotOf σ 13) fun reg_ => dK (slotOf σ 14) fun was_ => dL (slotOf σ 15) fun mine_b_ mine_l_ mine_c_ => dI .i64 (slotOf σ 16) fun i_ => sB3 script_b_ script_l_ script_c_ steady_ quiet_ id0_ b_ x_ m0_ reg_ was_ mine_b_ mine_l_ mine_c_ i_ w),
    ([(0, [1, 1, 1, 1, 1, 1, 1, 1, 1, 1, 1, 0, 1, 0, 0, 1, 0, 0, 1, 0, 1, 0, 1, 1, 1, 1, 1, 1, 1, 1, 1, 1, 1, 1, 1, 1, 1, 1, 0, 1]), (0, [1, 1, 1, 1, 1, 1, 1, 1, 1, 1, 1, 0, 1, 0, 0, 1, 0, 0, 1, 0, 1, 0, 1, 1, 1, 1, 1, 1, 1, 1, 1, 1, 1, 1, 1, 1, 1, 1, 1]), (0, [1, 1, 1, 1, 1, 1, 1, 1, 1, 1, 1, 0, 1, 0, 0, 1, 0, 0, 1, 1]), (1, [1]), (0, [1, 1, 1, 1, 1, 1, 1, 1, 1, 1, 1, 0, 1, 0, 0, 1, 1]), (2, [1, 1, 1, 1, 1, 1, 1, 1, 1, 1, 1, 0, 1, 0, 0]), (1, [0]), (0, [1, 1, 1, 1, 1, 1, 1, 1, 1, 1, 1, 1])], fun σ w => dL (slotOf σ 0) fun script_b_ script_l_ script_c_ => dB (slotOf σ 1) fun steady_ => dB (slotOf σ 2) fun quiet_ => dI .i64 (slotOf σ 8) fun id0_ => dK (slotOf σ 9) fun b_ => dP (slotOf σ 11) fun x_ => dP (slotOf σ 12) fun m0_ => dK (slotOf σ 13) fun reg_ => dK (slotOf σ 14) fun was_ => dL (slotOf σ 15) fun mine_b_ mine_l_ mine_c_ => dI .i64 (slotOf σ 16) fun i_ => dK (slotOf σ 17) fun o_ => dI .i64 (slotOf σ 18) fun n_ => dK (slotOf σ 19) fun b0_ => dI .i64 (slotOf σ 22) fun j_ => dB (slotOf σ 25) fun whole_ => dB (slotOf σ 124) fun t124_ => sB4 script_b_ script_l_ script_c_ steady_ quiet_ id0_ b_ x_ m0_ reg_ was_ mine_b_ mine_l_ mine_c_ i_ o_ n_ b0_ j_ whole_ t124_ w),
    ([(0, [1, 1, 1, 1, 1, 1, 1, 1, 1, 1, 1, 0, 1, 0, 0, 1, 0, 0, 1, 1, 1, 1, 1, 1, 1, 1]), (1, [1]), (0, [1, 1, 1, 1, 1, 1, 1, 1, 1, 1, 1, 0, 1, 0, 0, 1, 1]), (2, [1, 1, 1, 1, 1, 1, 1, 1, 1, 1, 1, 0, 1, 0, 0]), (1, [0]), (0, [1, 1, 1, 1, 1, 1, 1, 1, 1, 1, 1, 1])], fun σ w => dL (slotOf σ 0) fun script_b_ script_l_ script_c_ => dB (slotOf σ 1) fun steady_ => dB (slotOf σ 2) fun quiet_ => dI .i64 (slotOf σ 8) fun id0_ => dK (slotOf σ 9) fun b_ => dP (slotOf σ 11) fun x_ => dP (slotOf σ 12) fun m0_ => dK (slotOf σ 13) fun reg_ => dK (slotOf σ 14) fun was_ => dL (slotOf σ 15) fun mine_b_ mine_l_ mine_c_ => dI .i64 (slotOf σ 16) fun i_ => dB (slotOf σ 26) fun same_ => dB (slotOf σ 27) fun sent_ => dK (slotOf σ 28) fun now_ => sB5 script_b_ script_l_ script_c_ steady_ quiet_ id0_ b_ x_ m0_ reg_ was_ mine_b_ mine_l_ mine_c_ i_ same_ sent_ now_ w),
    ([(0, [1, 1, 1, 1, 1, 1, 1, 1, 1, 1, 1, 0, 1, 0, 0, 1, 0, 0, 1, 1, 1, 1, 1, 1, 1, 0, 1, 0, 1, 1, 1, 1, 1, 1, 1]), (1, [2]), (0, [1, 1, 1, 1, 1, 1, 1, 1, 1, 1, 1, 0, 1, 0, 0, 1, 0, 0, 1, 1, 1, 1, 1, 1, 1, 1]), (1, [1]), (0, [1, 1, 1, 1, 1, 1, 1, 1, 1, 1, 1, 0, 1, 0, 0, 1, 1]), (2, [1, 1, 1, 1, 1, 1, 1, 1, 1, 1, 1, 0, 1, 0, 0]), (1, [0]), (0, [1, 1, 1, 1, 1, 1, 1, 1, 1, 1, 1, 1])], fun σ w => dL (slotOf σ 0) fun script_b_ script_l_ script_c_ => dB (slotOf σ 1) fun steady_ => dB (slotOf σ 2) fun quiet_ => dI .i64 (slotOf σ 8) fun id0_ => dK (slotOf σ 9) fun b_ => dP (slotOf σ 11) fun x_ => dP (slotOf σ 12) fun m0_ => dK (slotOf σ 13) fun reg_ => dK (slotOf σ 14) fun was_ => dL (slotOf σ 15) fun mine_b_ mine_l_ mine_c_ => dI .i64 (slotOf σ 16) fun i_ => dK (slotOf σ 17) fun o_ => dB (slotOf σ 26) fun same_ => dB (slotOf σ 27) fun sent_ => dK (slotOf σ 28) fun now_ => dB (slotOf σ 199) fun t199_ => sB6 script_b_ script_l_ script_c_ steady_ quiet_ id0_ b_ x_ m0_ reg_ was_ mine_b_ mine_l_ mine_c_ i_ o_ same_ sent_ now_ t199_ w)] 2000) [(0, [1, 1, 1, 1, 1, 1, 1, 1, 1, 1, 1, 0, 1, 0, 0, 0, 1]), (0, [1, 1, 1, 1, 1, 1, 1, 1, 1, 1, 1, 0, 1, 0, 0, 1]), (2, [1, 1, 1, 1, 1, 1, 1, 1, 1, 1, 1, 0, 1, 0, 0]), (1, [0]), (0, [1, 1, 1, 1, 1, 1, 1, 1, 1, 1, 1, 1])] [(0, .slice script_b script_l script_c), (1, .bool steady), (2, .bool quiet), (8, .int .i64 id0), (9, .pointer (some ⟨b, 0, none⟩)), (11, .pointer x), (12, .pointer m0), (13, .pointer (some ⟨reg, 0, none⟩)), (14, .pointer (some ⟨was, 0, none⟩)), (15, .slice mine_b mine_l mine_c), (16, .int .i64 i), (58, .bool t58)] w := by kernel_rfl
theorem synclaw_walk.B2_sound {R : Int → Int → World → Prop} {N1 : Option Addr → Nat → Nat → Bool → Bool → Int → Nat → Option Addr → Option Addr → Nat → Nat → Option Addr → Nat → Nat → Int → World → Prop} (hN1 : ∀ script_b script_l script_c steady quiet id0 b x m0 reg was mine_b mine_l mine_c i w, N1 script_b script_l script_c steady quiet id0 b x m0 reg was mine_b mine_l mine_c i w → KW Tryz.prog 7 283 (synclaw_walk.RV R) ([(0, [1, 1, 1, 1, 1, 1, 1, 1, 1, 1, 1, 0, 1, 0, 0]), (2, [1, 1, 1, 1, 1, 1, 1, 1, 1, 1, 1, 0, 1, 0, 0]), (1, [0]), (0, [1, 1, 1, 1, 1, 1, 1, 1, 1, 1, 1, 1])].map (toItem (Tryz.f7.body.getD .skip))) [(0, .slice script_b script_l script_c), (1, .bool steady), (2, .bool quiet), (8, .int .i64 id0), (9, .pointer (some ⟨b, 0, none⟩)), (11, .pointer x), (12, .pointer m0), (13, .pointer (some ⟨reg, 0, none⟩)), (14, .pointer (some ⟨was, 0, none⟩)), (15, .slice mine_b mine_l mine_c), (16, .int .i64 i)] w) (script_b : Option Addr) (script_l script_c : Nat) (steady quiet : Bool) (id0 : Int) (b : Nat) (x m0 : Option Addr) (reg was : Nat) (mine_b : Option Addr) (mine_l mine_c : Nat) (i : Int) (t58 : Bool) (w : World) (h : synclaw_walk.B2 script_b script_l script_c steady quiet id0 b x m0 reg was mine_b mine_l mine_c i t58 w N1  R) :
    KW Tryz.prog 7 283 (synclaw_walk.RV R) ([(0, [1, 1, 1, 1, 1, 1, 1, 1, 1, 1, 1, 0, 1, 0, 0, 0, 1]), (0, [1, 1, 1, 1, 1, 1, 1, 1, 1, 1, 1, 0, 1, 0, 0, 1]), (2, [1, 1, 1, 1, 1, 1, 1, 1, 1, 1, 1, 0, 1, 0, 0]), (1, [0]), (0, [1, 1, 1, 1, 1, 1, 1, 1, 1, 1, 1, 1])].map (toItem (Tryz.f7.body.getD .skip))) [(0, .slice script_b script_l script_c), (1, .bool steady), (2, .bool quiet), (8, .int .i64 id0), (9, .pointer (some ⟨b, 0, none⟩)), (11, .pointer x), (12, .pointer m0), (13, .pointer (some ⟨reg, 0, none⟩)), (14, .pointer (some ⟨was, 0, none⟩)), (15, .slice mine_b mine_l mine_c), (16, .int .i64 i), (58, .bool t58)] w := by
  exact block_spec Tryz.func7 Tryz.mixed (stops_cons (fun σ w h => by
      obtain ⟨script_b_, script_l_, script_c_, e0, h⟩ := dL_elim h
      obtain ⟨steady_, e1, h⟩ := dB_elim h
      obtain ⟨quiet_, e2, h⟩ := dB_elim h
      obtain ⟨id0_, e3, h⟩ := dI_elim h
      obtain ⟨b_, e4, h⟩ := dK_elim h
      obtain ⟨x_, e5, h⟩ := dP_elim h
      obtain ⟨m0_, e6, h⟩ := dP_elim h
      obtain ⟨reg_, e7, h⟩ := dK_elim h
      obtain ⟨was_, e8, h⟩ := dK_elim h
      obtain ⟨mine_b_, mine_l_, mine_c_, e9, h⟩ := dL_elim h
      obtain ⟨i_, e10, h⟩ := dI_elim h
      exact (synclaw_walk.B3_sound hN1 script_b_ script_l_ script_c_ steady_ quiet_ id0_ b_ x_ m0_ reg_ was_ mine_b_ mine_l_ mine_c_ i_ w h).weaken (Sub.cons (Sub.cons (Sub.cons (Sub.cons (Sub.cons (Sub.cons (Sub.cons (Sub.cons (Sub.cons (Sub.cons (Sub.cons (Sub.nil _) e10) e9) e8) e7) e6) e5) e4) e3) e2) e1) e0)) (stops_cons (fun σ w h => by
      obtain ⟨script_b_, script_l_, script_c_, e0, h⟩ := dL_elim h
      obtain ⟨steady_, e1, h⟩ := dB_elim h
      obtain ⟨quiet_, e2, h⟩ := dB_elim h
      obtain ⟨id0_, e3, h⟩ := dI_elim h
      obtain ⟨b_, e4, h⟩ := dK_elim h
      obtain ⟨x_, e5, h⟩ := dP_elim h
      obtain ⟨m0_, e6, h⟩ := dP_elim h
      obtain ⟨reg_, e7, h⟩ := dK_elim h
      obtain ⟨was_, e8, h⟩ := dK_elim h
      obtain ⟨mine_b_, mine_l_, mine_c_, e9, h⟩ := dL_elim h
      obtain ⟨i_, e10, h⟩ := dI_elim h
      obtain ⟨o_, e11, h⟩ := dK_elim h
      obtain ⟨n_, e12, h⟩ := dI_elim h
      obtain ⟨b0_, e13, h⟩ := dK_elim h
      obtain ⟨j_, e14, h⟩ := dI_elim h
      obtain ⟨whole_, e15, h⟩ := dB_elim h
      obtain ⟨t124_, e16, h⟩ := dB_elim h
      exact (synclaw_walk.B4_sound hN1 script_b_ script_l_ script_c_ steady_ quiet_ id0_ b_ x_ m0_ reg_ was_ mine_b_ mine_l_ mine_c_ i_ o_ n_ b0_ j_ whole_ t124_ w h).weaken (Sub.cons (Sub.cons (Sub.cons (Sub.cons (Sub.cons (Sub.cons (Sub.cons (Sub.cons (Sub.cons (Sub.cons (Sub.cons (Sub.cons (Sub.cons (Sub.cons (Sub.cons (Sub.cons (Sub.cons (Sub.nil _) e16) e15) e14) e13) e12) e11) e10) e9) e8) e7) e6) e5) e4) e3) e2) e1) e0)) (stops_cons (fun σ w h => by
      obtain ⟨script_b_, script_l_, script_c_, e0, h⟩ := dL_elim h
      obtain ⟨steady_, e1, h⟩ := dB_elim h
      obtain ⟨quiet_, e2, h⟩ := dB_elim h
      obtain ⟨id0_, e3, h⟩ := dI_elim h
      obtain ⟨b_, e4, h⟩ := dK_elim h
      obtain ⟨x_, e5, h⟩ := dP_elim h
      obtain ⟨m0_, e6, h⟩ := dP_elim h
      obtain ⟨reg_, e7, h⟩ := dK_elim h
      obtain ⟨was_, e8, h⟩ := dK_elim h
      obtain ⟨mine_b_, mine_l_, mine_c_, e9, h⟩ := dL_elim h
      obtain ⟨i_, e10, h⟩ := dI_elim h
      obtain ⟨same_, e11, h⟩ := dB_elim h
      obtain ⟨sent_, e12, h⟩ := dB_elim h
      obtain ⟨now_, e13, h⟩ := dK_elim h
      exact (synclaw_walk.B5_sound hN1 script_b_ script_l_ script_c_ steady_ quiet_ id0_ b_ x_ m0_ reg_ was_ mine_b_ mine_l_ mine_c_ i_ same_ sent_ now_ w h).weaken (Sub.cons (Sub.cons (Sub.cons (Sub.cons (Sub.cons (Sub.cons (Sub.cons (Sub.cons (Sub.cons (Sub.cons (Sub.cons (Sub.cons (Sub.cons (Sub.cons (Sub.nil _) e13) e12) e11) e10) e9) e8) e7) e6) e5) e4) e3) e2) e1) e0)) (stops_cons (fun σ w h => by
      obtain ⟨script_b_, script_l_, script_c_, e0, h⟩ := dL_elim h
      obtain ⟨steady_, e1, h⟩ := dB_elim h
      obtain ⟨quiet_, e2, h⟩ := dB_elim h
      obtain ⟨id0_, e3, h⟩ := dI_elim h
      obtain ⟨b_, e4, h⟩ := dK_elim h
      obtain ⟨x_, e5, h⟩ := dP_elim h
      obtain ⟨m0_, e6, h⟩ := dP_elim h
      obtain ⟨reg_, e7, h⟩ := dK_elim h
      obtain ⟨was_, e8, h⟩ := dK_elim h
      obtain ⟨mine_b_, mine_l_, mine_c_, e9, h⟩ := dL_elim h
      obtain ⟨i_, e10, h⟩ := dI_elim h
      obtain ⟨o_, e11, h⟩ := dK_elim h
      obtain ⟨same_, e12, h⟩ := dB_elim h
      obtain ⟨sent_, e13, h⟩ := dB_elim h
      obtain ⟨now_, e14, h⟩ := dK_elim h
      obtain ⟨t199_, e15, h⟩ := dB_elim h
      exact (synclaw_walk.B6_sound hN1 script_b_ script_l_ script_c_ steady_ quiet_ id0_ b_ x_ m0_ reg_ was_ mine_b_ mine_l_ mine_c_ i_ o_ same_ sent_ now_ t199_ w h).weaken (Sub.cons (Sub.cons (Sub.cons (Sub.cons (Sub.cons (Sub.cons (Sub.cons (Sub.cons (Sub.cons (Sub.cons (Sub.cons (Sub.cons (Sub.cons (Sub.cons (Sub.cons (Sub.cons (Sub.nil _) e15) e14) e13) e12) e11) e10) e9) e8) e7) e6) e5) e4) e3) e2) e1) e0)) stops_nil)))) (Eq.mp (synclaw_walk.B2_eq script_b script_l script_c steady quiet id0 b x m0 reg was mine_b mine_l mine_c i t58 w N1  R (fun script_b_ script_l_ script_c_ steady_ quiet_ id0_ b_ x_ m0_ reg_ was_ mine_b_ mine_l_ mine_c_ i_ w => synclaw_walk.B3 script_b_ script_l_ script_c_ steady_ quiet_ id0_ b_ x_ m0_ reg_ was_ mine_b_ mine_l_ mine_c_ i_ w N1 R) (fun script_b_ script_l_ script_c_ steady_ quiet_ id0_ b_ x_ m0_ reg_ was_ mine_b_ mine_l_ mine_c_ i_ o_ n_ b0_ j_ whole_ t124_ w => synclaw_walk.B4 script_b_ script_l_ script_c_ steady_ quiet_ id0_ b_ x_ m0_ reg_ was_ mine_b_ mine_l_ mine_c_ i_ o_ n_ b0_ j_ whole_ t124_ w N1 R) (fun script_b_ script_l_ script_c_ steady_ quiet_ id0_ b_ x_ m0_ reg_ was_ mine_b_ mine_l_ mine_c_ i_ same_ sent_ now_ w => synclaw_walk.B5 script_b_ script_l_ script_c_ steady_ quiet_ id0_ b_ x_ m0_ reg_ was_ mine_b_ mine_l_ mine_c_ i_ same_ sent_ now_ w N1 R) (fun script_b_ script_l_ script_c_ steady_ quiet_ id0_ b_ x_ m0_ reg_ was_ mine_b_ mine_l_ mine_c_ i_ o_ same_ sent_ now_ t199_ w => synclaw_walk.B6 script_b_ script_l_ script_c_ steady_ quiet_ id0_ b_ x_ m0_ reg_ was_ mine_b_ mine_l_ mine_c_ i_ o_ same_ sent_ now_ t199_ w N1 R)) h)
def synclaw_walk.L1b (script_b : Option Addr) (script_l script_c : Nat) (steady quiet : Bool) (id0 : Int) (b : Nat) (x m0 : Option Addr) (reg was : Nat) (mine_b : Option Addr) (mine_l mine_c : Nat) (i : Int) (w : World)  (N1 : Option Addr → Nat → Nat → Bool → Bool → Int → Nat → Option Addr → Option Addr → Nat → Nat → Option Addr → Nat → Nat → Int → World → Prop) (R : Int → Int → World → Prop) : Prop :=
  Bm (decide (i < ((script_l : Nat) : Int))) (
    synclaw_walk.B2 script_b script_l script_c steady quiet id0 b x m0 reg was mine_b mine_l mine_c i (decide (i < (4398046511104 : Int))) w N1 R) (
    synclaw_walk.B2 script_b script_l script_c steady quiet id0 b x m0 reg was mine_b mine_l mine_c i false w N1 R)
theorem synclaw_walk.L1b_eq (script_b : Option Addr) (script_l script_c : Nat) (steady quiet : Bool) (id0 : Int) (b : Nat) (x m0 : Option Addr) (reg was : Nat) (mine_b : Option Addr) (mine_l mine_c : Nat) (i : Int) (w : World)  (N1 : Option Addr → Nat → Nat → Bool → Bool → Int → Nat → Option Addr → Option Addr → Nat → Nat → Option Addr → Nat → Nat → Int → World → Prop) (R : Int → Int → World → Prop) (sB2 : Option Addr → Nat → Nat → Bool → Bool → Int → Nat → Option Addr → Option Addr → Nat → Nat → Option Addr → Nat → Nat → Int → Bool → World → Prop) :
    (
  Bm (decide (i < ((script_l : Nat) : Int))) (
    sB2 script_b script_l script_c steady quiet id0 b x m0 reg was mine_b mine_l mine_c i (decide (i < (4398046511104 : Int))) w) (
    sB2 script_b script_l script_c steady quiet id0 b x m0 reg was mine_b mine_l mine_c i false w)) = kstep Tryz.prog 283 Tryz.f7.results.toList (Tryz.f7.body.getD .skip) (synclaw_walk.RV R) (kvc Tryz.prog 283 Tryz.f7.results.toList (Tryz.f7.body.getD .skip) (synclaw_walk.RV R) [([(0, [1, 1, 1, 1, 1, 1, 1, 1, 1, 1, 1, 0, 1, 0, 0, 0, 1]), (0, [1, 1, 1, 1, 1, 1, 1, 1, 1, 1, 1, 0, 1, 0, 0, 1]), (2, [1, 1, 1, 1, 1, 1, 1, 1, 1, 1, 1, 0, 1, 0, 0]), (1, [0]), (0, [1, 1, 1, 1, 1, 1, 1, 1, 1, 1, 1, 1])], fun σ w => dL (slotOf σ 0) fun script_b_ script_l_ script_c_ => dB (slotOf σ 1) fun steady_ => dB (slotOf σ 2) fun quiet_ => dI .i64 (slotOf σ 8) fun id0_ => dK (slotOf σ 9) fun b_ => dP (slotOf σ 11) fun x_ => dP (slotOf σ 12) fun m0_ => dK (slotOf σ 13) fun reg_ => dK (slotOf σ 14) fun was_ => dL (slotOf σ 15) fun mine_b_ mine_l_ mine_c_ => dI .i64 (slotOf σ 16) fun i_ => dB (slotOf σ 58) fun t58_ => sB2 script_b_ script_l_ script_c_ steady_ quiet_ id0_ b_ x_ m0_ reg_ was_ mine_b_ mine_l_ mine_c_ i_ t58_ w)] 2000) [(0, [1, 1, 1, 1, 1, 1, 1, 1, 1, 1, 1, 0, 1, 0, 0]), (2, [1, 1, 1, 1, 1, 1, 1, 1, 1, 1, 1, 0, 1, 0, 0]), (1, [0]), (0, [1, 1, 1, 1, 1, 1, 1, 1, 1, 1, 1, 1])] [(0, .slice script_b script_l script_c), (1, .bool steady), (2, .bool quiet), (8, .int .i64 id0), (9, .pointer (some ⟨b, 0, none⟩)), (11, .pointer x), (12, .pointer m0), (13, .pointer (some ⟨reg, 0, none⟩)), (14, .pointer (some ⟨was, 0, none⟩)), (15, .slice mine_b mine_l mine_c), (16, .int .i64 i)] w := by kernel_rfl
theorem synclaw_walk.L1b_sound {R : Int → Int → World → Prop} {N1 : Option Addr → Nat → Nat → Bool → Bool → Int → Nat → Option Addr → Option Addr → Nat → Nat → Option Addr → Nat → Nat → Int → World → Prop} (hN1 : ∀ script_b script_l script_c steady quiet id0 b x m0 reg was mine_b mine_l mine_c i w, N1 script_b script_l script_c steady quiet id0 b x m0 reg was mine_b mine_l mine_c i w → KW Tryz.prog 7 283 (synclaw_walk.RV R) ([(0, [1, 1, 1, 1, 1, 1, 1, 1, 1, 1, 1, 0, 1, 0, 0]), (2, [1, 1, 1, 1, 1, 1, 1, 1, 1, 1, 1, 0, 1, 0, 0]), (1, [0]), (0, [1, 1, 1, 1, 1, 1, 1, 1, 1, 1, 1, 1])].map (toItem (Tryz.f7.body.getD .skip))) [(0, .slice script_b script_l script_c), (1, .bool steady), (2, .bool quiet), (8, .int .i64 id0), (9, .pointer (some ⟨b, 0, none⟩)), (11, .pointer x), (12, .pointer m0), (13, .pointer (some ⟨reg, 0, none⟩)), (14, .pointer (some ⟨was, 0, none⟩)), (15, .slice mine_b mine_l mine_c), (16, .int .i64 i)] w) (script_b : Option Addr) (script_l script_c : Nat) (steady quiet : Bool) (id0 : Int) (b : Nat) (x m0 : Option Addr) (reg was : Nat) (mine_b : Option Addr) (mine_l mine_c : Nat) (i : Int) (w : World) (h : synclaw_walk.L1b script_b script_l script_c steady quiet id0 b x m0 reg was mine_b mine_l mine_c i w  N1 R) :
    KW Tryz.prog 7 283 (synclaw_walk.RV R) ([(0, [1, 1, 1, 1, 1, 1, 1, 1, 1, 1, 1, 0, 1, 0, 0]), (2, [1, 1, 1, 1, 1, 1, 1, 1, 1, 1, 1, 0, 1, 0, 0]), (1, [0]), (0, [1, 1, 1, 1, 1, 1, 1, 1, 1, 1, 1, 1])].map (toItem (Tryz.f7.body.getD .skip))) [(0, .slice script_b script_l script_c), (1, .bool steady), (2, .bool quiet), (8, .int .i64 id0), (9, .pointer (some ⟨b, 0, none⟩)), (11, .pointer x), (12, .pointer m0), (13, .pointer (some ⟨reg, 0, none⟩)), (14, .pointer (some ⟨was, 0, none⟩)), (15, .slice mine_b mine_l mine_c), (16, .int .i64 i)] w := by
  exact block_spec Tryz.func7 Tryz.mixed (stops_cons (fun σ w h => by
      obtain ⟨script_b_, script_l_, script_c_, e0, h⟩ := dL_elim h
      obtain ⟨steady_, e1, h⟩ := dB_elim h
      obtain ⟨quiet_, e2, h⟩ := dB_elim h
      obtain ⟨id0_, e3, h⟩ := dI_elim h
      obtain ⟨b_, e4, h⟩ := dK_elim h
      obtain ⟨x_, e5, h⟩ := dP_elim h
      obtain ⟨m0_, e6, h⟩ := dP_elim h
      obtain ⟨reg_, e7, h⟩ := dK_elim h
      obtain ⟨was_, e8, h⟩ := dK_elim h
      obtain ⟨mine_b_, mine_l_, mine_c_, e9, h⟩ := dL_elim h
      obtain ⟨i_, e10, h⟩ := dI_elim h
      obtain ⟨t58_, e11, h⟩ := dB_elim h
      exact (synclaw_walk.B2_sound hN1 script_b_ script_l_ script_c_ steady_ quiet_ id0_ b_ x_ m0_ reg_ was_ mine_b_ mine_l_ mine_c_ i_ t58_ w h).weaken (Sub.cons (Sub.cons (Sub.cons (Sub.cons (Sub.cons (Sub.cons (Sub.cons (Sub.cons (Sub.cons (Sub.cons (Sub.cons (Sub.cons (Sub.nil _) e11) e10) e9) e8) e7) e6) e5) e4) e3) e2) e1) e0)) stops_nil) (Eq.mp (synclaw_walk.L1b_eq script_b script_l script_c steady quiet id0 b x m0 reg was mine_b mine_l mine_c i w  N1 R (fun script_b_ script_l_ script_c_ steady_ quiet_ id0_ b_ x_ m0_ reg_ was_ mine_b_ mine_l_ mine_c_ i_ t58_ w => synclaw_walk.B2 script_b_ script_l_ script_c_ steady_ quiet_ id0_ b_ x_ m0_ reg_ was_ mine_b_ mine_l_ mine_c_ i_ t58_ w N1 R)) h)
def synclaw_walk.L1 (script_b : Option Addr) (script_l script_c : Nat) (steady quiet : Bool) (id0 : Int) (b : Nat) (x m0 : Option Addr) (reg was : Nat) (mine_b : Option Addr) (mine_l mine_c : Nat) (i : Int) (w : World)  (R : Int → Int → World → Prop) : Prop :=
  ∃ (I : Nat → Option Addr → Nat → Nat → Bool → Bool → Int → Nat → Option Addr → Option Addr → Nat → Nat → Option Addr → Nat → Nat → Int → World → Prop) (m : Nat), I m script_b script_l script_c steady quiet id0 b x m0 reg was mine_b mine_l mine_c i w ∧ ∀ m script_b script_l script_c steady quiet id0 b x m0 reg was mine_b mine_l mine_c i w, I m script_b script_l script_c steady quiet id0 b x m0 reg was mine_b mine_l mine_c i w → synclaw_walk.L1b script_b script_l script_c steady quiet id0 b x m0 reg was mine_b mine_l mine_c i w  (fun script_b' script_l' script_c' steady' quiet' id0' b' x' m0' reg' was' mine_b' mine_l' mine_c' i' w' => ∃ m', m' < m ∧ I m' script_b' script_l' script_c' steady' quiet' id0' b' x' m0' reg' was' mine_b' mine_l' mine_c' i' w') R
theorem synclaw_walk.L1_sound {R : Int → Int → World → Prop}  (script_b : Option Addr) (script_l script_c : Nat) (steady quiet : Bool) (id0 : Int) (b : Nat) (x m0 : Option Addr) (reg was : Nat) (mine_b : Option Addr) (mine_l mine_c : Nat) (i : Int) (w : World) (h : synclaw_walk.L1 script_b script_l script_c steady quiet id0 b x m0 reg was mine_b mine_l mine_c i w  R) :
    KW Tryz.prog 7 283 (synclaw_walk.RV R) ([(0, [1, 1, 1, 1, 1, 1, 1, 1, 1, 1, 1, 0, 1, 0, 0]), (2, [1, 1, 1, 1, 1, 1, 1, 1, 1, 1, 1, 0, 1, 0, 0]), (1, [0]), (0, [1, 1, 1, 1, 1, 1, 1, 1, 1, 1, 1, 1])].map (toItem (Tryz.f7.body.getD .skip))) [(0, .slice script_b script_l script_c), (1, .bool steady), (2, .bool quiet), (8, .int .i64 id0), (9, .pointer (some ⟨b, 0, none⟩)), (11, .pointer x), (12, .pointer m0), (13, .pointer (some ⟨reg, 0, none⟩)), (14, .pointer (some ⟨was, 0, none⟩)), (15, .slice mine_b mine_l mine_c), (16, .int .i64 i)] w := by
  obtain ⟨I, m, hBase, hr⟩ := h
  refine KW.loop (fun m σ w => ∃ (script_b : Option Addr) (script_l script_c : Nat) (steady quiet : Bool) (id0 : Int) (b : Nat) (x m0 : Option Addr) (reg was : Nat) (mine_b : Option Addr) (mine_l mine_c : Nat) (i : Int), σ = [(0, .slice script_b script_l script_c), (1, .bool steady), (2, .bool quiet), (8, .int .i64 id0), (9, .pointer (some ⟨b, 0, none⟩)), (11, .pointer x), (12, .pointer m0), (13, .pointer (some ⟨reg, 0, none⟩)), (14, .pointer (some ⟨was, 0, none⟩)), (15, .slice mine_b mine_l mine_c), (16, .int .i64 i)] ∧ I m script_b script_l script_c steady quiet id0 b x m0 reg was mine_b mine_l mine_c i w) ?_ m _ w ⟨script_b, script_l, script_c, steady, quiet, id0, b, x, m0, reg, was, mine_b, mine_l, mine_c, i, rfl, hBase⟩
  rintro m ih σ w ⟨script_b, script_l, script_c, steady, quiet, id0, b, x, m0, reg, was, mine_b, mine_l, mine_c, i, rfl, hI⟩
  exact synclaw_walk.L1b_sound  (N1 := fun script_b' script_l' script_c' steady' quiet' id0' b' x' m0' reg' was' mine_b' mine_l' mine_c' i' w' => ∃ m', m' < m ∧ I m' script_b' script_l' script_c' steady' quiet' id0' b' x' m0' reg' was' mine_b' mine_l' mine_c' i' w') (fun script_b' script_l' script_c' steady' quiet' id0' b' x' m0' reg' was' mine_b' mine_l' mine_c' i' w' hx => by obtain ⟨m', hlt, hI'⟩ := hx; exact ih m' hlt _ w' ⟨script_b', script_l', script_c', steady', quiet', id0', b', x', m0', reg', was', mine_b', mine_l', mine_c', i', rfl, hI'⟩) script_b script_l script_c steady quiet id0 b x m0 reg was mine_b mine_l mine_c i w (hr m script_b script_l script_c steady quiet id0 b x m0 reg was mine_b mine_l mine_c i w hI)
def synclaw_walk.B1 (script_b : Option Addr) (script_l script_c : Nat) (steady quiet : Bool) (id0 : Int) (b : Nat) (x m0 : Option Addr) (reg was : Nat) (mine_b : Option Addr) (mine_l mine_c : Nat) (w : World)   (R : Int → Int → World → Prop) : Prop :=
  synclaw_walk.L1 script_b script_l script_c steady quiet id0 b x m0 reg was mine_b mine_l mine_c (0 : Int) w  R
theorem synclaw_walk.B1_eq (script_b : Option Addr) (script_l script_c : Nat) (steady quiet : Bool) (id0 : Int) (b : Nat) (x m0 : Option Addr) (reg was : Nat) (mine_b : Option Addr) (mine_l mine_c : Nat) (w : World)   (R : Int → Int → World → Prop) (sL1 : Option Addr → Nat → Nat → Bool → Bool → Int → Nat → Option Addr → Option Addr → Nat → Nat → Option Addr → Nat → Nat → Int → World → Prop) :
    (
  sL1 script_b script_l script_c steady quiet id0 b x m0 reg was mine_b mine_l mine_c (0 : Int) w) = kstep Tryz.prog 283 Tryz.f7.results.toList (Tryz.f7.body.getD .skip) (synclaw_walk.RV R) (kvc Tryz.prog 283 Tryz.f7.results.toList (Tryz.f7.body.getD .skip) (synclaw_walk.RV R) [([(0, [1, 1, 1, 1, 1, 1, 1, 1, 1, 1, 1, 0, 1, 0, 0]), (2, [1, 1, 1, 1, 1, 1, 1, 1, 1, 1, 1, 0, 1, 0, 0]), (1, [0]), (0, [1, 1, 1, 1, 1, 1, 1, 1, 1, 1, 1, 1])], fun σ w => dL (slotOf σ 0) fun script_b_ script_l_ script_c_ => dB (slotOf σ 1) fun steady_ => dB (slotOf σ 2) fun quiet_ => dI .i64 (slotOf σ 8) fun id0_ => dK (slotOf σ 9) fun b_ => dP (slotOf σ 11) fun x_ => dP (slotOf σ 12) fun m0_ => dK (slotOf σ 13) fun reg_ => dK (slotOf σ 14) fun was_ => dL (slotOf σ 15) fun mine_b_ mine_l_ mine_c_ => dI .i64 (slotOf σ 16) fun i_ => sL1 script_b_ script_l_ script_c_ steady_ quiet_ id0_ b_ x_ m0_ reg_ was_ mine_b_ mine_l_ mine_c_ i_ w)] 2000) [(0, [1, 1, 1, 1, 1, 1, 1, 1, 1, 1, 1])] [(0, .slice script_b script_l script_c), (1, .bool steady), (2, .bool quiet), (8, .int .i64 id0), (9, .pointer (some ⟨b, 0, none⟩)), (11, .pointer x), (12, .pointer m0), (13, .pointer (some ⟨reg, 0, none⟩)), (14, .pointer (some ⟨was, 0, none⟩)), (15, .slice mine_b mine_l mine_c)] w := by kernel_rfl
theorem synclaw_walk.B1_sound {R : Int → Int → World → Prop}  (script_b : Option Addr) (script_l script_c : Nat) (steady quiet : Bool) (id0 : Int) (b : Nat) (x m0 : Option Addr) (reg was : Nat) (mine_b : Option Addr) (mine_l mine_c : Nat) (w : World) (h : synclaw_walk.B1 script_b script_l script_c steady quiet id0 b x m0 reg was mine_b mine_l mine_c w   R) :
    KW Tryz.prog 7 283 (synclaw_walk.RV R) ([(0, [1, 1, 1, 1, 1, 1, 1, 1, 1, 1, 1])].map (toItem (Tryz.f7.body.getD .skip))) [(0, .slice script_b script_l script_c), (1, .bool steady), (2, .bool quiet), (8, .int .i64 id0), (9, .pointer (some ⟨b, 0, none⟩)), (11, .pointer x), (12, .pointer m0), (13, .pointer (some ⟨reg, 0, none⟩)), (14, .pointer (some ⟨was, 0, none⟩)), (15, .slice mine_b mine_l mine_c)] w := by
  exact block_spec Tryz.func7 Tryz.mixed (stops_cons (fun σ w h => by
      obtain ⟨script_b_, script_l_, script_c_, e0, h⟩ := dL_elim h
      obtain ⟨steady_, e1, h⟩ := dB_elim h
      obtain ⟨quiet_, e2, h⟩ := dB_elim h
      obtain ⟨id0_, e3, h⟩ := dI_elim h
      obtain ⟨b_, e4, h⟩ := dK_elim h
      obtain ⟨x_, e5, h⟩ := dP_elim h
      obtain ⟨m0_, e6, h⟩ := dP_elim h
      obtain ⟨reg_, e7, h⟩ := dK_elim h
      obtain ⟨was_, e8, h⟩ := dK_elim h
      obtain ⟨mine_b_, mine_l_, mine_c_, e9, h⟩ := dL_elim h
      obtain ⟨i_, e10, h⟩ := dI_elim h
      exact (synclaw_walk.L1_sound  script_b_ script_l_ script_c_ steady_ quiet_ id0_ b_ x_ m0_ reg_ was_ mine_b_ mine_l_ mine_c_ i_ w h).weaken (Sub.cons (Sub.cons (Sub.cons (Sub.cons (Sub.cons (Sub.cons (Sub.cons (Sub.cons (Sub.cons (Sub.cons (Sub.cons (Sub.nil _) e10) e9) e8) e7) e6) e5) e4) e3) e2) e1) e0)) stops_nil) (Eq.mp (synclaw_walk.B1_eq script_b script_l script_c steady quiet id0 b x m0 reg was mine_b mine_l mine_c w   R (fun script_b_ script_l_ script_c_ steady_ quiet_ id0_ b_ x_ m0_ reg_ was_ mine_b_ mine_l_ mine_c_ i_ w => synclaw_walk.L1 script_b_ script_l_ script_c_ steady_ quiet_ id0_ b_ x_ m0_ reg_ was_ mine_b_ mine_l_ mine_c_ i_ w  R)) h)
def synclaw_walk.B0 (script_b : Option Addr) (script_l script_c : Nat) (steady quiet : Bool) (w : World)   (R : Int → Int → World → Prop) : Prop :=
  synclaw_Ground.Call  w fun r32_0 r32_1 w1 =>
  New (.cells #[.pointer none, .pointer none] 30) w1 fun b_ w2 =>
  Sts [.pointer r32_0, .pointer r32_1] ⟨b_, 0, none⟩ 0 w2 fun w3 =>
  elect_New.Call (0 : Int) w3 fun r34 w4 =>
  LdP ⟨b_, 1, none⟩ w4 fun x36 =>
  sync_New.Call x36 r34 w4 fun r38 w5 =>
  syncm_New.Call (0 : Int) w5 fun r40 w6 =>
  New (.cells #[.int .i64 (0 : Int), .int .i64 (0 : Int), .int .i64 (0 : Int), .int .i64 (0 : Int), .int .i64 (0 : Int), .int .i64 (0 : Int), .int .i64 (0 : Int), .bool false, .slice none 0 0, .string (ByteArray.mk #[])] 40) w6 fun reg_ w7 =>
  New (.cells #[.slice none 0 0, .slice none 0 0] 43) w7 fun was_ w8 =>
  LdP ⟨b_, 0, none⟩ w8 fun x41_0 =>
  LdP ⟨b_, 1, none⟩ w8 fun x41_1 =>
  synclaw_Steps.Call x41_0 x41_1 w8 fun r42 w9 =>
  Bm (r42 != (0 : Int)) (
    R (0 : Int) (0 : Int) w9) (
    Bm (!quiet) (
      LdP ⟨b_, 0, none⟩ w9 fun x48_0 =>
      LdP ⟨b_, 1, none⟩ w9 fun x48_1 =>
      synclaw_Seen.Call r38 r40 x48_0 x48_1 (0 : Int) w9 fun r49 w10 =>
      Bm (!r49) (
        R (0 : Int) (0 : Int) w10) (
        synclaw_walk.B1 script_b script_l script_c steady quiet (0 : Int) b_ r38 r40 reg_ was_ none 0 0 w10  R)) (
      synclaw_walk.B1 script_b script_l script_c steady quiet (0 : Int) b_ r38 r40 reg_ was_ none 0 0 w9  R))
theorem synclaw_walk.B0_eq (script_b : Option Addr) (script_l script_c : Nat) (steady quiet : Bool) (w : World)   (R : Int → Int → World → Prop) (sB1 : Option Addr → Nat → Nat → Bool → Bool → Int → Nat → Option Addr → Option Addr → Nat → Nat → Option Addr → Nat → Nat → World → Prop) :
    (
  synclaw_Ground.Call  w fun r32_0 r32_1 w1 =>
  New (.cells #[.pointer none, .pointer none] 30) w1 fun b_ w2 =>
  Sts [.pointer r32_0, .pointer r32_1] ⟨b_, 0, none⟩ 0 w2 fun w3 =>
  elect_New.Call (0 : Int) w3 fun r34 w4 =>
  LdP ⟨b_, 1, none⟩ w4 fun x36 =>
  sync_New.Call x36 r34 w4 fun r38 w5 =>
  syncm_New.Call (0 : Int) w5 fun r40 w6 =>
  New (.cells #[.int .i64 (0 : Int), .int .i64 (0 : Int), .int .i64 (0 : Int), .int .i64 (0 : Int), .int .i64 (0 : Int), .int .i64 (0 : Int), .int .i64 (0 : Int), .bool false, .slice none 0 0, .string (ByteArray.mk #[])] 40) w6 fun reg_ w7 =>
  New (.cells #[.slice none 0 0, .slice none 0 0] 43) w7 fun was_ w8 =>
  LdP ⟨b_, 0, none⟩ w8 fun x41_0 =>
  LdP ⟨b_, 1, none⟩ w8 fun x41_1 =>
  synclaw_Steps.Call x41_0 x41_1 w8 fun r42 w9 =>
  Bm (r42 != (0 : Int)) (
    R (0 : Int) (0 : Int) w9) (
    Bm (!quiet) (
      LdP ⟨b_, 0, none⟩ w9 fun x48_0 =>
      LdP ⟨b_, 1, none⟩ w9 fun x48_1 =>
      synclaw_Seen.Call r38 r40 x48_0 x48_1 (0 : Int) w9 fun r49 w10 =>
      Bm (!r49) (
        R (0 : Int) (0 : Int) w10) (
        sB1 script_b script_l script_c steady quiet (0 : Int) b_ r38 r40 reg_ was_ none 0 0 w10)) (
      sB1 script_b script_l script_c steady quiet (0 : Int) b_ r38 r40 reg_ was_ none 0 0 w9))) = kstep Tryz.prog 283 Tryz.f7.results.toList (Tryz.f7.body.getD .skip) (synclaw_walk.RV R) (kvc Tryz.prog 283 Tryz.f7.results.toList (Tryz.f7.body.getD .skip) (synclaw_walk.RV R) [([(0, [1, 1, 1, 1, 1, 1, 1, 1, 1, 1, 1])], fun σ w => dL (slotOf σ 0) fun script_b_ script_l_ script_c_ => dB (slotOf σ 1) fun steady_ => dB (slotOf σ 2) fun quiet_ => dI .i64 (slotOf σ 8) fun id0_ => dK (slotOf σ 9) fun b_ => dP (slotOf σ 11) fun x_ => dP (slotOf σ 12) fun m0_ => dK (slotOf σ 13) fun reg_ => dK (slotOf σ 14) fun was_ => dL (slotOf σ 15) fun mine_b_ mine_l_ mine_c_ => sB1 script_b_ script_l_ script_c_ steady_ quiet_ id0_ b_ x_ m0_ reg_ was_ mine_b_ mine_l_ mine_c_ w)] 2000) [(0, [])] [(0, .slice script_b script_l script_c), (1, .bool steady), (2, .bool quiet)] w := by kernel_rfl
theorem synclaw_walk.B0_sound {R : Int → Int → World → Prop}  (script_b : Option Addr) (script_l script_c : Nat) (steady quiet : Bool) (w : World) (h : synclaw_walk.B0 script_b script_l script_c steady quiet w   R) :
    KW Tryz.prog 7 283 (synclaw_walk.RV R) ([(0, [])].map (toItem (Tryz.f7.body.getD .skip))) [(0, .slice script_b script_l script_c), (1, .bool steady), (2, .bool quiet)] w := by
  exact block_spec Tryz.func7 Tryz.mixed (stops_cons (fun σ w h => by
      obtain ⟨script_b_, script_l_, script_c_, e0, h⟩ := dL_elim h
      obtain ⟨steady_, e1, h⟩ := dB_elim h
      obtain ⟨quiet_, e2, h⟩ := dB_elim h
      obtain ⟨id0_, e3, h⟩ := dI_elim h
      obtain ⟨b_, e4, h⟩ := dK_elim h
      obtain ⟨x_, e5, h⟩ := dP_elim h
      obtain ⟨m0_, e6, h⟩ := dP_elim h
      obtain ⟨reg_, e7, h⟩ := dK_elim h
      obtain ⟨was_, e8, h⟩ := dK_elim h
      obtain ⟨mine_b_, mine_l_, mine_c_, e9, h⟩ := dL_elim h
      exact (synclaw_walk.B1_sound  script_b_ script_l_ script_c_ steady_ quiet_ id0_ b_ x_ m0_ reg_ was_ mine_b_ mine_l_ mine_c_ w h).weaken (Sub.cons (Sub.cons (Sub.cons (Sub.cons (Sub.cons (Sub.cons (Sub.cons (Sub.cons (Sub.cons (Sub.cons (Sub.nil _) e9) e8) e7) e6) e5) e4) e3) e2) e1) e0)) stops_nil) (Eq.mp (synclaw_walk.B0_eq script_b script_l script_c steady quiet w   R (fun script_b_ script_l_ script_c_ steady_ quiet_ id0_ b_ x_ m0_ reg_ was_ mine_b_ mine_l_ mine_c_ w => synclaw_walk.B1 script_b_ script_l_ script_c_ steady_ quiet_ id0_ b_ x_ m0_ reg_ was_ mine_b_ mine_l_ mine_c_ w  R)) h)
theorem synclaw_walk.sound (script_b : Option Addr) (script_l script_c : Nat) (steady quiet : Bool) (w : World) (R : Int → Int → World → Prop) (h : synclaw_walk.B0 script_b script_l script_c steady quiet w R) : synclaw_walk.Call script_b script_l script_c steady quiet w R := by
  have hc := calls_of_block (args := #[.slice script_b script_l script_c, .bool steady, .bool quiet]) Tryz.func7 (body := (Tryz.f7.body.getD .skip)) (by kernel_rfl) (by kernel_rfl) (args_slot _) (synclaw_walk.B0_sound script_b script_l script_c steady quiet w h)
  exact hc.mono fun e w' he => by
    obtain ⟨v, rfl, hv⟩ := he
    exact synclaw_walk.RV_elim hv
end Go.Proofs.Qxb6500433aGreat
