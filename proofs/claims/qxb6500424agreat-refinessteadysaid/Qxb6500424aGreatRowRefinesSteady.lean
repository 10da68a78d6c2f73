/-
  THE STATEMENT 'Rows.RefinesSteadySaid'. The frame follows the guide's own shell for a law over a slice; the walk is 'refinesSteady_law'.
-/
import Derived.Test.Qxb6500424aGreatRows
import Derived.Test.Qxb6500424aGreatScript
import Derived.Test.Qxb6500424aGreatHlE
import Derived.WalkKit
import Derived.ProofKit
import Derived.OpenShut
import Derived.ChangeOld
import Derived.Below
namespace Go.Proofs.Qxb6500424aGreat
open Go.Vc Go.ChangeShapes Go.WideShapes Go.ChangeAt Go.RowKit
set_option linter.unusedVariables false

theorem refinesSteady_own : ownKnob Tryz.prog.godebug = none := by kernel_rfl
theorem refinesSteady_laidOut : laidOutB Tryz.prog = true := by kernel_rfl

theorem refinesSteady_script {H : Type} {enc : TypeId × Value → H} {w : World} {base : Nat} {spare : Nat → Bool} {held : Bool} {fuel : Nat} {sb : Option Addr} {n c : Nat} {x : DataW H × List MemPlace}
    (h : DataW.trod enc Tryz.prog w base spare held fuel 22 [.slice sb n c] = some x) (hz : ∀ m ∈ x.1.weights Tryz.prog 22, m ≤ reachBytes) : ∃ ops, ScriptIs w sb n ops :=
  script_open Tryz.underlying22 Tryz.underlying32 (by kernel_rfl) rfl rfl rfl rfl rfl rfl rfl rfl rfl rfl rfl rfl
    Tryz.underlying3 Tryz.underlying3 Tryz.underlying3 Tryz.underlying3 Tryz.underlying9 Tryz.underlying9
    (by kernel_rfl) (by kernel_rfl) (by kernel_rfl) (by kernel_rfl) (by kernel_rfl) (by kernel_rfl) (of_decide_eq_true (by kernel_rfl)) h hz

theorem refinesSteady_walk {w : World} {sb : Option Addr} {n c : Nat} {ops : Nat → OpV} (hs : ScriptIs w sb n ops) :
    Calls Tryz.prog 4 #[.slice sb n c] w fun e w' => e = .returned (.bool true) ∧ Below w.heap.size w w' := by
  have h : hostlaw_RefinesSteady.Call sb n c w fun r w' => r = true ∧ Below w.heap.size w w' :=
    refinesSteady_law hs fun w' he => ⟨rfl, he.below (Below.refl _ _) (fun x hx => by simp at hx)⟩
  unfold hostlaw_RefinesSteady.Call at h
  refine h.mono fun e w' he => ?_
  obtain ⟨r, h1, h2, h3⟩ := he
  subst h2
  exact ⟨h1, h3⟩

set_option maxRecDepth 100000 in
theorem refinesSteady_lifted (os : Os) (started : os.Started) (H : Type) (enc : TypeId × Value → H) :
    ReturnsInHanded {} Tryz.checked os 4 .any (Rows.refinesSteadySpec.pre6 enc Tryz.prog Tryz.f4 Rows.refinesSteadyRow.domain false) (Rows.refinesSteadySpec.post enc Tryz.prog Tryz.f4 false true false false) := by
  refine returnsInHanded_of_change_sized (C := Tryz.checked) refinesSteady_own started (by kernel_rfl) Tryz.func4
    (ChangeSpec.witness6 (enc := enc) (C := Tryz.checked) false ⟨#[], #[.slice none 0 0], []⟩ 8 (by kernel_rfl) (by kernel_rfl) (by kernel_rfl) (by kernel_rfl)) ?_
  intro W base args ds gs before hval0 hW hcnd hsz0 _
  have hval : ∀ (j : Nat) t v, Tryz.f4.params[j]? = some t → args[j]? = some v → Value.okWide Tryz.prog W .any base t v := hval0
  have hW' := hW
  obtain ⟨p, q, hA0, hV, rfl, hfz, hnd⟩ := hW
  have hA : DataW.TrodAll enc Tryz.prog W 0 (fun _ => true) true Tryz.f4.params.toList args.toList ds p := hA0
  have hsz : (DataW.weightsEach Tryz.prog (Tryz.f4.params.toList ++ Rows.refinesSteadySpec.plain.varTypes Tryz.prog) (ds ++ gs)).all (· ≤ reachBytes) = true := hsz0
  rw [Tryz.params4] at hA hval hsz
  obtain ⟨v0, vs0, d0, ds0, p0, q0, hargs, rfl, rfl, h0, r0⟩ := trodAll_cons hA
  obtain ⟨rfl, rfl, rfl⟩ := trodAll_nil r0
  obtain rfl : args = #[v0] := by cases args; simp_all
  obtain ⟨rfl, rfl⟩ := trodVars_none hV
  obtain ⟨a0, len0, cap0, rfl⟩ := okWide_slice Tryz.underlying22 (hval 0 22 v0 rfl rfl)
  have k0 := h0
  have lt0 : ∀ x ∈ p0, x.block < W.heap.size := by obtain ⟨m, hm⟩ := k0; exact DataW.trod_lt m _ _ _ hm
  obtain ⟨ops, w0⟩ : ∃ ops, ScriptIs W a0 len0 ops := by
    obtain ⟨fuel, hf⟩ := h0
    refine refinesSteady_script (by simpa [Value.cells] using hf) fun m hm => ?_
    have h1 := List.all_eq_true.1 hsz m (DataW.weights_mem_each (j := 0) (t := 22) rfl rfl m hm)
    simpa using h1
  clear hA0 hval0 hsz0
  refine (refinesSteady_walk w0).mono fun e W' ⟨he, bel⟩ => ?_
  subst he
  exact ⟨_, rfl, _, _, _, [], _, [], hW', trodAll_mk1 (shut_bool Tryz.underlying4 _), trodAll_cons_mk (Below.trod refinesSteady_laidOut (by kernel_rfl) (of_decide_eq_true (by kernel_rfl)) k0 bel lt0) trodAll_mk0, rfl, bel.frame _, fun h => by cases h⟩

set_option maxRecDepth 100000
/-- The closed facts, one by one: each a declaration of its own. -/
theorem refinesSteady_joined {P : Program} {f : FuncId} {fn : Func} {s : ChangeSpec} {c : OpenClaim} (k0 : (c.wf (OpenSpec.ofChange s)) = true) (k1 : (laidOutB P) = true) (k2 : (mapsRowed P) = true) (k3 : (fn.params.all (P.readableRec ·)) = true) (k4 : (namedTie P c.named s.vars) = true) (k5 : ((c.stops == [])) = true) (k6 : ((P.stops == [])) = true) (k7 : ((c.knobs == [])) = true) (k8 : ((P.stopKnobs == [])) = true) (k9 : ((c.inPlace == P.inPlace f)) = true) (k10 : ((c.unfollowed == P.unfollowed f)) = true) (k11 : ((c.recurses == P.recurses f)) = true) (k12 : ((c.named == P.varsNamed f)) = true) (k13 : ((c.maps == (fn.params.toList ++ s.plain.varTypes P).any (P.mapsRec ·))) = true) (k14 : ((c.ifaces == (fn.params.toList ++ s.plain.varTypes P).any (P.ifacesRec ·))) = true) (k15 : ((c.mapsOut == P.mapsAmong fn.resultTypes.toList)) = true) (k16 : ((c.loops == (fn.params.toList ++ s.plain.varTypes P).any (P.loopsFrom ·))) = true) (k17 : ((c.wideKeys == (fn.params.toList ++ s.plain.varTypes P ++ fn.resultTypes.toList).any (P.wideKeysFrom ·))) = true) (k18 : (s.vars.all (P.varReadable ·)) = true) (k19 : (fn.resultTypes.all (fun t => P.readableRec t && decide (t < P.types.size))) = true) (k20 : ((c.ifacesOut == fn.resultTypes.toList.any (P.ifacesRec ·))) = true) (k21 : ((c.loopsOut == fn.resultTypes.toList.any (P.loopsFrom ·))) = true) (k22 : ((c.plainKeys == P.plainKeys)) = true) (k23 : (c.shortTexts.isNone) = true) (k24 : (P.stopsHeard) = true) (k25 : (P.mayEnter) = true) (k26 : ((c.lifted == P.liftsFinal)) = true) (k27 : ((P.make == some c.make)) = true) (k28 : ((c.kinds == (if c.domain.isEmpty then [] else fn.params.toList.map fun t => match P.underlying t with | some (.int k) => some k | _ => none))) = true) (k29 : ((c.pinned == c.pinnedBy)) = true) (k30 : ((c.veiled == (fn.params.toList ++ s.plain.varTypes P ++ fn.resultTypes.toList).any (P.veiledRec ·))) = true) (k31 : (c.veiledFits P fn.params.toList (fn.params.toList ++ s.plain.varTypes P ++ fn.resultTypes.toList)) = true) : joinedFacts P f fn s c = true := by
  unfold joinedFacts
  simp only [Bool.and_eq_true]
  exact ⟨⟨⟨⟨⟨⟨⟨⟨⟨⟨⟨⟨⟨⟨⟨⟨⟨⟨⟨⟨⟨⟨⟨⟨⟨⟨⟨⟨⟨⟨⟨k0, k1⟩, k2⟩, k3⟩, k4⟩, k5⟩, k6⟩, k7⟩, k8⟩, k9⟩, k10⟩, k11⟩, k12⟩, k13⟩, k14⟩, k15⟩, k16⟩, k17⟩, k18⟩, k19⟩, k20⟩, k21⟩, k22⟩, k23⟩, k24⟩, k25⟩, k26⟩, k27⟩, k28⟩, k29⟩, k30⟩, k31⟩
theorem refinesSteady_k0 : (Rows.refinesSteadyRow.wf (OpenSpec.ofChange Rows.refinesSteadySpec)) = true := by kernel_rfl
theorem refinesSteady_k1 : (laidOutB Tryz.prog) = true := by kernel_rfl
theorem refinesSteady_k2 : (mapsRowed Tryz.prog) = true := by kernel_rfl
theorem refinesSteady_k3 : (Tryz.f4.params.all (Tryz.prog.readableRec ·)) = true := by kernel_rfl
theorem refinesSteady_k4 : (namedTie Tryz.prog Rows.refinesSteadyRow.named Rows.refinesSteadySpec.vars) = true := by kernel_rfl
theorem refinesSteady_k5 : ((Rows.refinesSteadyRow.stops == [])) = true := by kernel_rfl
theorem refinesSteady_k6 : ((Tryz.prog.stops == [])) = true := by kernel_rfl
theorem refinesSteady_k7 : ((Rows.refinesSteadyRow.knobs == [])) = true := by kernel_rfl
theorem refinesSteady_k8 : ((Tryz.prog.stopKnobs == [])) = true := by kernel_rfl
theorem refinesSteady_k9 : ((Rows.refinesSteadyRow.inPlace == Tryz.prog.inPlace 4)) = true := by kernel_rfl
theorem refinesSteady_k10 : ((Rows.refinesSteadyRow.unfollowed == Tryz.prog.unfollowed 4)) = true := by kernel_rfl
theorem refinesSteady_k11 : ((Rows.refinesSteadyRow.recurses == Tryz.prog.recurses 4)) = true := by kernel_rfl
theorem refinesSteady_k12 : ((Rows.refinesSteadyRow.named == Tryz.prog.varsNamed 4)) = true := by kernel_rfl
theorem refinesSteady_k13 : ((Rows.refinesSteadyRow.maps == (Tryz.f4.params.toList ++ Rows.refinesSteadySpec.plain.varTypes Tryz.prog).any (Tryz.prog.mapsRec ·))) = true := by kernel_rfl
theorem refinesSteady_k14 : ((Rows.refinesSteadyRow.ifaces == (Tryz.f4.params.toList ++ Rows.refinesSteadySpec.plain.varTypes Tryz.prog).any (Tryz.prog.ifacesRec ·))) = true := by kernel_rfl
theorem refinesSteady_k15 : ((Rows.refinesSteadyRow.mapsOut == Tryz.prog.mapsAmong Tryz.f4.resultTypes.toList)) = true := by kernel_rfl
theorem refinesSteady_k16 : ((Rows.refinesSteadyRow.loops == (Tryz.f4.params.toList ++ Rows.refinesSteadySpec.plain.varTypes Tryz.prog).any (Tryz.prog.loopsFrom ·))) = true := by kernel_rfl
theorem refinesSteady_k17 : ((Rows.refinesSteadyRow.wideKeys == (Tryz.f4.params.toList ++ Rows.refinesSteadySpec.plain.varTypes Tryz.prog ++ Tryz.f4.resultTypes.toList).any (Tryz.prog.wideKeysFrom ·))) = true := by kernel_rfl
theorem refinesSteady_k18 : (Rows.refinesSteadySpec.vars.all (Tryz.prog.varReadable ·)) = true := by kernel_rfl
theorem refinesSteady_k19 : (Tryz.f4.resultTypes.all (fun t => Tryz.prog.readableRec t && decide (t < Tryz.prog.types.size))) = true := by kernel_rfl
theorem refinesSteady_k20 : ((Rows.refinesSteadyRow.ifacesOut == Tryz.f4.resultTypes.toList.any (Tryz.prog.ifacesRec ·))) = true := by kernel_rfl
theorem refinesSteady_k21 : ((Rows.refinesSteadyRow.loopsOut == Tryz.f4.resultTypes.toList.any (Tryz.prog.loopsFrom ·))) = true := by kernel_rfl
theorem refinesSteady_k22 : ((Rows.refinesSteadyRow.plainKeys == Tryz.prog.plainKeys)) = true := by kernel_rfl
theorem refinesSteady_k23 : (Rows.refinesSteadyRow.shortTexts.isNone) = true := by kernel_rfl
theorem refinesSteady_k24 : (Tryz.prog.stopsHeard) = true := by kernel_rfl
theorem refinesSteady_k25 : (Tryz.prog.mayEnter) = true := by kernel_rfl
theorem refinesSteady_k26 : ((Rows.refinesSteadyRow.lifted == Tryz.prog.liftsFinal)) = true := by kernel_rfl
theorem refinesSteady_k27 : ((Tryz.prog.make == some Rows.refinesSteadyRow.make)) = true := by kernel_rfl
theorem refinesSteady_k28 : ((Rows.refinesSteadyRow.kinds == (if Rows.refinesSteadyRow.domain.isEmpty then [] else Tryz.f4.params.toList.map fun t => match Tryz.prog.underlying t with | some (.int k) => some k | _ => none))) = true := by kernel_rfl
theorem refinesSteady_k29 : ((Rows.refinesSteadyRow.pinned == Rows.refinesSteadyRow.pinnedBy)) = true := by kernel_rfl
theorem refinesSteady_k30 : ((Rows.refinesSteadyRow.veiled == (Tryz.f4.params.toList ++ Rows.refinesSteadySpec.plain.varTypes Tryz.prog ++ Tryz.f4.resultTypes.toList).any (Tryz.prog.veiledRec ·))) = true := by kernel_rfl
theorem refinesSteady_k31 : (Rows.refinesSteadyRow.veiledFits Tryz.prog Tryz.f4.params.toList (Tryz.f4.params.toList ++ Rows.refinesSteadySpec.plain.varTypes Tryz.prog ++ Tryz.f4.resultTypes.toList)) = true := by kernel_rfl
theorem refinesSteady_kn : Tryz.pinned.checked.prog.funcNamed Rows.refinesSteadyRow.func = some 4 := by kernel_rfl
theorem refinesSteady_closed : joinedFacts Tryz.pinned.checked.prog 4 Tryz.f4 Rows.refinesSteadySpec Rows.refinesSteadyRow = true := refinesSteady_joined (P := Tryz.prog) (f := 4) (fn := Tryz.f4) (s := Rows.refinesSteadySpec) (c := Rows.refinesSteadyRow) refinesSteady_k0 refinesSteady_k1 refinesSteady_k2 refinesSteady_k3 refinesSteady_k4 refinesSteady_k5 refinesSteady_k6 refinesSteady_k7 refinesSteady_k8 refinesSteady_k9 refinesSteady_k10 refinesSteady_k11 refinesSteady_k12 refinesSteady_k13 refinesSteady_k14 refinesSteady_k15 refinesSteady_k16 refinesSteady_k17 refinesSteady_k18 refinesSteady_k19 refinesSteady_k20 refinesSteady_k21 refinesSteady_k22 refinesSteady_k23 refinesSteady_k24 refinesSteady_k25 refinesSteady_k26 refinesSteady_k27 refinesSteady_k28 refinesSteady_k29 refinesSteady_k30 refinesSteady_k31
theorem refinesSteady_over : Rows.refinesSteadyRow.holds Tryz.pinned (OpenSpec.ofChange Rows.refinesSteadySpec) :=
  OpenClaim.holds_of_wide 4 Tryz.f4 rfl rfl rfl rfl rfl rfl rfl ⟨rfl, rfl, rfl, rfl, rfl⟩ rfl rfl rfl rfl rfl refinesSteady_kn Tryz.func4 refinesSteady_closed
    (of_decide_eq_true (by kernel_rfl)) (by unfold Func.isWrapper; first | (rw [if_pos (by decide +kernel)]; kernel_rfl) | (rw [if_neg (by decide +kernel)]; exact ⟨rfl, rfl⟩))
    (fun os started H enc _ => refinesSteady_lifted os started H enc)

/-- THE STATEMENT -/
theorem refinesSteadyProved : Rows.RefinesSteadySaid := refinesSteady_over
end Go.Proofs.Qxb6500424aGreat
