/-
  THE STATEMENT 'Rows.RefinesFairSaid'. The frame follows the guide's own shell for a law over a slice; the walk is 'refinesFair_law'.
-/
import Derived.Test.Qxb6500424aGreatRows
import Derived.Test.Qxb6500424aGreatScript
import Derived.Test.Qxb6500424aGreatHlI
import Derived.WalkKit
import Derived.ProofKit
import Derived.OpenShut
import Derived.ChangeOld
import Derived.Below
namespace Go.Proofs.Qxb6500424aGreat
open Go.Vc Go.ChangeShapes Go.WideShapes Go.ChangeAt Go.RowKit
set_option linter.unusedVariables false

theorem refinesFair_own : ownKnob Tryz.prog.godebug = none := by kernel_rfl
theorem refinesFair_laidOut : laidOutB Tryz.prog = true := by kernel_rfl

theorem refinesFair_script {H : Type} {enc : TypeId × Value → H} {w : World} {base : Nat} {spare : Nat → Bool} {held : Bool} {fuel : Nat} {sb : Option Addr} {n c : Nat} {x : DataW H × List MemPlace}
    (h : DataW.trod enc Tryz.prog w base spare held fuel 22 [.slice sb n c] = some x) (hz : ∀ m ∈ x.1.weights Tryz.prog 22, m ≤ reachBytes) : ∃ ops, ScriptIs w sb n ops :=
  script_open Tryz.underlying22 Tryz.underlying32 (by kernel_rfl) rfl rfl rfl rfl rfl rfl rfl rfl rfl rfl rfl rfl
    Tryz.underlying3 Tryz.underlying3 Tryz.underlying3 Tryz.underlying3 Tryz.underlying9 Tryz.underlying9
    (by kernel_rfl) (by kernel_rfl) (by kernel_rfl) (by kernel_rfl) (by kernel_rfl) (by kernel_rfl) (of_decide_eq_true (by kernel_rfl)) h hz

theorem refinesFair_walk {w : World} {sb : Option Addr} {n c : Nat} {ops : Nat → OpV} (hs : ScriptIs w sb n ops) :
    Calls Tryz.prog 6 #[.slice sb n c] w fun e w' => e = .returned (.bool true) ∧ Below w.heap.size w w' := by
  have h : hostlaw_RefinesFair.Call sb n c w fun r w' => r = true ∧ Below w.heap.size w w' :=
    refinesFair_law hs fun w' he => ⟨rfl, he.below (Below.refl _ _) (fun x hx => by simp at hx)⟩
  unfold hostlaw_RefinesFair.Call at h
  refine h.mono fun e w' he => ?_
  obtain ⟨r, h1, h2, h3⟩ := he
  subst h2
  exact ⟨h1, h3⟩

set_option maxRecDepth 100000 in
theorem refinesFair_lifted (os : Os) (started : os.Started) (H : Type) (enc : TypeId × Value → H) :
    ReturnsInHanded {} Tryz.checked os 6 .any (Rows.refinesFairSpec.pre6 enc Tryz.prog Tryz.f6 Rows.refinesFairRow.domain false) (Rows.refinesFairSpec.post enc Tryz.prog Tryz.f6 false true false false) := by
  refine returnsInHanded_of_change_sized (C := Tryz.checked) refinesFair_own started (by kernel_rfl) Tryz.func6
    (ChangeSpec.witness6 (enc := enc) (C := Tryz.checked) false ⟨#[], #[.slice none 0 0], []⟩ 8 (by kernel_rfl) (by kernel_rfl) (by kernel_rfl) (by kernel_rfl)) ?_
  intro W base args ds gs before hval0 hW hcnd hsz0 _
  have hval : ∀ (j : Nat) t v, Tryz.f6.params[j]? = some t → args[j]? = some v → Value.okWide Tryz.prog W .any base t v := hval0
  have hW' := hW
  obtain ⟨p, q, hA0, hV, rfl, hfz, hnd⟩ := hW
  have hA : DataW.TrodAll enc Tryz.prog W 0 (fun _ => true) true Tryz.f6.params.toList args.toList ds p := hA0
  have hsz : (DataW.weightsEach Tryz.prog (Tryz.f6.params.toList ++ Rows.refinesFairSpec.plain.varTypes Tryz.prog) (ds ++ gs)).all (· ≤ reachBytes) = true := hsz0
  rw [Tryz.params6] at hA hval hsz
  obtain ⟨v0, vs0, d0, ds0, p0, q0, hargs, rfl, rfl, h0, r0⟩ := trodAll_cons hA
  obtain ⟨rfl, rfl, rfl⟩ := trodAll_nil r0
  obtain rfl : args = #[v0] := by cases args; simp_all
  obtain ⟨rfl, rfl⟩ := trodVars_none hV
  obtain ⟨a0, len0, cap0, rfl⟩ := okWide_slice Tryz.underlying22 (hval 0 22 v0 rfl rfl)
  have k0 := h0
  have lt0 : ∀ x ∈ p0, x.block < W.heap.size := by obtain ⟨m, hm⟩ := k0; exact DataW.trod_lt m _ _ _ hm
  obtain ⟨ops, w0⟩ : ∃ ops, ScriptIs W a0 len0 ops := by
    obtain ⟨fuel, hf⟩ := h0
    refine refinesFair_script (by simpa [Value.cells] using hf) fun m hm => ?_
    have h1 := List.all_eq_true.1 hsz m (DataW.weights_mem_each (j := 0) (t := 22) rfl rfl m hm)
    simpa using h1
  clear hA0 hval0 hsz0
  refine (refinesFair_walk w0).mono fun e W' ⟨he, bel⟩ => ?_
  subst he
  exact ⟨_, rfl, _, _, _, [], _, [], hW', trodAll_mk1 (shut_bool Tryz.underlying4 _), trodAll_cons_mk (Below.trod refinesFair_laidOut (by kernel_rfl) (of_decide_eq_true (by kernel_rfl)) k0 bel lt0) trodAll_mk0, rfl, bel.frame _, fun h => by cases h⟩

set_option maxRecDepth 100000
/-- The closed facts, one by one: each a declaration of its own. -/
theorem refinesFair_joined {P : Program} {f : FuncId} {fn : Func} {s : ChangeSpec} {c : OpenClaim} (k0 : (c.wf (OpenSpec.ofChange s)) = true) (k1 : (laidOutB P) = true) (k2 : (mapsRowed P) = true) (k3 : (fn.params.all (P.readableRec ·)) = true) (k4 : (namedTie P c.named s.vars) = true) (k5 : ((c.stops == [])) = true) (k6 : ((P.stops == [])) = true) (k7 : ((c.knobs == [])) = true) (k8 : ((P.stopKnobs == [])) = true) (k9 : ((c.inPlace == P.inPlace f)) = true) (k10 : ((c.unfollowed == P.unfollowed f)) = true) (k11 : ((c.recurses == P.recurses f)) = true) (k12 : ((c.named == P.varsNamed f)) = true) (k13 : ((c.maps == (fn.params.toList ++ s.plain.varTypes P).any (P.mapsRec ·))) = true) (k14 : ((c.ifaces == (fn.params.toList ++ s.plain.varTypes P).any (P.ifacesRec ·))) = true) (k15 : ((c.mapsOut == P.mapsAmong fn.resultTypes.toList)) = true) (k16 : ((c.loops == (fn.params.toList ++ s.plain.varTypes P).any (P.loopsFrom ·))) = true) (k17 : ((c.wideKeys == (fn.params.toList ++ s.plain.varTypes P ++ fn.resultTypes.toList).any (P.wideKeysFrom ·))) = true) (k18 : (s.vars.all (P.varReadable ·)) = true) (k19 : (fn.resultTypes.all (fun t => P.readableRec t && decide (t < P.types.size))) = true) (k20 : ((c.ifacesOut == fn.resultTypes.toList.any (P.ifacesRec ·))) = true) (k21 : ((c.loopsOut == fn.resultTypes.toList.any (P.loopsFrom ·))) = true) (k22 : ((c.plainKeys == P.plainKeys)) = true) (k23 : (c.shortTexts.isNone) = true) (k24 : (P.stopsHeard) = true) (k25 : (P.mayEnter) = true) (k26 : ((c.lifted == P.liftsFinal)) = true) (k27 : ((P.make == some c.make)) = true) (k28 : ((c.kinds == (if c.domain.isEmpty then [] else fn.params.toList.map fun t => match P.underlying t with | some (.int k) => some k | _ => none))) = true) (k29 : ((c.pinned == c.pinnedBy)) = true) (k30 : ((c.veiled == (fn.params.toList ++ s.plain.varTypes P ++ fn.resultTypes.toList).any (P.veiledRec ·))) = true) (k31 : (c.veiledFits P fn.params.toList (fn.params.toList ++ s.plain.varTypes P ++ fn.resultTypes.toList)) = true) : joinedFacts P f fn s c = true := by
  unfold joinedFacts
  simp only [Bool.and_eq_true]
  exact ⟨⟨⟨⟨⟨⟨⟨⟨⟨⟨⟨⟨⟨⟨⟨⟨⟨⟨⟨⟨⟨⟨⟨⟨⟨⟨⟨⟨⟨⟨⟨k0, k1⟩, k2⟩, k3⟩, k4⟩, k5⟩, k6⟩, k7⟩, k8⟩, k9⟩, k10⟩, k11⟩, k12⟩, k13⟩, k14⟩, k15⟩, k16⟩, k17⟩, k18⟩, k19⟩, k20⟩, k21⟩, k22⟩, k23⟩, k24⟩, k25⟩, k26⟩, k27⟩, k28⟩, k29⟩, k30⟩, k31⟩
theorem refinesFair_k0 : (Rows.refinesFairRow.wf (OpenSpec.ofChange Rows.refinesFairSpec)) = true := by kernel_rfl
theorem refinesFair_k1 : (laidOutB Tryz.prog) = true := by kernel_rfl
theorem refinesFair_k2 : (mapsRowed Tryz.prog) = true := by kernel_rfl
theorem refinesFair_k3 : (Tryz.f6.params.all (Tryz.prog.readableRec ·)) = true := by kernel_rfl
theorem refinesFair_k4 : (namedTie Tryz.prog Rows.refinesFairRow.named Rows.refinesFairSpec.vars) = true := by kernel_rfl
theorem refinesFair_k5 : ((Rows.refinesFairRow.stops == [])) = true := by kernel_rfl
theorem refinesFair_k6 : ((Tryz.prog.stops == [])) = true := by kernel_rfl
theorem refinesFair_k7 : ((Rows.refinesFairRow.knobs == [])) = true := by kernel_rfl
theorem refinesFair_k8 : ((Tryz.prog.stopKnobs == [])) = true := by kernel_rfl
theorem refinesFair_k9 : ((Rows.refinesFairRow.inPlace == Tryz.prog.inPlace 6)) = true := by kernel_rfl
theorem refinesFair_k10 : ((Rows.refinesFairRow.unfollowed == Tryz.prog.unfollowed 6)) = true := by kernel_rfl
theorem refinesFair_k11 : ((Rows.refinesFairRow.recurses == Tryz.prog.recurses 6)) = true := by kernel_rfl
theorem refinesFair_k12 : ((Rows.refinesFairRow.named == Tryz.prog.varsNamed 6)) = true := by kernel_rfl
theorem refinesFair_k13 : ((Rows.refinesFairRow.maps == (Tryz.f6.params.toList ++ Rows.refinesFairSpec.plain.varTypes Tryz.prog).any (Tryz.prog.mapsRec ·))) = true := by kernel_rfl
theorem refinesFair_k14 : ((Rows.refinesFairRow.ifaces == (Tryz.f6.params.toList ++ Rows.refinesFairSpec.plain.varTypes Tryz.prog).any (Tryz.prog.ifacesRec ·))) = true := by kernel_rfl
theorem refinesFair_k15 : ((Rows.refinesFairRow.mapsOut == Tryz.prog.mapsAmong Tryz.f6.resultTypes.toList)) = true := by kernel_rfl
theorem refinesFair_k16 : ((Rows.refinesFairRow.loops == (Tryz.f6.params.toList ++ Rows.refinesFairSpec.plain.varTypes Tryz.prog).any (Tryz.prog.loopsFrom ·))) = true := by kernel_rfl
theorem refinesFair_k17 : ((Rows.refinesFairRow.wideKeys == (Tryz.f6.params.toList ++ Rows.refinesFairSpec.plain.varTypes Tryz.prog ++ Tryz.f6.resultTypes.toList).any (Tryz.prog.wideKeysFrom ·))) = true := by kernel_rfl
theorem refinesFair_k18 : (Rows.refinesFairSpec.vars.all (Tryz.prog.varReadable ·)) = true := by kernel_rfl
theorem refinesFair_k19 : (Tryz.f6.resultTypes.all (fun t => Tryz.prog.readableRec t && decide (t < Tryz.prog.types.size))) = true := by kernel_rfl
theorem refinesFair_k20 : ((Rows.refinesFairRow.ifacesOut == Tryz.f6.resultTypes.toList.any (Tryz.prog.ifacesRec ·))) = true := by kernel_rfl
theorem refinesFair_k21 : ((Rows.refinesFairRow.loopsOut == Tryz.f6.resultTypes.toList.any (Tryz.prog.loopsFrom ·))) = true := by kernel_rfl
theorem refinesFair_k22 : ((Rows.refinesFairRow.plainKeys == Tryz.prog.plainKeys)) = true := by kernel_rfl
theorem refinesFair_k23 : (Rows.refinesFairRow.shortTexts.isNone) = true := by kernel_rfl
theorem refinesFair_k24 : (Tryz.prog.stopsHeard) = true := by kernel_rfl
theorem refinesFair_k25 : (Tryz.prog.mayEnter) = true := by kernel_rfl
theorem refinesFair_k26 : ((Rows.refinesFairRow.lifted == Tryz.prog.liftsFinal)) = true := by kernel_rfl
theorem refinesFair_k27 : ((Tryz.prog.make == some Rows.refinesFairRow.make)) = true := by kernel_rfl
theorem refinesFair_k28 : ((Rows.refinesFairRow.kinds == (if Rows.refinesFairRow.domain.isEmpty then [] else Tryz.f6.params.toList.map fun t => match Tryz.prog.underlying t with | some (.int k) => some k | _ => none))) = true := by kernel_rfl
theorem refinesFair_k29 : ((Rows.refinesFairRow.pinned == Rows.refinesFairRow.pinnedBy)) = true := by kernel_rfl
theorem refinesFair_k30 : ((Rows.refinesFairRow.veiled == (Tryz.f6.params.toList ++ Rows.refinesFairSpec.plain.varTypes Tryz.prog ++ Tryz.f6.resultTypes.toList).any (Tryz.prog.veiledRec ·))) = true := by kernel_rfl
theorem refinesFair_k31 : (Rows.refinesFairRow.veiledFits Tryz.prog Tryz.f6.params.toList (Tryz.f6.params.toList ++ Rows.refinesFairSpec.plain.varTypes Tryz.prog ++ Tryz.f6.resultTypes.toList)) = true := by kernel_rfl
theorem refinesFair_kn : Tryz.pinned.checked.prog.funcNamed Rows.refinesFairRow.func = some 6 := by kernel_rfl
theorem refinesFair_closed : joinedFacts Tryz.pinned.checked.prog 6 Tryz.f6 Rows.refinesFairSpec Rows.refinesFairRow = true := refinesFair_joined (P := Tryz.prog) (f := 6) (fn := Tryz.f6) (s := Rows.refinesFairSpec) (c := Rows.refinesFairRow) refinesFair_k0 refinesFair_k1 refinesFair_k2 refinesFair_k3 refinesFair_k4 refinesFair_k5 refinesFair_k6 refinesFair_k7 refinesFair_k8 refinesFair_k9 refinesFair_k10 refinesFair_k11 refinesFair_k12 refinesFair_k13 refinesFair_k14 refinesFair_k15 refinesFair_k16 refinesFair_k17 refinesFair_k18 refinesFair_k19 refinesFair_k20 refinesFair_k21 refinesFair_k22 refinesFair_k23 refinesFair_k24 refinesFair_k25 refinesFair_k26 refinesFair_k27 refinesFair_k28 refinesFair_k29 refinesFair_k30 refinesFair_k31
theorem refinesFair_over : Rows.refinesFairRow.holds Tryz.pinned (OpenSpec.ofChange Rows.refinesFairSpec) :=
  OpenClaim.holds_of_wide 6 Tryz.f6 rfl rfl rfl rfl rfl rfl rfl ⟨rfl, rfl, rfl, rfl, rfl⟩ rfl rfl rfl rfl rfl refinesFair_kn Tryz.func6 refinesFair_closed
    (of_decide_eq_true (by kernel_rfl)) (by unfold Func.isWrapper; first | (rw [if_pos (by decide +kernel)]; kernel_rfl) | (rw [if_neg (by decide +kernel)]; exact ⟨rfl, rfl⟩))
    (fun os started H enc _ => refinesFair_lifted os started H enc)

/-- THE STATEMENT -/
theorem refinesFairProved : Rows.RefinesFairSaid := refinesFair_over
end Go.Proofs.Qxb6500424aGreat
