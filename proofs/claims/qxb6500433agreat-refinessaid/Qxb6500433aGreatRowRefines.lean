/-
  THE STATEMENT 'Rows.RefinesSaid'. The frame follows the guide's own shell for a law over a slice; the walk is 'refines_law'.
-/
import Derived.Test.Qxb6500433aGreatRows
import Derived.Test.Qxb6500433aGreatScript
import Derived.Test.Qxb6500433aGreatSyZ
import Derived.WalkKit
import Derived.ProofKit
import Derived.OpenShut
import Derived.ChangeOld
import Derived.Below
namespace Go.Proofs.Qxb6500433aGreat
open Go.Vc Go.ChangeShapes Go.WideShapes Go.ChangeAt Go.RowKit
set_option linter.unusedVariables false

theorem refines_own : ownKnob Tryz.prog.godebug = none := by kernel_rfl
theorem refines_laidOut : laidOutB Tryz.prog = true := by kernel_rfl

theorem refines_script {H : Type} {enc : TypeId × Value → H} {w : World} {base : Nat} {spare : Nat → Bool} {held : Bool} {fuel : Nat} {sb : Option Addr} {n c : Nat} {x : DataW H × List MemPlace}
    (h : DataW.trod enc Tryz.prog w base spare held fuel 22 [.slice sb n c] = some x) (hz : ∀ m ∈ x.1.weights Tryz.prog 22, m ≤ reachBytes) : ∃ ops, ScriptIs w sb n ops :=
  script_open Tryz.underlying22 Tryz.underlying48 (by kernel_rfl) rfl rfl rfl rfl rfl rfl rfl rfl rfl rfl rfl rfl
    Tryz.underlying3 Tryz.underlying3 Tryz.underlying3 Tryz.underlying3 Tryz.underlying9 Tryz.underlying9
    (by kernel_rfl) (by kernel_rfl) (by kernel_rfl) (by kernel_rfl) (by kernel_rfl) (by kernel_rfl) (of_decide_eq_true (by kernel_rfl)) h hz

theorem refines_walk {w : World} {sb : Option Addr} {n c : Nat} {ops : Nat → OpV} (hs : ScriptIs w sb n ops) :
    Calls Tryz.prog 3 #[.slice sb n c] w fun e w' => e = .returned (.bool true) ∧ Below w.heap.size w w' := by
  have h : synclaw_Refines.Call sb n c w fun r w' => r = true ∧ Below w.heap.size w w' :=
    refines_law hs fun w' he => ⟨rfl, he.below (Below.refl _ _) (fun x hx => by simp at hx)⟩
  unfold synclaw_Refines.Call at h
  refine h.mono fun e w' he => ?_
  obtain ⟨r, h1, h2, h3⟩ := he
  subst h2
  exact ⟨h1, h3⟩

set_option maxRecDepth 100000 in
theorem refines_lifted (os : Os) (started : os.Started) (H : Type) (enc : TypeId × Value → H) :
    ReturnsInHanded {} Tryz.checked os 3 .any (Rows.refinesSpec.pre6 enc Tryz.prog Tryz.f3 Rows.refinesRow.domain false) (Rows.refinesSpec.post enc Tryz.prog Tryz.f3 false true false false) := by
  refine returnsInHanded_of_change_sized (C := Tryz.checked) refines_own started (by kernel_rfl) Tryz.func3
    (ChangeSpec.witness6 (enc := enc) (C := Tryz.checked) false ⟨#[], #[.slice none 0 0], []⟩ 8 (by kernel_rfl) (by kernel_rfl) (by kernel_rfl) (by kernel_rfl)) ?_
  intro W base args ds gs before hval0 hW hcnd hsz0 _
  have hval : ∀ (j : Nat) t v, Tryz.f3.params[j]? = some t → args[j]? = some v → Value.okWide Tryz.prog W .any base t v := hval0
  have hW' := hW
  obtain ⟨p, q, hA0, hV, rfl, hfz, hnd⟩ := hW
  have hA : DataW.TrodAll enc Tryz.prog W 0 (fun _ => true) true Tryz.f3.params.toList args.toList ds p := hA0
  have hsz : (DataW.weightsEach Tryz.prog (Tryz.f3.params.toList ++ Rows.refinesSpec.plain.varTypes Tryz.prog) (ds ++ gs)).all (· ≤ reachBytes) = true := hsz0
  rw [Tryz.params3] at hA hval hsz
  obtain ⟨v0, vs0, d0, ds0, p0, q0, hargs, rfl, rfl, h0, r0⟩ := trodAll_cons hA
  obtain ⟨rfl, rfl, rfl⟩ := trodAll_nil r0
  obtain rfl : args = #[v0] := by cases args; simp_all
  obtain ⟨rfl, rfl⟩ := trodVars_none hV
  obtain ⟨a0, len0, cap0, rfl⟩ := okWide_slice Tryz.underlying22 (hval 0 22 v0 rfl rfl)
  have k0 := h0
  have lt0 : ∀ x ∈ p0, x.block < W.heap.size := by obtain ⟨m, hm⟩ := k0; exact DataW.trod_lt m _ _ _ hm
  obtain ⟨ops, w0⟩ : ∃ ops, ScriptIs W a0 len0 ops := by
    obtain ⟨fuel, hf⟩ := h0
    refine refines_script (by simpa [Value.cells] using hf) fun m hm => ?_
    have h1 := List.all_eq_true.1 hsz m (DataW.weights_mem_each (j := 0) (t := 22) rfl rfl m hm)
    simpa using h1
  clear hA0 hval0 hsz0
  refine (refines_walk w0).mono fun e W' ⟨he, bel⟩ => ?_
  subst he
  exact ⟨_, rfl, _, _, _, [], _, [], hW', trodAll_mk1 (shut_bool Tryz.underlying4 _), trodAll_cons_mk (Below.trod refines_laidOut (by kernel_rfl) (of_decide_eq_true (by kernel_rfl)) k0 bel lt0) trodAll_mk0, rfl, bel.frame _, fun h => by cases h⟩

theorem refines_over : Rows.refinesRow.holds Tryz.pinned (OpenSpec.ofChange Rows.refinesSpec) :=
  OpenClaim.holds_of_wide 3 Tryz.f3 rfl rfl rfl rfl rfl rfl rfl ⟨rfl, rfl, rfl, rfl, rfl⟩ rfl rfl rfl rfl rfl (by kernel_rfl) Tryz.func3 (by kernel_rfl)
    (of_decide_eq_true (by kernel_rfl)) (by unfold Func.isWrapper; first | (rw [if_pos (by decide +kernel)]; kernel_rfl) | (rw [if_neg (by decide +kernel)]; exact ⟨rfl, rfl⟩))
    (fun os started H enc _ => refines_lifted os started H enc)

/-- THE STATEMENT -/
theorem refinesProved : Rows.RefinesSaid := refines_over
end Go.Proofs.Qxb6500433aGreat
