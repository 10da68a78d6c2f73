/-
  No cell of these rows narrows 'for every input' (looked for: loops, veiled, ifaces, maps, wideKeys, modest, calm, conditions, laid).
  DERIVED. THE GIVEN ROWS OF THIS SEAT. 4 by the template 'for every input the law returns true; each argument reads behind the call as it read before'; 0 by the template 'total and deterministic' (their statements: Qxb6500429aTotals.lean).
  GIVEN WITH THE SEED: the statements are not yours to turn. If you find one false, say at which input.
  Laid BY PROGRAM, IN A SANDBOX (cutbox-rows.mjs): the forced cells as the released guide's own fill.sh prints them over the translation e5e067adc9b5beb9… (all of the seat's roots in one cut). By AI agents, Wed Nov 11 2026. No macro, syntax, notation, axiom, sorry.
-/
import Derived.Test.Qxb6500429aChecked
import GoSem.Claim
import GoSem.ClaimJoined
import GoSem.ClaimMapViews
import Derived.JoinedTies
import Derived.KernelRfl
namespace Go.Proofs.Qxb6500429a
/- THE CELL 'sum', in the pinned program and in every row, IS THE sha256 OF THE DUMP (.gsa) THAT Qxb6500429aProg.lean LOADS. Nothing in Lean hashes anything: it is a label: what it is worth is what the hold of that sum in a sandbox is worth. -/
noncomputable def Try.pinned : Pinned := { name := "qxb6500429a", sum := "e5e067adc9b5beb961c2b9bd1f547196dbe823686d67657501b0c636aea3ba3a", checked := Try.checked }
namespace Rows
def none {H : Type} : Left H := { results := [], args := [] }

/-- 'kvlaw.Refines': WHATEVER THE INPUT: true; the input reads as it did. -/
def refinesSpec : ChangeSpec := { name := "refines", fn := fun _ => fun
  | [d] => { results := [.lit (.bool true)], args := [d] }
  | _ => none }
def refinesRow : OpenClaim := { program := "qxb6500429a", sum := "e5e067adc9b5beb961c2b9bd1f547196dbe823686d67657501b0c636aea3ba3a", func := "e2e/kvlaw.Refines", spec := "refines", apart := false }
def RefinesSaid : Prop := refinesRow.holds Try.pinned (OpenSpec.ofChange refinesSpec)

/-- ITS FALSE NEIGHBOUR: 'it returns false'. Refute it at one input. -/
def refinesWrong : ChangeSpec := { name := "refines", fn := fun _ => fun
  | [d] => { results := [.lit (.bool false)], args := [d] }
  | _ => none }
def RefinesWrongFalsely : Prop := refinesRow.holds Try.pinned (OpenSpec.ofChange refinesWrong)

/-- 'kvlaw.RefinesSteady': WHATEVER THE INPUT: true; the input reads as it did. -/
def refinesSteadySpec : ChangeSpec := { name := "refinesSteady", fn := fun _ => fun
  | [d] => { results := [.lit (.bool true)], args := [d] }
  | _ => none }
def refinesSteadyRow : OpenClaim := { program := "qxb6500429a", sum := "e5e067adc9b5beb961c2b9bd1f547196dbe823686d67657501b0c636aea3ba3a", func := "e2e/kvlaw.RefinesSteady", spec := "refinesSteady", apart := false }
def RefinesSteadySaid : Prop := refinesSteadyRow.holds Try.pinned (OpenSpec.ofChange refinesSteadySpec)

/-- ITS FALSE NEIGHBOUR: 'it returns false'. Refute it at one input. -/
def refinesSteadyWrong : ChangeSpec := { name := "refinesSteady", fn := fun _ => fun
  | [d] => { results := [.lit (.bool false)], args := [d] }
  | _ => none }
def RefinesSteadyWrongFalsely : Prop := refinesSteadyRow.holds Try.pinned (OpenSpec.ofChange refinesSteadyWrong)

/-- 'kvlaw.RefinesQuiet': WHATEVER THE INPUT: true; the input reads as it did. -/
def refinesQuietSpec : ChangeSpec := { name := "refinesQuiet", fn := fun _ => fun
  | [d] => { results := [.lit (.bool true)], args := [d] }
  | _ => none }
def refinesQuietRow : OpenClaim := { program := "qxb6500429a", sum := "e5e067adc9b5beb961c2b9bd1f547196dbe823686d67657501b0c636aea3ba3a", func := "e2e/kvlaw.RefinesQuiet", spec := "refinesQuiet", apart := false }
def RefinesQuietSaid : Prop := refinesQuietRow.holds Try.pinned (OpenSpec.ofChange refinesQuietSpec)

/-- ITS FALSE NEIGHBOUR: 'it returns false'. Refute it at one input. -/
def refinesQuietWrong : ChangeSpec := { name := "refinesQuiet", fn := fun _ => fun
  | [d] => { results := [.lit (.bool false)], args := [d] }
  | _ => none }
def RefinesQuietWrongFalsely : Prop := refinesQuietRow.holds Try.pinned (OpenSpec.ofChange refinesQuietWrong)

/-- 'kvlaw.Lemmas': WHATEVER THE INPUT: true; the input reads as it did. -/
def lemmasSpec : ChangeSpec := { name := "lemmas", fn := fun _ => fun
  | [d] => { results := [.lit (.bool true)], args := [d] }
  | _ => none }
def lemmasRow : OpenClaim := { program := "qxb6500429a", sum := "e5e067adc9b5beb961c2b9bd1f547196dbe823686d67657501b0c636aea3ba3a", func := "e2e/kvlaw.Lemmas", spec := "lemmas", apart := false }
def LemmasSaid : Prop := lemmasRow.holds Try.pinned (OpenSpec.ofChange lemmasSpec)

/-- ITS FALSE NEIGHBOUR: 'it returns false'. Refute it at one input. -/
def lemmasWrong : ChangeSpec := { name := "lemmas", fn := fun _ => fun
  | [d] => { results := [.lit (.bool false)], args := [d] }
  | _ => none }
def LemmasWrongFalsely : Prop := lemmasRow.holds Try.pinned (OpenSpec.ofChange lemmasWrong)

end Rows
end Go.Proofs.Qxb6500429a
