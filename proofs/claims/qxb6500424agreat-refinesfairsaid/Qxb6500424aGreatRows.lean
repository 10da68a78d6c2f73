/-
  No cell of these rows narrows 'for every input' (looked for: loops, veiled, ifaces, maps, wideKeys, modest, calm, conditions, laid).
  DERIVED. THE GIVEN ROWS OF THIS SEAT. 5 by the template 'for every input the law returns true; each argument reads behind the call as it read before'; 0 by the template 'total and deterministic' (their statements: Qxb6500424aGreatTotals.lean).
  GIVEN WITH THE SEED: the statements are not yours to turn. If you find one false, say at which input.
  Laid BY PROGRAM, IN A SANDBOX (cutbox-rows.mjs): the forced cells as the released guide's own fill.sh prints them over the translation 40de54f4cb471978… (all of the seat's roots in one cut). By AI agents, Wed Nov 11 2026. No macro, syntax, notation, axiom, sorry.
-/
import Derived.Test.Qxb6500424aGreatChecked
import GoSem.Claim
import GoSem.ClaimJoined
import GoSem.ClaimMapViews
import Derived.JoinedTies
import Derived.KernelRfl
namespace Go.Proofs.Qxb6500424aGreat
/- THE CELL 'sum', in the pinned program and in every row, IS THE sha256 OF THE DUMP (.gsa) THAT Qxb6500424aGreatProg.lean LOADS. Nothing in Lean hashes anything: it is a label: what it is worth is what the hold of that sum in a sandbox is worth. -/
noncomputable def Tryz.pinned : Pinned := { name := "qxb6500424agreat", sum := "40de54f4cb47197833425c0a2a962a8e465bd4da7fd400b9a24518620764e7bb", checked := Tryz.checked }
namespace Rows
def none {H : Type} : Left H := { results := [], args := [] }

/-- 'hostlaw.Refines': WHATEVER THE INPUT: true; the input reads as it did. -/
def refinesSpec : ChangeSpec := { name := "refines", fn := fun _ => fun
  | [d] => { results := [.lit (.bool true)], args := [d] }
  | _ => none }
def refinesRow : OpenClaim := { program := "qxb6500424agreat", sum := "40de54f4cb47197833425c0a2a962a8e465bd4da7fd400b9a24518620764e7bb", func := "e2e/hostlaw.Refines", spec := "refines", apart := false }
def RefinesSaid : Prop := refinesRow.holds Tryz.pinned (OpenSpec.ofChange refinesSpec)

/-- ITS FALSE NEIGHBOUR: 'it returns false'. Refute it at one input. -/
def refinesWrong : ChangeSpec := { name := "refines", fn := fun _ => fun
  | [d] => { results := [.lit (.bool false)], args := [d] }
  | _ => none }
def RefinesWrongFalsely : Prop := refinesRow.holds Tryz.pinned (OpenSpec.ofChange refinesWrong)

/-- 'hostlaw.RefinesSteady': WHATEVER THE INPUT: true; the input reads as it did. -/
def refinesSteadySpec : ChangeSpec := { name := "refinesSteady", fn := fun _ => fun
  | [d] => { results := [.lit (.bool true)], args := [d] }
  | _ => none }
def refinesSteadyRow : OpenClaim := { program := "qxb6500424agreat", sum := "40de54f4cb47197833425c0a2a962a8e465bd4da7fd400b9a24518620764e7bb", func := "e2e/hostlaw.RefinesSteady", spec := "refinesSteady", apart := false }
def RefinesSteadySaid : Prop := refinesSteadyRow.holds Tryz.pinned (OpenSpec.ofChange refinesSteadySpec)

/-- ITS FALSE NEIGHBOUR: 'it returns false'. Refute it at one input. -/
def refinesSteadyWrong : ChangeSpec := { name := "refinesSteady", fn := fun _ => fun
  | [d] => { results := [.lit (.bool false)], args := [d] }
  | _ => none }
def RefinesSteadyWrongFalsely : Prop := refinesSteadyRow.holds Tryz.pinned (OpenSpec.ofChange refinesSteadyWrong)

/-- 'hostlaw.RefinesWork': WHATEVER THE INPUT: true; the input reads as it did. -/
def refinesWorkSpec : ChangeSpec := { name := "refinesWork", fn := fun _ => fun
  | [d] => { results := [.lit (.bool true)], args := [d] }
  | _ => none }
def refinesWorkRow : OpenClaim := { program := "qxb6500424agreat", sum := "40de54f4cb47197833425c0a2a962a8e465bd4da7fd400b9a24518620764e7bb", func := "e2e/hostlaw.RefinesWork", spec := "refinesWork", apart := false }
def RefinesWorkSaid : Prop := refinesWorkRow.holds Tryz.pinned (OpenSpec.ofChange refinesWorkSpec)

/-- ITS FALSE NEIGHBOUR: 'it returns false'. Refute it at one input. -/
def refinesWorkWrong : ChangeSpec := { name := "refinesWork", fn := fun _ => fun
  | [d] => { results := [.lit (.bool false)], args := [d] }
  | _ => none }
def RefinesWorkWrongFalsely : Prop := refinesWorkRow.holds Tryz.pinned (OpenSpec.ofChange refinesWorkWrong)

/-- 'hostlaw.RefinesFair': WHATEVER THE INPUT: true; the input reads as it did. -/
def refinesFairSpec : ChangeSpec := { name := "refinesFair", fn := fun _ => fun
  | [d] => { results := [.lit (.bool true)], args := [d] }
  | _ => none }
def refinesFairRow : OpenClaim := { program := "qxb6500424agreat", sum := "40de54f4cb47197833425c0a2a962a8e465bd4da7fd400b9a24518620764e7bb", func := "e2e/hostlaw.RefinesFair", spec := "refinesFair", apart := false }
def RefinesFairSaid : Prop := refinesFairRow.holds Tryz.pinned (OpenSpec.ofChange refinesFairSpec)

/-- ITS FALSE NEIGHBOUR: 'it returns false'. Refute it at one input. -/
def refinesFairWrong : ChangeSpec := { name := "refinesFair", fn := fun _ => fun
  | [d] => { results := [.lit (.bool false)], args := [d] }
  | _ => none }
def RefinesFairWrongFalsely : Prop := refinesFairRow.holds Tryz.pinned (OpenSpec.ofChange refinesFairWrong)

/-- 'hostlaw.RefinesQuiet': WHATEVER THE INPUT: true; the input reads as it did. -/
def refinesQuietSpec : ChangeSpec := { name := "refinesQuiet", fn := fun _ => fun
  | [d] => { results := [.lit (.bool true)], args := [d] }
  | _ => none }
def refinesQuietRow : OpenClaim := { program := "qxb6500424agreat", sum := "40de54f4cb47197833425c0a2a962a8e465bd4da7fd400b9a24518620764e7bb", func := "e2e/hostlaw.RefinesQuiet", spec := "refinesQuiet", apart := false }
def RefinesQuietSaid : Prop := refinesQuietRow.holds Tryz.pinned (OpenSpec.ofChange refinesQuietSpec)

/-- ITS FALSE NEIGHBOUR: 'it returns false'. Refute it at one input. -/
def refinesQuietWrong : ChangeSpec := { name := "refinesQuiet", fn := fun _ => fun
  | [d] => { results := [.lit (.bool false)], args := [d] }
  | _ => none }
def RefinesQuietWrongFalsely : Prop := refinesQuietRow.holds Tryz.pinned (OpenSpec.ofChange refinesQuietWrong)

end Rows
end Go.Proofs.Qxb6500424aGreat
