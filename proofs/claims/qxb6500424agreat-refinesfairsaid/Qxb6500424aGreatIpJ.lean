/-
  ip: New, the numbers, Tick.
-/
import Derived.Test.Qxb6500424aGreatIpI
set_option linter.unusedVariables false
set_option linter.unusedSimpArgs false
open Go.Vc
namespace Go.Proofs.Qxb6500424aGreat.Ip

/-! ### Tick: on the rows -/
def tickA (A : List AR) : List AR := (A.map fun x => { x with left := x.left - 1 }).filter fun x => decide (0 < x.left)
def tickS (s : Slot) : Slot := if s.used = true then { s with left := s.left - 1, used := decide (0 < s.left - 1) } else s
theorem tick_one (s : Slot) : tickA (one s) = one (tickS s) := by
  by_cases hu : s.used = true
  · have e1 : one s = [s.abs] := by unfold one; rw [if_pos hu]
    have e2 : tickS s = { s with left := s.left - 1, used := decide (0 < s.left - 1) } := by unfold tickS; rw [if_pos hu]
    rw [e1, e2]
    unfold tickA one
    by_cases hl : 0 < s.left - 1
    · rw [if_pos (decide_eq_true hl)]
      simp only [List.map_cons, List.map_nil]
      rw [List.filter_cons_of_pos (by exact decide_eq_true hl)]
      rfl
    · rw [if_neg (by simpa using hl)]
      simp only [List.map_cons, List.map_nil]
      rw [List.filter_cons_of_neg (by simpa [Slot.abs] using hl)]
      rfl
  · have e1 : one s = [] := by unfold one; rw [if_neg hu]
    have e2 : tickS s = s := by unfold tickS; rw [if_neg hu]
    rw [e2, e1]
    rfl
theorem tickA_append (A B : List AR) : tickA (A ++ B) = tickA A ++ tickA B := by simp [tickA]
def tickAll (S : IPS) : IPS := { S with credit := 24, sl := fun i => if i < 3 then tickS (S.sl i) else S.sl i }
theorem tab_tick (S : IPS) : tab (tickAll S) = tickA (tab S) := by
  unfold tab
  rw [tickA_append, tickA_append, tick_one, tick_one, tick_one]
  rfl
theorem tickA_wf {A : List AR} (h : ∀ r ∈ A, RowWf r) : ∀ r ∈ tickA A, RowWf r := by
  intro r hr
  simp only [tickA, List.mem_filter, List.mem_map, decide_eq_true_eq] at hr
  obtain ⟨⟨x, hx, rfl⟩, hpos⟩ := hr
  have hw := h x hx
  have hl := hw.left
  exact ⟨hw.key, by show 1 ≤ x.left - 1 ∧ x.left - 1 ≤ 4; simp only at hpos; omega, hw.len, hw.cell, hw.some, hw.tot⟩
theorem tickS_wf {s : Slot} (h : SlotWf s) : SlotWf (tickS s) := by
  unfold tickS
  split
  · exact ⟨h.held, h.buf⟩
  · exact h
theorem tickS_used {s : Slot} (h : (tickS s).used = true) : s.used = true ∧ (tickS s).key = s.key := by
  unfold tickS at h ⊢
  split at h
  · rename_i hu
    rw [if_pos hu]
    exact ⟨hu, rfl⟩
  · rename_i hu
    exact absurd h hu
theorem Rel.tick {A : List AR} {S : IPS} (h : Rel A S) : Rel (tickA A) (tickAll S) := by
  have hsl : ∀ i, i < 3 → (tickAll S).sl i = tickS (S.sl i) := fun i hi => by simp [tickAll, hi]
  refine ⟨?_, ?_, ?_, fun i hi => by rw [hsl i hi]; exact tickS_wf (h.swf i hi), tickA_wf h.rwf⟩
  · rw [tab_tick]
    exact (h.perm.map _).filter _
  · exact filter_sorted (map_sorted h.sorted fun x _ => rfl)
  · intro i j hi hj hij ui uj
    rw [hsl i hi] at ui ⊢
    rw [hsl j hj] at uj ⊢
    obtain ⟨a1, a2⟩ := tickS_used ui
    obtain ⟨b1, b2⟩ := tickS_used uj
    rw [a2, b2]
    exact h.kne i j hi hj hij a1 b1
end Go.Proofs.Qxb6500424aGreat.Ip
