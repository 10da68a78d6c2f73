/-
  ip: the real layer's Input answers 'inF'.
-/
import Derived.Test.Qxb6500424aGreatIpF
set_option linter.unusedVariables false
set_option linter.unusedSimpArgs false
open Go.Vc
namespace Go.Proofs.Qxb6500424aGreat.Ip

theorem layC_get {c d : List Int} {off k : Nat} (hk : k < 40) : hd (layC c off d) k = if off ≤ k ∧ k < off + d.length then d.getD (k - off) 0 else hd c k := by
  unfold layC
  simp [hd, List.getD, hk]
/-- What a row must bear before a fragment comes to it. -/
structure PreRow (r : AR) : Prop where
  key : 0 ≤ r.key ∧ r.key < 16777216
  left : 1 ≤ r.left ∧ r.left ≤ 4
  len : r.cell.length = 40
  cell : ∀ x ∈ r.cell, -1 ≤ x ∧ x < 256
  tot : r.total = -1 ∨ (1 ≤ r.total ∧ r.total ≤ 40 ∧ ∀ k, r.total.toNat ≤ k → k < 40 → hd r.cell k < 0)
theorem RowWf.pre {r : AR} (h : RowWf r) : PreRow r := ⟨h.key, h.left, h.len, h.cell, by
  rcases h.tot with q | ⟨a, b, c, _⟩
  · exact .inl q
  · exact .inr ⟨a, b, c⟩⟩
theorem fresh_pre {key : Int} (h : 0 ≤ key ∧ key < 16777216) : PreRow (freshRow key) := ⟨h, by simp [freshRow], by simp [freshRow], fun x hx => by simp [freshRow] at hx; omega, .inl rfl⟩
theorem nextRow_wf {r : AR} {v : List Int} (h : PreRow r) (hv : IsB v) (h8 : 8 ≤ v.length) (hn : 1 ≤ v.length - 8) (ho : offV v + (v.length - 8) ≤ 40) (hb : rowBad r (offV v + (v.length - 8)) (moreV v) = false) (hf : rowFull (nextRow r v) = false) : RowWf (nextRow r v) := by
  have hdl : (v.drop 8).length = v.length - 8 := by simp
  have hdb : IsB (v.drop 8) := hv.drop 8
  have hcell : ∀ k, k < 40 → hd (nextRow r v).cell k = if offV v ≤ k ∧ k < offV v + (v.length - 8) then (v.drop 8).getD (k - offV v) 0 else hd r.cell k := fun k hk => by
    have := layC_get (c := r.cell) (d := v.drop 8) (off := offV v) hk
    rw [hdl] at this
    exact this
  refine ⟨h.key, h.left, by simp [nextRow, layC], fun x hx => ?_, ⟨offV v, by omega, ?_⟩, ?_⟩
  · simp only [nextRow, layC, List.mem_map, List.mem_range] at hx
    obtain ⟨k, hk, rfl⟩ := hx
    split
    · rename_i h1
      obtain ⟨y, hy⟩ : ∃ y, (v.drop 8)[k - offV v]? = some y := ⟨_, List.getElem?_eq_getElem (by rw [hdl]; rw [hdl] at h1; omega)⟩
      rw [getD_of hy]
      have := hdb.get hy
      omega
    · obtain ⟨y, hy⟩ : ∃ y, r.cell[k]? = some y := ⟨_, List.getElem?_eq_getElem (by rw [h.len]; exact hk)⟩
      rw [hd, getD_of hy]
      exact h.cell y (List.mem_of_getElem? hy)
  · rw [hcell _ (by omega), if_pos (by omega)]
    obtain ⟨y, hy⟩ : ∃ y, (v.drop 8)[offV v - offV v]? = some y := ⟨_, List.getElem?_eq_getElem (by rw [hdl]; omega)⟩
    rw [getD_of hy]
    exact (hdb.get hy).1
  · unfold rowBad at hb
    by_cases hm : moreV v = true
    · have et : (nextRow r v).total = r.total := by simp [nextRow, hm]
      rw [et]
      rcases h.tot with q | ⟨a, b, c⟩
      · exact .inl q
      · refine .inr ⟨a, b, fun k hk hk40 => ?_, hf⟩
        rw [if_pos hm, decide_eq_true (by omega), Bool.true_and] at hb
        have hge : ¬ r.total < ((offV v + (v.length - 8) : Nat) : Int) := by simpa using hb
        rw [hcell k hk40, if_neg (by omega)]
        exact c k hk hk40
    · have hm' : moreV v = false := by simpa using hm
      have et : (nextRow r v).total = ((offV v + (v.length - 8) : Nat) : Int) := by simp [nextRow, hm']
      rw [et]
      refine .inr ⟨by omega, by omega, fun k hk hk40 => ?_, hf⟩
      rw [if_neg hm] at hb
      have hany := (Bool.or_eq_false_iff.1 hb).2
      rw [hcell k hk40, if_neg (by omega)]
      have := List.any_eq_false.1 hany k (List.mem_range.2 hk40)
      simp only [Bool.and_eq_true, decide_eq_true_eq, not_and] at this
      have := this (by omega)
      omega
end Go.Proofs.Qxb6500424aGreat.Ip
