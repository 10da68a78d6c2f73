/-
  ip: the model's Input: the last stretch.
-/
import Derived.Test.Qxb6500425aIpU
set_option linter.unusedVariables false
set_option linter.unusedSimpArgs false
open Go.Vc
namespace Go.Proofs.Qxb6500425a

/-! ### plain -/
theorem nextRow_tot {r : AR} {v : List Int} (h : PreRow r) (h8 : 8 ≤ v.length) (hn : 1 ≤ v.length - 8) (ho : offV v + (v.length - 8) ≤ 40) (hb : rowBad r (offV v + (v.length - 8)) (moreV v) = false) :
    (nextRow r v).total = -1 ∨ (1 ≤ (nextRow r v).total ∧ (nextRow r v).total ≤ 40 ∧ ∀ k, (nextRow r v).total.toNat ≤ k → k < 40 → hd (nextRow r v).cell k < 0) := by
  have hdl : (v.drop 8).length = v.length - 8 := by simp
  have hcell : ∀ k, k < 40 → hd (nextRow r v).cell k = if offV v ≤ k ∧ k < offV v + (v.length - 8) then (v.drop 8).getD (k - offV v) 0 else hd r.cell k := fun k hk => by
    have := layC_get (c := r.cell) (d := v.drop 8) (off := offV v) hk
    rw [hdl] at this
    exact this
  unfold rowBad at hb
  by_cases hm : moreV v = true
  · have et : (nextRow r v).total = r.total := by simp [nextRow, hm]
    rw [et]
    rcases h.tot with q | ⟨a, b, c⟩
    · exact .inl q
    · refine .inr ⟨a, b, fun k hk hk40 => ?_⟩
      rw [if_pos hm, decide_eq_true (by omega), Bool.true_and] at hb
      have hge : ¬ r.total < ((offV v + (v.length - 8) : Nat) : Int) := by simpa using hb
      rw [hcell k hk40, if_neg (by omega)]
      exact c k hk hk40
  · have hm' : moreV v = false := by simpa using hm
    have et : (nextRow r v).total = ((offV v + (v.length - 8) : Nat) : Int) := by simp [nextRow, hm']
    rw [et]
    refine .inr ⟨by omega, by omega, fun k hk hk40 => ?_⟩
    rw [if_neg hm] at hb
    have hany := (Bool.or_eq_false_iff.1 hb).2
    rw [hcell k hk40, if_neg (by omega)]
    have := List.any_eq_false.1 hany k (List.mem_range.2 hk40)
    simp only [Bool.and_eq_true, decide_eq_true_eq, not_and] at this
    have := this (by omega)
    omega
theorem cntH_all {c : List Int} : ∀ {n : Nat}, cntH c n = n → ∀ k, k < n → 0 ≤ hd c k
  | 0, _, k, hk => by omega
  | n + 1, h, k, hk => by
    have h1 := cntH_le c n
    simp only [cntH] at h
    by_cases h0 : 0 ≤ hd c n
    · rw [if_pos h0] at h
      by_cases e : k = n
      · subst e; exact h0
      · exact cntH_all (n := n) (by omega) k (by omega)
    · rw [if_neg h0] at h
      omega
theorem cntH_full {c : List Int} : ∀ {n : Nat}, (∀ k, k < n → 0 ≤ hd c k) → cntH c n = n
  | 0, _ => rfl
  | n + 1, h => by
    simp only [cntH]
    rw [cntH_full (n := n) (fun k hk => h k (by omega)), if_pos (h n (by omega))]
    omega
theorem cntH_above {c : List Int} {t : Nat} : ∀ {n : Nat}, t ≤ n → (∀ k, t ≤ k → k < n → hd c k < 0) → cntH c n = cntH c t
  | 0, h, _ => by rw [show t = 0 by omega]
  | n + 1, h, ha => by
    by_cases e : t = n + 1
    · rw [e]
    · simp only [cntH]
      rw [if_neg (by have := ha n (by omega) (by omega); omega), cntH_above (n := n) (by omega) (fun k h1 h2 => ha k h1 (by omega))]
      omega
/-- The model's measure of a full row. -/
theorem full_cnt {r : AR} (h : 1 ≤ r.total ∧ r.total ≤ 40 ∧ ∀ k, r.total.toNat ≤ k → k < 40 → hd r.cell k < 0) : decide (cntH r.cell 40 < r.total) = !rowFull r := by
  obtain ⟨h1, h2, h3⟩ := h
  have e := cntH_above (c := r.cell) (t := r.total.toNat) (n := 40) (by omega) h3
  have hle := cntH_le r.cell r.total.toNat
  unfold rowFull
  rw [decide_eq_true (show 0 ≤ r.total by omega), Bool.true_and, e]
  by_cases hall : ∀ k, k < r.total.toNat → 0 ≤ hd r.cell k
  · rw [cntH_full hall, decide_eq_false (by omega)]
    have : ((List.range r.total.toNat).all fun k => decide (0 ≤ hd r.cell k)) = true := by
      rw [List.all_eq_true]
      intro k hk
      exact decide_eq_true (hall k (List.mem_range.1 hk))
    rw [this]
    rfl
  · have hlt : cntH r.cell r.total.toNat < r.total := by
      rcases Int.lt_or_eq_of_le hle.2 with q | q
      · omega
      · exact absurd (cntH_all q) hall
    rw [decide_eq_true hlt]
    have : ((List.range r.total.toNat).all fun k => decide (0 ≤ hd r.cell k)) = false := by
      rw [List.all_eq_false]
      obtain ⟨k, hk⟩ := Classical.not_forall.1 hall
      obtain ⟨hk1, hk2⟩ := Classical.not_imp.1 hk
      exact ⟨k, List.mem_range.2 hk1, by simpa using hk2⟩
    rw [this]
    rfl
/-- The cells with the first k bytes laid. -/
def layP (c : List Int) (off : Nat) (d : List Int) (k : Nat) : List Int := (List.range 40).map fun t => if off ≤ t ∧ t < off + k then d.getD (t - off) 0 else hd c t
theorem layP_zero {c : List Int} {off : Nat} {d : List Int} (h : c.length = 40) : layP c off d 0 = c := by
  apply List.ext_getElem?
  intro t
  unfold layP
  by_cases ht : t < 40
  · rw [List.getElem?_map, List.getElem?_range ht, Option.map_some, if_neg (by omega)]
    have : c[t]? = some c[t] := List.getElem?_eq_getElem (by omega)
    simp [hd, List.getD, this]
  · rw [List.getElem?_eq_none (by simp; omega), List.getElem?_eq_none (by omega)]
theorem layP_step {c : List Int} {off k : Nat} {d : List Int} {x : Int} (hx : d[k]? = some x) (h : off + k < 40) : (layP c off d k).set (off + k) x = layP c off d (k + 1) := by
  apply List.ext_getElem?
  intro t
  unfold layP
  rw [List.getElem?_set]
  by_cases ht : t < 40
  · rw [List.getElem?_map, List.getElem?_map, List.getElem?_range ht, Option.map_some, Option.map_some]
    by_cases e : off + k = t
    · subst e
      rw [if_pos rfl, if_pos (by simp; omega), if_pos (by omega), show off + k - off = k by omega, getD_of hx]
    · rw [if_neg e]
      by_cases h1 : off ≤ t ∧ t < off + k
      · rw [if_pos h1, if_pos (by omega)]
      · rw [if_neg h1, if_neg (by omega)]
  · rw [if_neg (by omega), List.getElem?_eq_none (by simp; omega), List.getElem?_eq_none (by simp; omega)]
theorem layP_len (c : List Int) (off : Nat) (d : List Int) (k : Nat) : (layP c off d k).length = 40 := by simp [layP]
theorem set_self {α : Type} {L : List α} {i : Nat} {a : α} (h : L[i]? = some a) : L.set i a = L := by
  apply List.ext_getElem?
  intro t
  rw [List.getElem?_set]
  by_cases e : i = t
  · subst e
    rw [if_pos rfl, if_pos (List.getElem?_eq_some_iff.1 h).1, h]
  · rw [if_neg e]
theorem set_set_same {α : Type} (L : List α) (i : Nat) (a b : α) : (L.set i a).set i b = L.set i b := List.set_set ..
theorem erase_set {α : Type} {L : List α} {i : Nat} {a : α} : (L.set i a).eraseIdx i = L.eraseIdx i := by
  rw [List.eraseIdx_eq_take_drop_succ, List.eraseIdx_eq_take_drop_succ]
  congr 1
  · rw [List.take_set_of_le (Nat.le_refl _)]
  · rw [List.drop_set_of_lt (by omega)]

/-- A cell of an entry's row stored. -/
theorem ModAt.stC {w : World} {q : Nat} {M : MS} {e : ME} {j o : Nat} {x : Int} {K : World → Prop} (h : ModAt w q M) (hi : M.L[j]? = some e) (ho : o < 40)
    (hK : ∀ w', w'.heap.size = w.heap.size → ModAt w' q { M with L := M.L.set j { e with cell := e.cell.set o x } } → Ext [e.blk] w w' → K w') : Sts [.int .i64 x] ⟨e.blk, o, none⟩ 0 w K := by
  have hw := h.get hi
  have hl := hw.len
  have hlt := (List.getElem?_eq_some_iff.1 hi).1
  refine Sts.mk hw.own (by simp [i64L]; omega) rfl fun w' hs ho' he => hK w' hs ⟨?_, ?_, fun y hy => ?_, ?_⟩ he
  · have := he.own h.own (by have := Own.ne_type h.own hw.own (by decide); simpa using this)
    simpa using this
  · show Row w' M.tb (M.L.set j _).length M.tc 6 85 (tabV (M.L.set j _))
    rw [List.length_set]
    have e1 : tabV (M.L.set j { e with cell := e.cell.set o x }) = tabV M.L := by
      unfold tabV
      rw [← flat_set1 (n := 6) (j := 0) (v := .int .i64 e.src) ME.vals_len hi (by omega) (by rfl)]
      rw [flat_set1 (n := 6) (j := 0) (a' := e) (v := .int .i64 e.src) ME.vals_len hi (by omega) (by rfl)]
      rw [set_self hi]
    rw [e1]
    refine h.row.ext he (fun k hk => ?_)
    obtain ⟨cs, hoo⟩ := rowTy h.row hk
    have := Own.ne_type hoo hw.own (by decide)
    simpa using this
  · obtain ⟨t, ht⟩ := List.getElem?_of_mem hy
    have ht' : (M.L.set j { e with cell := e.cell.set o x })[t]? = some y := ht
    rw [List.getElem?_set] at ht'
    by_cases et : j = t
    · subst et
      rw [if_pos rfl, if_pos hlt] at ht'
      simp only [Option.some.injEq] at ht'
      subst ht'
      refine ⟨?_, by simp [hl], hw.src, hw.proto, hw.id⟩
      have e2 : putArr (i64L e.cell).toArray o [.int .i64 x] = (i64L (e.cell.set o x)).toArray := by
        apply Array.ext_getElem?
        intro t
        rw [getElem?_putArr _ _ _ _ (by simp [i64L]; omega)]
        simp only [List.length_cons, List.length_nil, Nat.zero_add, List.getElem?_toArray, i64L, List.getElem?_map, List.getElem?_set]
        by_cases et : o = t
        · subst et
          rw [if_pos (by omega), if_pos rfl, if_pos (by omega)]
          simp
        · rw [if_neg (by omega), if_neg et]
      rw [e2] at ho'
      exact ho'
    · rw [if_neg et] at ht'
      refine (h.get ht').ext he ?_
      have hlt2 := (List.getElem?_eq_some_iff.1 ht').1
      have := List.pairwise_iff_getElem.1 h.ne
      simp only [List.mem_cons, List.not_mem_nil, or_false]
      rcases Nat.lt_or_ge j t with q1 | q1
      · have h3 := this j t hlt hlt2 q1
        rw [(List.getElem?_eq_some_iff.1 hi).2, (List.getElem?_eq_some_iff.1 ht').2] at h3
        exact fun e => h3 e.symm
      · have h3 := this t j hlt2 hlt (by omega)
        rw [(List.getElem?_eq_some_iff.1 hi).2, (List.getElem?_eq_some_iff.1 ht').2] at h3
        exact h3
  · have hmap : (M.L.set j { e with cell := e.cell.set o x }).map ME.blk = M.L.map ME.blk := by
      apply List.ext_getElem?
      intro t
      rw [List.getElem?_map, List.getElem?_map, List.getElem?_set]
      by_cases et : j = t
      · subst et
        rw [if_pos rfl, if_pos hlt, hi]
        rfl
      · rw [if_neg et]
    have h1 : (M.L.map ME.blk).Pairwise (· ≠ ·) := List.pairwise_map.2 h.ne
    rw [← hmap] at h1
    exact List.pairwise_map.1 h1
end Go.Proofs.Qxb6500425a
