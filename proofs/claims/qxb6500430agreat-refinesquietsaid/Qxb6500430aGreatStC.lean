/-
  store: what Open decodes behind each write, whole or torn.
-/
import Derived.Test.Qxb6500430aGreatStB
set_option linter.unusedVariables false
set_option linter.unusedSimpArgs false
open Go.Vc
namespace Go.Proofs.Qxb6500430aGreat

def oM (D : DiskS) : Nat := (1 - slotM D).toNat
def oH (D : DiskS) : Nat := (3 - slotH D).toNat
theorem oM_lt (D : DiskS) : oM D < 2 ∧ (oM D : Int) = 1 - slotM D := by
  unfold oM
  rcases slotM_01 D with e | e <;> rw [e] <;> simp
theorem oH_lt (D : DiskS) : 2 ≤ oH D ∧ oH D < 4 ∧ (oH D : Int) = 3 - slotH D := by
  unfold oH
  rcases slotH_01 D with e | e <;> rw [e] <;> simp
theorem pickM_true {D : DiskS} (h : pickM D = true) : slotM D = 0 ∧ oM D = 1 ∧ (decMeta (blk D 0)).ok = true ∧ curM D = decMeta (blk D 0) := by
  have hok : (decMeta (blk D 0)).ok = true := by
    unfold pickM at h
    exact (Bool.and_eq_true_iff.1 h).1
  have hs : slotM D = 0 := by unfold slotM; rw [if_pos h]
  have hr : rawM D = decMeta (blk D 0) := by unfold rawM; rw [if_pos h]
  refine ⟨hs, by unfold oM; rw [hs]; rfl, hok, ?_⟩
  unfold curM
  rw [hr, if_pos hok]
theorem pickM_false {D : DiskS} (h : pickM D = false) : slotM D = 1 ∧ oM D = 0 ∧ ((decMeta (blk D 1)).ok = true → curM D = decMeta (blk D 1)) := by
  have hs : slotM D = 1 := by unfold slotM; rw [if_neg (by simp [h])]
  have hr : rawM D = decMeta (blk D 1) := by unfold rawM; rw [if_neg (by simp [h])]
  refine ⟨hs, by unfold oM; rw [hs]; rfl, fun hok => ?_⟩
  unfold curM
  rw [hr, if_pos hok]
theorem meta_full {D : DiskS} {y : ByteArray} {term vote : Int} (hl : D.now.length = 14) (hy : decMeta y = ⟨true, (curM D).num + 1, term, vote⟩) :
    curM (D.put (oM D) y) = ⟨true, (curM D).num + 1, term, vote⟩ ∧ slotM (D.put (oM D) y) = (oM D : Int) ∧ ((decMeta (blk (D.put (oM D) y) (1 - oM D))).ok = true → (decMeta (blk (D.put (oM D) y) (1 - oM D))).num = (curM D).num) := by
  cases hp : pickM D with
  | true =>
    obtain ⟨h1, h2, h3, h4⟩ := pickM_true hp
    have b0 : blk (D.put (oM D) y) 0 = blk D 0 := by rw [blk_put hl (by omega), if_neg (by omega)]
    have b1 : blk (D.put (oM D) y) 1 = y := by rw [blk_put hl (by omega), if_pos (by omega)]
    have hp' : pickM (D.put (oM D) y) = false := by
      unfold pickM
      rw [b0, b1, hy, h3, ← h4]
      simp
      omega
    obtain ⟨q1, _, q3⟩ := pickM_false hp'
    rw [b1, hy] at q3
    refine ⟨q3 rfl, by rw [q1, h2]; rfl, fun _ => ?_⟩
    rw [h2, h2] at *
    rw [b0, ← h4]
  | false =>
    obtain ⟨h1, h2, h3⟩ := pickM_false hp
    have b0 : blk (D.put (oM D) y) 0 = y := by rw [blk_put hl (by omega), if_pos (by omega)]
    have b1 : blk (D.put (oM D) y) 1 = blk D 1 := by rw [blk_put hl (by omega), if_neg (by omega)]
    have hp' : pickM (D.put (oM D) y) = true := by
      unfold pickM
      rw [b0, b1, hy]
      cases hok : (decMeta (blk D 1)).ok with
      | false => simp
      | true =>
        rw [h3 hok]
        simp
        omega
    obtain ⟨q1, _, q3, q4⟩ := pickM_true hp'
    rw [b0, hy] at q4
    refine ⟨q4, by rw [q1, h2]; rfl, fun hok => ?_⟩
    rw [h2] at hok ⊢
    rw [h2] at b1
    rw [b1] at hok ⊢
    rw [h3 hok]
theorem meta_torn {D : DiskS} {y : ByteArray} (hl : D.now.length = 14) (hy : (decMeta y).ok = false) : curM (D.put (oM D) y) = curM D ∧ slotM (D.put (oM D) y) = slotM D ∧ (decMeta (blk (D.put (oM D) y) (oM D))).ok = false := by
  cases hp : pickM D with
  | true =>
    obtain ⟨h1, h2, h3, h4⟩ := pickM_true hp
    have b0 : blk (D.put (oM D) y) 0 = blk D 0 := by rw [blk_put hl (by omega), if_neg (by omega)]
    have b1 : blk (D.put (oM D) y) 1 = y := by rw [blk_put hl (by omega), if_pos (by omega)]
    have hp' : pickM (D.put (oM D) y) = true := by
      unfold pickM
      rw [b0, b1, hy, h3]
      rfl
    obtain ⟨q1, _, q3, q4⟩ := pickM_true hp'
    refine ⟨by rw [q4, b0, h4], by rw [q1, h1], ?_⟩
    rw [h2] at b1 ⊢
    rw [b1]
    exact hy
  | false =>
    obtain ⟨h1, h2, h3⟩ := pickM_false hp
    have b0 : blk (D.put (oM D) y) 0 = y := by rw [blk_put hl (by omega), if_pos (by omega)]
    have b1 : blk (D.put (oM D) y) 1 = blk D 1 := by rw [blk_put hl (by omega), if_neg (by omega)]
    have hp' : pickM (D.put (oM D) y) = false := by
      unfold pickM
      rw [b0, hy]
      rfl
    obtain ⟨q1, _, _⟩ := pickM_false hp'
    refine ⟨?_, by rw [q1, h1], ?_⟩
    · have e1 : rawM (D.put (oM D) y) = rawM D := by
        unfold rawM
        rw [if_neg (by simp [hp']), if_neg (by simp [hp]), b1]
      unfold curM
      rw [e1]
    · rw [h2] at b0 ⊢
      rw [b0]
      exact hy
theorem pickH_true {D : DiskS} (h : pickH D = true) : slotH D = 0 ∧ oH D = 3 ∧ (decHead (blk D 2)).ok = true ∧ curH D = decHead (blk D 2) := by
  have hok : (decHead (blk D 2)).ok = true := by
    unfold pickH at h
    exact (Bool.and_eq_true_iff.1 h).1
  have hs : slotH D = 0 := by unfold slotH; rw [if_pos h]
  have hr : rawH D = decHead (blk D 2) := by unfold rawH; rw [if_pos h]
  refine ⟨hs, by unfold oH; rw [hs]; rfl, hok, ?_⟩
  unfold curH
  rw [hr, if_pos hok]
theorem pickH_false {D : DiskS} (h : pickH D = false) : slotH D = 1 ∧ oH D = 2 ∧ ((decHead (blk D 3)).ok = true → curH D = decHead (blk D 3)) := by
  have hs : slotH D = 1 := by unfold slotH; rw [if_neg (by simp [h])]
  have hr : rawH D = decHead (blk D 3) := by unfold rawH; rw [if_neg (by simp [h])]
  refine ⟨hs, by unfold oH; rw [hs]; rfl, fun hok => ?_⟩
  unfold curH
  rw [hr, if_pos hok]
theorem head_full {D : DiskS} {y : ByteArray} {idx term area size : Int} (hl : D.now.length = 14) (hy : decHead y = ⟨true, (curH D).num + 1, idx, term, area, size⟩) :
    curH (D.put (oH D) y) = ⟨true, (curH D).num + 1, idx, term, area, size⟩ ∧ slotH (D.put (oH D) y) = (oH D : Int) - 2 ∧ ((decHead (blk (D.put (oH D) y) (5 - oH D))).ok = true → decHead (blk (D.put (oH D) y) (5 - oH D)) = curH D) := by
  cases hp : pickH D with
  | true =>
    obtain ⟨h1, h2, h3, h4⟩ := pickH_true hp
    have b0 : blk (D.put (oH D) y) 2 = blk D 2 := by rw [blk_put hl (by omega), if_neg (by omega)]
    have b1 : blk (D.put (oH D) y) 3 = y := by rw [blk_put hl (by omega), if_pos (by omega)]
    have hp' : pickH (D.put (oH D) y) = false := by
      unfold pickH
      rw [b0, b1, hy, h3, ← h4]
      simp
      omega
    obtain ⟨q1, _, q3⟩ := pickH_false hp'
    rw [b1, hy] at q3
    refine ⟨q3 rfl, by rw [q1, h2]; rfl, fun _ => ?_⟩
    rw [h2] at b0 ⊢
    rw [b0, ← h4]
  | false =>
    obtain ⟨h1, h2, h3⟩ := pickH_false hp
    have b0 : blk (D.put (oH D) y) 2 = y := by rw [blk_put hl (by omega), if_pos (by omega)]
    have b1 : blk (D.put (oH D) y) 3 = blk D 3 := by rw [blk_put hl (by omega), if_neg (by omega)]
    have hp' : pickH (D.put (oH D) y) = true := by
      unfold pickH
      rw [b0, b1, hy]
      cases hok : (decHead (blk D 3)).ok with
      | false => simp
      | true =>
        rw [h3 hok]
        simp
        omega
    obtain ⟨q1, _, q3, q4⟩ := pickH_true hp'
    rw [b0, hy] at q4
    refine ⟨q4, by rw [q1, h2]; rfl, fun hok => ?_⟩
    rw [h2] at hok ⊢
    rw [h2] at b1
    rw [b1] at hok ⊢
    rw [h3 hok]
theorem head_torn {D : DiskS} {y : ByteArray} (hl : D.now.length = 14) (hy : (decHead y).ok = false) : curH (D.put (oH D) y) = curH D ∧ slotH (D.put (oH D) y) = slotH D ∧ (decHead (blk (D.put (oH D) y) (oH D))).ok = false := by
  cases hp : pickH D with
  | true =>
    obtain ⟨h1, h2, h3, h4⟩ := pickH_true hp
    have b0 : blk (D.put (oH D) y) 2 = blk D 2 := by rw [blk_put hl (by omega), if_neg (by omega)]
    have b1 : blk (D.put (oH D) y) 3 = y := by rw [blk_put hl (by omega), if_pos (by omega)]
    have hp' : pickH (D.put (oH D) y) = true := by
      unfold pickH
      rw [b0, b1, hy, h3]
      rfl
    obtain ⟨q1, _, q3, q4⟩ := pickH_true hp'
    refine ⟨by rw [q4, b0, h4], by rw [q1, h1], ?_⟩
    rw [h2] at b1 ⊢
    rw [b1]
    exact hy
  | false =>
    obtain ⟨h1, h2, h3⟩ := pickH_false hp
    have b0 : blk (D.put (oH D) y) 2 = y := by rw [blk_put hl (by omega), if_pos (by omega)]
    have b1 : blk (D.put (oH D) y) 3 = blk D 3 := by rw [blk_put hl (by omega), if_neg (by omega)]
    have hp' : pickH (D.put (oH D) y) = false := by
      unfold pickH
      rw [b0, hy]
      rfl
    obtain ⟨q1, _, _⟩ := pickH_false hp'
    refine ⟨?_, by rw [q1, h1], ?_⟩
    · have e1 : rawH (D.put (oH D) y) = rawH D := by
        unfold rawH
        rw [if_neg (by simp [hp']), if_neg (by simp [hp]), b1]
      unfold curH
      rw [e1]
    · rw [h2] at b0 ⊢
      rw [b0]
      exact hy

/-! ### Good and openR behind a write -/
section
variable {D : DiskS} {N : Int} {d : Nat} {y : ByteArray}
theorem other (h : Good D N) {b i : Nat} (hb : b < 14) (hi : i ≠ b) : blk (D.put b y) i = blk D i := by rw [blk_put h.len hb, if_neg hi]
theorem area_same (h : Good D N) {b : Nat} (hb : b < 14) (hn : b < 4 ∨ 8 ≤ b) : areaV (D.put b y) (curH D).area (curH D).size = areaV D (curH D).area (curH D).size := by
  obtain ⟨a0, a1, s0, s1⟩ := curH_bd D
  exact areaV_congr ⟨a0, a1⟩ s1 (other h hb (by omega)) (other h hb (by omega))
/-- A write that changes nothing of what Open decodes. -/
theorem openR_none (h : Good D N) {b : Nat} (hb : b < 14) (hy : y.size = 64) (hm : curM (D.put b y) = curM D ∧ slotM (D.put b y) = slotM D) (hh : curH (D.put b y) = curH D ∧ slotH (D.put b y) = slotH D) (ha : areaV (D.put b y) (curH D).area (curH D).size = areaV D (curH D).area (curH D).size)
    (hs : (b < 4 ∨ 8 ≤ b) → byteAt y 63 = byteAt (blk D b) 63) (hr : ∀ i, i < 6 → recOk (blk (D.put b y) (8 + i)) = recOk (blk D (8 + i)) ∧ recOf (blk (D.put b y) (8 + i)) = recOf (blk D (8 + i))) : openR d (D.put b y) = openR d D := by
  symm
  refine openR_eq rfl (fun i hi => ?_) (fun i hi => openR_stamp' hi) hm.1.symm hm.2.symm hh.1.symm hh.2.symm ?_ (fun i hi => ?_) (fun i hi => openR_used' hi) (fun i hi => ?_) (fun i hi => openR_recs' hi)
  · rw [openR_stamp hi, stampOf_put h.len hb]
    split
    · rename_i q
      obtain ⟨rfl, q2⟩ := q
      rw [hs q2]
      unfold stampOf
      rw [if_pos q2]
    · rfl
  · rw [hh.1]
    exact ha.symm
  · rw [openR_used hi, (hr i hi).1]
  · rw [openR_recs hi, (hr i hi).2]
theorem good_put (h : Good D N) {b : Nat} (hb : b < 14) (hy : y.size = 64) {M : Int} (nm : 0 ≤ (curM (D.put b y)).num ∧ (curM (D.put b y)).num ≤ M) (om : (decMeta (blk (D.put b y) (oM (D.put b y)))).ok = true → (decMeta (blk (D.put b y) (oM (D.put b y)))).num = (curM (D.put b y)).num - 1)
    (nh : 0 ≤ (curH (D.put b y)).num ∧ (curH (D.put b y)).num ≤ M) (oh : (decHead (blk (D.put b y) (oH (D.put b y)))).ok = true → (decHead (blk (D.put b y) (oH (D.put b y)))).num = (curH (D.put b y)).num - 1 ∧ (decHead (blk (D.put b y) (oH (D.put b y)))).area ≠ (curH (D.put b y)).area) : Good (D.put b y) M :=
  ⟨put_len h.len, put_wf h.len hb h.wf hy, nm, om, nh, oh⟩
theorem decMeta_torn (hw : whole y = false) : (decMeta y).ok = false := by
  unfold decMeta
  rw [if_neg (by simp [hw])]
theorem decHead_torn (hw : whole y = false) : (decHead y).ok = false := by
  unfold decHead headOk
  rw [hw]
  rfl
theorem recOk_torn (hw : whole y = false) : recOk y = false := by
  unfold recOk
  rw [hw]
  rfl
theorem recOf_no (h : recOk y = false) : recOf y = ⟨0, 0, estr⟩ := by
  unfold recOf
  rw [if_neg (by simp [h])]
/-- The heads are untouched. -/
theorem headsSame (h : Good D N) {b : Nat} (hb : b < 14) (h2 : b ≠ 2) (h3 : b ≠ 3) {M : Int} (hM : N ≤ M) : (curH (D.put b y) = curH D ∧ slotH (D.put b y) = slotH D) ∧ (0 ≤ (curH (D.put b y)).num ∧ (curH (D.put b y)).num ≤ M) ∧ ((decHead (blk (D.put b y) (oH (D.put b y)))).ok = true → (decHead (blk (D.put b y) (oH (D.put b y)))).num = (curH (D.put b y)).num - 1 ∧ (decHead (blk (D.put b y) (oH (D.put b y)))).area ≠ (curH (D.put b y)).area) := by
  have hc := head_congr (D := D) (D' := D.put b y) (other h hb (by omega)) (other h hb (by omega))
  have ho : oH (D.put b y) = oH D := by unfold oH; rw [hc.2]
  have hlt := oH_lt D
  have hb' : blk (D.put b y) (oH D) = blk D (oH D) := other h hb (by omega)
  refine ⟨hc, by rw [hc.1]; have := h.numH; omega, ?_⟩
  rw [ho, hb', hc.1]
  exact h.otherH
theorem metasSame (h : Good D N) {b : Nat} (hb : b < 14) (h2 : b ≠ 0) (h3 : b ≠ 1) {M : Int} (hM : N ≤ M) : (curM (D.put b y) = curM D ∧ slotM (D.put b y) = slotM D) ∧ (0 ≤ (curM (D.put b y)).num ∧ (curM (D.put b y)).num ≤ M) ∧ ((decMeta (blk (D.put b y) (oM (D.put b y)))).ok = true → (decMeta (blk (D.put b y) (oM (D.put b y)))).num = (curM (D.put b y)).num - 1) := by
  have hc := meta_congr (D := D) (D' := D.put b y) (other h hb (by omega)) (other h hb (by omega))
  have ho : oM (D.put b y) = oM D := by unfold oM; rw [hc.2]
  have hlt := oM_lt D
  have hb' : blk (D.put b y) (oM D) = blk D (oM D) := other h hb (by omega)
  refine ⟨hc, by rw [hc.1]; have := h.numM; omega, ?_⟩
  rw [ho, hb', hc.1]
  exact h.otherM
theorem recsSame (h : Good D N) {b : Nat} (hb : b < 8) : ∀ i, i < 6 → recOk (blk (D.put b y) (8 + i)) = recOk (blk D (8 + i)) ∧ recOf (blk (D.put b y) (8 + i)) = recOf (blk D (8 + i)) := fun i hi => by
  rw [other h (by omega) (by omega)]
  exact ⟨rfl, rfl⟩
/-- A block of the area that is not in use. -/
theorem put_area_any (h : Good D N) {b : Nat} (h4 : 4 ≤ b) (h8 : b < 8) (hn : b ≠ 4 + 2 * (curH D).area.toNat ∧ b ≠ 5 + 2 * (curH D).area.toNat) (hy : y.size = 64) : openR d (D.put b y) = openR d D ∧ Good (D.put b y) N := by
  have hb : b < 14 := by omega
  obtain ⟨a1, a2, a3⟩ := metasSame (y := y) h hb (by omega) (by omega) (Int.le_refl N)
  obtain ⟨c1, c2, c3⟩ := headsSame (y := y) h hb (by omega) (by omega) (Int.le_refl N)
  obtain ⟨e0, e1, s0, s1⟩ := curH_bd D
  have ha : areaV (D.put b y) (curH D).area (curH D).size = areaV D (curH D).area (curH D).size := areaV_congr ⟨e0, e1⟩ s1 (other h hb (fun e => hn.1 e.symm)) (other h hb (fun e => hn.2 e.symm))
  exact ⟨openR_none h hb hy a1 c1 ha (fun q => by omega) (recsSame h h8), good_put h hb hy a2 a3 c2 c3⟩
theorem put_meta_torn (h : Good D N) (hy : y.size = 64) (hw : whole y = false) (hl : byteAt y 63 = byteAt (blk D (oM D)) 63) : openR d (D.put (oM D) y) = openR d D ∧ Good (D.put (oM D) y) N := by
  have hlt := (oM_lt D).1
  have hb : oM D < 14 := by omega
  obtain ⟨t1, t2, t3⟩ := meta_torn (y := y) h.len (decMeta_torn hw)
  obtain ⟨c1, c2, c3⟩ := headsSame (y := y) h hb (by omega) (by omega) (Int.le_refl N)
  have ho : oM (D.put (oM D) y) = oM D := by
    show (1 - slotM (D.put (oM D) y)).toNat = (1 - slotM D).toNat
    rw [t2]
  refine ⟨openR_none h hb hy ⟨t1, t2⟩ c1 (area_same h hb (by omega)) (fun _ => hl) (recsSame h (by omega)), good_put h hb hy (by rw [t1]; exact h.numM) (fun hok => ?_) c2 c3⟩
  rw [ho, t3] at hok
  cases hok
theorem put_meta_full (h : Good D N) (hy : y.size = 64) {term vote s : Int} (hd : decMeta y = ⟨true, (curM D).num + 1, term, vote⟩) (hs : byteAt y 63 = s) :
    openR d (D.put (oM D) y) = { openR d D with stamp := upd (openR d D).stamp (oM D) s, m := ⟨true, (curM D).num + 1, term, vote⟩, mSlot := (oM D : Int) } ∧ Good (D.put (oM D) y) (N + 1) := by
  have hlt := (oM_lt D).1
  have hb : oM D < 14 := by omega
  obtain ⟨t1, t2, t3⟩ := meta_full (y := y) h.len hd
  obtain ⟨c1, c2, c3⟩ := headsSame (y := y) h hb (by omega) (by omega) (M := N + 1) (by omega)
  have hnm := h.numM
  refine ⟨?_, good_put h hb hy (by rw [t1]; show 0 ≤ (curM D).num + 1 ∧ (curM D).num + 1 ≤ N + 1; omega) (fun hok => ?_) c2 c3⟩
  · symm
    refine openR_eq rfl (fun i hi => ?_) (fun i hi => ?_) t1.symm t2.symm c1.1.symm c1.2.symm ?_ (fun i hi => ?_) (fun i hi => openR_used' hi) (fun i hi => ?_) (fun i hi => openR_recs' hi)
    · rw [stampOf_put h.len hb]
      show upd (openR d D).stamp (oM D) s i = _
      unfold upd
      by_cases e : i = oM D
      · rw [if_pos e, if_pos ⟨e, by omega⟩, hs]
      · rw [if_neg e, if_neg (fun q => e q.1)]
        exact openR_stamp hi
    · show upd (openR d D).stamp (oM D) s i = _
      unfold upd
      rw [if_neg (by omega)]
      exact openR_stamp' hi
    · rw [c1.1]
      exact (area_same h hb (by omega)).symm
    · rw [(recsSame h (by omega) i hi).1]
      exact openR_used hi
    · rw [(recsSame h (by omega) i hi).2]
      exact openR_recs hi
  · have ho : oM (D.put (oM D) y) = 1 - oM D := by
      show (1 - slotM (D.put (oM D) y)).toNat = 1 - oM D
      rw [t2]
      omega
    rw [ho] at hok ⊢
    rw [t3 hok, t1]
    show (curM D).num = (curM D).num + 1 - 1
    omega
theorem put_head_torn (h : Good D N) (hy : y.size = 64) (hw : whole y = false) (hl : byteAt y 63 = byteAt (blk D (oH D)) 63) : openR d (D.put (oH D) y) = openR d D ∧ Good (D.put (oH D) y) N := by
  have hlt := oH_lt D
  have hb : oH D < 14 := by omega
  obtain ⟨t1, t2, t3⟩ := head_torn (y := y) h.len (decHead_torn hw)
  obtain ⟨c1, c2, c3⟩ := metasSame (y := y) h hb (by omega) (by omega) (Int.le_refl N)
  have ho : oH (D.put (oH D) y) = oH D := by
    show (3 - slotH (D.put (oH D) y)).toNat = (3 - slotH D).toNat
    rw [t2]
  refine ⟨openR_none h hb hy c1 ⟨t1, t2⟩ (area_same h hb (by omega)) (fun _ => hl) (recsSame h (by omega)), good_put h hb hy c2 c3 (by rw [t1]; exact h.numH) (fun hok => ?_)⟩
  rw [ho, t3] at hok
  cases hok
theorem put_head_full (h : Good D N) (hy : y.size = 64) {idx term area size s : Int} (hd : decHead y = ⟨true, (curH D).num + 1, idx, term, area, size⟩) (ha : area ≠ (curH D).area) (ha1 : 0 ≤ area ∧ area ≤ 1) (hz : size ≤ 128) (hs : byteAt y 63 = s) :
    openR d (D.put (oH D) y) = { openR d D with stamp := upd (openR d D).stamp (oH D) s, h := ⟨true, (curH D).num + 1, idx, term, area, size⟩, hSlot := (oH D : Int) - 2, snap := areaV D area size } ∧ Good (D.put (oH D) y) (N + 1) := by
  have hlt := oH_lt D
  have hb : oH D < 14 := by omega
  obtain ⟨t1, t2, t3⟩ := head_full (y := y) h.len hd
  obtain ⟨c1, c2, c3⟩ := metasSame (y := y) h hb (by omega) (by omega) (M := N + 1) (by omega)
  have hnm := h.numH
  refine ⟨?_, good_put h hb hy c2 c3 (by rw [t1]; show 0 ≤ (curH D).num + 1 ∧ (curH D).num + 1 ≤ N + 1; omega) (fun hok => ?_)⟩
  · symm
    refine openR_eq rfl (fun i hi => ?_) (fun i hi => ?_) c1.1.symm c1.2.symm t1.symm t2.symm ?_ (fun i hi => ?_) (fun i hi => openR_used' hi) (fun i hi => ?_) (fun i hi => openR_recs' hi)
    · rw [stampOf_put h.len hb]
      show upd (openR d D).stamp (oH D) s i = _
      unfold upd
      by_cases e : i = oH D
      · rw [if_pos e, if_pos ⟨e, by omega⟩, hs]
      · rw [if_neg e, if_neg (fun q => e q.1)]
        exact openR_stamp hi
    · show upd (openR d D).stamp (oH D) s i = _
      unfold upd
      rw [if_neg (by omega)]
      exact openR_stamp' hi
    · rw [t1]
      exact (areaV_congr ha1 hz (other h hb (by omega)) (other h hb (by omega))).symm
    · rw [(recsSame h (by omega) i hi).1]
      exact openR_used hi
    · rw [(recsSame h (by omega) i hi).2]
      exact openR_recs hi
  · have ho : oH (D.put (oH D) y) = 5 - oH D := by
      show (3 - slotH (D.put (oH D) y)).toNat = 5 - oH D
      rw [t2]
      omega
    rw [ho] at hok ⊢
    rw [t3 hok, t1]
    exact ⟨by show (curH D).num = (curH D).num + 1 - 1; omega, fun e => ha e.symm⟩
/-- Any whole block over a record slot. -/
theorem put_rec_any (h : Good D N) {k : Nat} (hk : k < 6) (hy : y.size = 64) :
    openR d (D.put (8 + k) y) = { openR d D with stamp := upd (openR d D).stamp (8 + k) (byteAt y 63), used := upd (openR d D).used k (recOk y), recs := upd (openR d D).recs k (recOf y) } ∧ Good (D.put (8 + k) y) N := by
  have hb : 8 + k < 14 := by omega
  obtain ⟨a1, a2, a3⟩ := metasSame (y := y) h hb (by omega) (by omega) (Int.le_refl N)
  obtain ⟨c1, c2, c3⟩ := headsSame (y := y) h hb (by omega) (by omega) (Int.le_refl N)
  refine ⟨?_, good_put h hb hy a2 a3 c2 c3⟩
  symm
  refine openR_eq rfl (fun i hi => ?_) (fun i hi => ?_) a1.1.symm a1.2.symm c1.1.symm c1.2.symm ?_ (fun i hi => ?_) (fun i hi => ?_) (fun i hi => ?_) (fun i hi => ?_)
  · rw [stampOf_put h.len hb]
    show upd (openR d D).stamp (8 + k) (byteAt y 63) i = _
    unfold upd
    by_cases e : i = 8 + k
    · rw [if_pos e, if_pos ⟨e, by omega⟩]
    · rw [if_neg e, if_neg (fun q => e q.1)]
      exact openR_stamp hi
  · show upd (openR d D).stamp (8 + k) (byteAt y 63) i = _
    unfold upd
    rw [if_neg (by omega)]
    exact openR_stamp' hi
  · rw [c1.1]
    exact (area_same h hb (by omega)).symm
  · show upd (openR d D).used k (recOk y) i = _
    rw [blk_put h.len hb]
    unfold upd
    by_cases e : i = k
    · rw [if_pos e, if_pos (by omega)]
    · rw [if_neg e, if_neg (by omega)]
      exact openR_used hi
  · show upd (openR d D).used k (recOk y) i = _
    unfold upd
    rw [if_neg (by omega)]
    exact openR_used' hi
  · show upd (openR d D).recs k (recOf y) i = _
    rw [blk_put h.len hb]
    unfold upd
    by_cases e : i = k
    · rw [if_pos e, if_pos (by omega)]
    · rw [if_neg e, if_neg (by omega)]
      exact openR_recs hi
  · show upd (openR d D).recs k (recOf y) i = _
    unfold upd
    rw [if_neg (by omega)]
    exact openR_recs' hi
end
end Go.Proofs.Qxb6500430aGreat
