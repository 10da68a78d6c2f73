/-
  The store's cells, Open, and the observers.
-/
import Derived.Test.Qxb6500430aGreatStore
set_option linter.unusedVariables false
open Go.Vc
namespace Go.Proofs.Qxb6500430aGreat

structure StoreS where
  d : Nat
  stamp : Nat → Int
  m : MetaS
  mSlot : Int
  h : HeadS
  hSlot : Int
  snap : ByteArray
  used : Nat → Bool
  recs : Nat → RecS
def storeCell (S : StoreS) (j : Nat) : Value :=
  if j = 0 then .pointer (some ⟨S.d, 0, none⟩)
  else if j < 15 then .int .u8 (S.stamp (j - 1))
  else if j = 15 then .bool S.m.ok
  else if j = 16 then .int .i64 S.m.num
  else if j = 17 then .int .i64 S.m.term
  else if j = 18 then .int .i64 S.m.vote
  else if j = 19 then .int .i64 S.mSlot
  else if j = 20 then .bool S.h.ok
  else if j = 21 then .int .i64 S.h.num
  else if j = 22 then .int .i64 S.h.idx
  else if j = 23 then .int .i64 S.h.term
  else if j = 24 then .int .i64 S.h.area
  else if j = 25 then .int .i64 S.h.size
  else if j = 26 then .int .i64 S.hSlot
  else if j = 27 then .string S.snap
  else if j < 34 then .bool (S.used (j - 28))
  else if (j - 34) % 3 = 0 then .int .i64 (S.recs ((j - 34) / 3)).idx
  else if (j - 34) % 3 = 1 then .int .i64 (S.recs ((j - 34) / 3)).term
  else .string (S.recs ((j - 34) / 3)).data
theorem cell_d (S : StoreS) : storeCell S 0 = .pointer (some ⟨S.d, 0, none⟩) := rfl
theorem cell_mOk (S : StoreS) : storeCell S 15 = .bool S.m.ok := rfl
theorem cell_mNum (S : StoreS) : storeCell S 16 = .int .i64 S.m.num := rfl
theorem cell_mTerm (S : StoreS) : storeCell S 17 = .int .i64 S.m.term := rfl
theorem cell_mVote (S : StoreS) : storeCell S 18 = .int .i64 S.m.vote := rfl
theorem cell_mSlot (S : StoreS) : storeCell S 19 = .int .i64 S.mSlot := rfl
theorem cell_hOk (S : StoreS) : storeCell S 20 = .bool S.h.ok := rfl
theorem cell_hNum (S : StoreS) : storeCell S 21 = .int .i64 S.h.num := rfl
theorem cell_hIdx (S : StoreS) : storeCell S 22 = .int .i64 S.h.idx := rfl
theorem cell_hTerm (S : StoreS) : storeCell S 23 = .int .i64 S.h.term := rfl
theorem cell_hArea (S : StoreS) : storeCell S 24 = .int .i64 S.h.area := rfl
theorem cell_hSize (S : StoreS) : storeCell S 25 = .int .i64 S.h.size := rfl
theorem cell_hSlot (S : StoreS) : storeCell S 26 = .int .i64 S.hSlot := rfl
theorem cell_snap (S : StoreS) : storeCell S 27 = .string S.snap := rfl
theorem cell_stamp (S : StoreS) {b : Nat} (h : b < 14) : storeCell S (1 + b) = .int .u8 (S.stamp b) := by
  unfold storeCell
  rw [if_neg (by omega), if_pos (by omega), show 1 + b - 1 = b by omega]
theorem cell_used (S : StoreS) {s : Nat} (h : s < 6) : storeCell S (28 + s) = .bool (S.used s) := by
  have h1 : ¬ (28 + s < 15) := by omega
  have h2 : 28 + s < 34 := by omega
  have h3 : 28 + s - 28 = s := by omega
  have g : ∀ k, k < 28 → ¬ (28 + s = k) := by omega
  simp [storeCell, h1, h2, h3, g 15, g 16, g 17, g 18, g 19, g 20, g 21, g 22, g 23, g 24, g 25, g 26, g 27]
theorem cell_hi (T : StoreS) {k : Nat} (hk : 34 ≤ k) : storeCell T k = if (k - 34) % 3 = 0 then .int .i64 (T.recs ((k - 34) / 3)).idx else if (k - 34) % 3 = 1 then .int .i64 (T.recs ((k - 34) / 3)).term else .string (T.recs ((k - 34) / 3)).data := by
  have h1 : ¬ k < 15 := by omega
  have h2 : ¬ k < 34 := by omega
  have g : ∀ i, i < 28 → ¬ (k = i) := by omega
  simp [storeCell, h1, h2, g 0, g 15, g 16, g 17, g 18, g 19, g 20, g 21, g 22, g 23, g 24, g 25, g 26, g 27]
theorem cell_rIdx (S : StoreS) {s : Nat} (h : s < 6) : storeCell S (34 + s * 3) = .int .i64 (S.recs s).idx := by
  rw [cell_hi S (by omega), if_pos (by omega), show (34 + s * 3 - 34) / 3 = s by omega]
theorem cell_rTerm (S : StoreS) {s : Nat} (h : s < 6) : storeCell S (34 + s * 3 + 1) = .int .i64 (S.recs s).term := by
  rw [cell_hi S (by omega), if_neg (by omega), if_pos (by omega), show (34 + s * 3 + 1 - 34) / 3 = s by omega]
theorem cell_rData (S : StoreS) {s : Nat} (h : s < 6) : storeCell S (34 + s * 3 + 2) = .string (S.recs s).data := by
  rw [cell_hi S (by omega), if_neg (by omega), if_neg (by omega), show (34 + s * 3 + 2 - 34) / 3 = s by omega]
def StoreAt (w : World) (t : Nat) (S : StoreS) : Prop := Own w t (fnArr 52 (storeCell S)) T_store_Store
def upd {α : Type} (f : Nat → α) (k : Nat) (v : α) (i : Nat) : α := if i = k then v else f i
theorem upd_eq {α : Type} (f : Nat → α) (k : Nat) (v : α) : upd f k v k = v := by simp [upd]
theorem upd_ne {α : Type} (f : Nat → α) {k i : Nat} (v : α) (h : i ≠ k) : upd f k v i = f i := by simp [upd, h]

theorem upto_succ {α : Type} (f g : Nat → α) (s : Nat) : (fun i => if i < s + 1 then f i else g i) = upd (fun i => if i < s then f i else g i) s (f s) := by
  funext i
  show (if i < s + 1 then f i else g i) = if i = s then f s else if i < s then f i else g i
  by_cases hi : i = s
  · subst hi; rw [if_pos (by omega), if_pos rfl]
  · rw [if_neg hi]
    by_cases h2 : i < s
    · rw [if_pos h2, if_pos (by omega)]
    · rw [if_neg h2, if_neg (by omega)]

/-! ### What a store does to the cells -/
theorem put_stamp (S : StoreS) {b : Nat} (hb : b < 14) (v : Int) : ∀ j, j < 52 → fnPut (storeCell S) (1 + b) [.int .u8 v] j = storeCell { S with stamp := upd S.stamp b v } j := by
  intro j hj
  unfold fnPut
  by_cases h : j = 1 + b
  · subst h
    rw [if_pos (by simp)]
    simp only [storeCell]
    rw [if_neg (by omega), if_pos (by omega)]
    have : 1 + b - 1 = b := by omega
    rw [this, upd_eq]; simp
  · rw [if_neg (by simp; omega)]
    simp only [storeCell]
    by_cases h0 : j = 0
    · simp [h0]
    · by_cases h1 : j < 15
      · simp only [h0, h1, if_true, if_false]
        rw [upd_ne _ _ (by omega)]
      · simp only [h0, h1, if_false]
theorem put_meta (S : StoreS) (q : MetaS) : ∀ j, j < 52 → fnPut (storeCell S) 15 [.bool q.ok, .int .i64 q.num, .int .i64 q.term, .int .i64 q.vote] j = storeCell { S with m := q } j := by
  intro j hj
  unfold fnPut
  by_cases h : 15 ≤ j ∧ j < 19
  · rw [if_pos (by simpa using h)]
    have : j = 15 ∨ j = 16 ∨ j = 17 ∨ j = 18 := by omega
    rcases this with rfl | rfl | rfl | rfl <;> rfl
  · rw [if_neg (by simpa using h)]
    have h1 : j ≠ 15 := by omega
    have h2 : j ≠ 16 := by omega
    have h3 : j ≠ 17 := by omega
    have h4 : j ≠ 18 := by omega
    simp [storeCell, h1, h2, h3, h4]
theorem put_vote (S : StoreS) (v : Int) : ∀ j, j < 52 → fnPut (storeCell S) 18 [.int .i64 v] j = storeCell { S with m := { S.m with vote := v } } j := by
  intro j hj
  unfold fnPut
  by_cases h : j = 18
  · subst h; rfl
  · rw [if_neg (by simp; omega)]; simp [storeCell, h]
theorem put_mSlot (S : StoreS) (v : Int) : ∀ j, j < 52 → fnPut (storeCell S) 19 [.int .i64 v] j = storeCell { S with mSlot := v } j := by
  intro j hj
  unfold fnPut
  by_cases h : j = 19
  · subst h; rfl
  · rw [if_neg (by simp; omega)]; simp [storeCell, h]
theorem put_head (S : StoreS) (q : HeadS) : ∀ j, j < 52 → fnPut (storeCell S) 20 [.bool q.ok, .int .i64 q.num, .int .i64 q.idx, .int .i64 q.term, .int .i64 q.area, .int .i64 q.size] j = storeCell { S with h := q } j := by
  intro j hj
  unfold fnPut
  by_cases h : 20 ≤ j ∧ j < 26
  · rw [if_pos (by simpa using h)]
    have : j = 20 ∨ j = 21 ∨ j = 22 ∨ j = 23 ∨ j = 24 ∨ j = 25 := by omega
    rcases this with rfl | rfl | rfl | rfl | rfl | rfl <;> rfl
  · rw [if_neg (by simpa using h)]
    have h1 : j ≠ 20 := by omega
    have h2 : j ≠ 21 := by omega
    have h3 : j ≠ 22 := by omega
    have h4 : j ≠ 23 := by omega
    have h5 : j ≠ 24 := by omega
    have h6 : j ≠ 25 := by omega
    simp [storeCell, h1, h2, h3, h4, h5, h6]
theorem put_area (S : StoreS) (v : Int) : ∀ j, j < 52 → fnPut (storeCell S) 24 [.int .i64 v] j = storeCell { S with h := { S.h with area := v } } j := by
  intro j hj
  unfold fnPut
  by_cases h : j = 24
  · subst h; rfl
  · rw [if_neg (by simp; omega)]; simp [storeCell, h]
theorem put_hSlot (S : StoreS) (v : Int) : ∀ j, j < 52 → fnPut (storeCell S) 26 [.int .i64 v] j = storeCell { S with hSlot := v } j := by
  intro j hj
  unfold fnPut
  by_cases h : j = 26
  · subst h; rfl
  · rw [if_neg (by simp; omega)]; simp [storeCell, h]
theorem put_snap (S : StoreS) (v : ByteArray) : ∀ j, j < 52 → fnPut (storeCell S) 27 [.string v] j = storeCell { S with snap := v } j := by
  intro j hj
  unfold fnPut
  by_cases h : j = 27
  · subst h; rfl
  · rw [if_neg (by simp; omega)]; simp [storeCell, h]
theorem put_used (S : StoreS) {s : Nat} (hs : s < 6) (v : Bool) : ∀ j, j < 52 → fnPut (storeCell S) (28 + s) [.bool v] j = storeCell { S with used := upd S.used s v } j := by
  intro j hj
  unfold fnPut
  by_cases h : j = 28 + s
  · subst h
    rw [if_pos (by simp)]
    have h1 : ¬ (28 + s < 15) := by omega
    have h2 : 28 + s < 34 := by omega
    have h3 : 28 + s - 28 = s := by omega
    have g : ∀ k, k < 28 → ¬ (28 + s = k) := by omega
    simp [storeCell, h1, h2, h3, upd_eq, g 15, g 16, g 17, g 18, g 19, g 20, g 21, g 22, g 23, g 24, g 25, g 26, g 27]
  · rw [if_neg (by simp; omega)]
    by_cases h2 : 28 ≤ j ∧ j < 34
    · have e : upd S.used s v (j - 28) = S.used (j - 28) := upd_ne _ _ (by omega)
      simp only [storeCell, e]
    · have h3 : j < 34 ↔ j < 28 := by omega
      simp only [storeCell]
      by_cases h4 : j < 28
      · have : j = 0 ∨ j < 15 ∨ j = 15 ∨ j = 16 ∨ j = 17 ∨ j = 18 ∨ j = 19 ∨ j = 20 ∨ j = 21 ∨ j = 22 ∨ j = 23 ∨ j = 24 ∨ j = 25 ∨ j = 26 ∨ j = 27 := by omega
        rcases this with h | h | h | h | h | h | h | h | h | h | h | h | h | h | h <;> simp [h]
      · have h5 : ¬ j < 34 := by omega
        simp [h5]
theorem put_rec (S : StoreS) {s : Nat} (hs : s < 6) (q : RecS) : ∀ j, j < 52 → fnPut (storeCell S) (34 + s * 3) [.int .i64 q.idx, .int .i64 q.term, .string q.data] j = storeCell { S with recs := upd S.recs s q } j := by
  intro j hj
  unfold fnPut
  have lo : ∀ k, k < 34 → storeCell S k = storeCell { S with recs := upd S.recs s q } k := by
    intro k hk
    simp only [storeCell]
    by_cases h1 : k < 28
    · have : k = 0 ∨ k < 15 ∨ k = 15 ∨ k = 16 ∨ k = 17 ∨ k = 18 ∨ k = 19 ∨ k = 20 ∨ k = 21 ∨ k = 22 ∨ k = 23 ∨ k = 24 ∨ k = 25 ∨ k = 26 ∨ k = 27 := by omega
      rcases this with h | h | h | h | h | h | h | h | h | h | h | h | h | h | h <;> simp [h]
    · simp [hk]
  have hi : ∀ (T : StoreS) k, 34 ≤ k → storeCell T k = if (k - 34) % 3 = 0 then .int .i64 (T.recs ((k - 34) / 3)).idx else if (k - 34) % 3 = 1 then .int .i64 (T.recs ((k - 34) / 3)).term else .string (T.recs ((k - 34) / 3)).data := by
    intro T k hk
    have h1 : ¬ k < 15 := by omega
    have h2 : ¬ k < 34 := by omega
    have g : ∀ i, i < 28 → ¬ (k = i) := by omega
    simp [storeCell, h1, h2, g 0, g 15, g 16, g 17, g 18, g 19, g 20, g 21, g 22, g 23, g 24, g 25, g 26, g 27]
  by_cases h : 34 + s * 3 ≤ j ∧ j < 34 + s * 3 + 3
  · rw [if_pos (by simpa using h), hi _ j (by omega)]
    have h3 : (j - 34) / 3 = s := by omega
    simp only [h3, upd_eq]
    have : j = 34 + s * 3 ∨ j = 34 + s * 3 + 1 ∨ j = 34 + s * 3 + 2 := by omega
    rcases this with rfl | rfl | rfl
    · rw [if_pos (by omega)]; simp
    · rw [if_neg (by omega), if_pos (by omega)]
      have : 34 + s * 3 + 1 - (34 + s * 3) = 1 := by omega
      rw [this]; rfl
    · rw [if_neg (by omega), if_neg (by omega)]
      have : 34 + s * 3 + 2 - (34 + s * 3) = 2 := by omega
      rw [this]; rfl
  · rw [if_neg (by simpa using h)]
    by_cases h1 : j < 34
    · exact lo j h1
    · rw [hi _ j (by omega), hi _ j (by omega)]
      have h3 : (j - 34) / 3 ≠ s := by omega
      simp only [upd_ne _ _ h3]

/-! ### Open -/
def stampOf (D : DiskS) (i : Nat) : Int := if i < 4 ∨ 8 ≤ i then byteAt (blk D i) 63 else 0
def pickM (D : DiskS) : Bool := (decMeta (blk D 0)).ok && (!(decMeta (blk D 1)).ok || decide ((decMeta (blk D 0)).num > (decMeta (blk D 1)).num))
def rawM (D : DiskS) : MetaS := if pickM D then decMeta (blk D 0) else decMeta (blk D 1)
def curM (D : DiskS) : MetaS := if (rawM D).ok then rawM D else { rawM D with vote := -1 }
def pickH (D : DiskS) : Bool := (decHead (blk D 2)).ok && (!(decHead (blk D 3)).ok || decide ((decHead (blk D 2)).num > (decHead (blk D 3)).num))
def rawH (D : DiskS) : HeadS := if pickH D then decHead (blk D 2) else decHead (blk D 3)
def curH (D : DiskS) : HeadS := if (rawH D).ok then rawH D else { rawH D with area := 1 }
def openS (d : Nat) (D : DiskS) : StoreS :=
  { d := d, stamp := stampOf D, m := curM D, mSlot := if pickM D then 0 else 1, h := curH D, hSlot := if pickH D then 0 else 1,
    snap := areaV D (curH D).area (curH D).size, used := fun i => recOk (blk D (8 + i)), recs := fun i => recOf (blk D (8 + i)) }
theorem decHead_bd (b : ByteArray) : 0 ≤ (decHead b).area ∧ (decHead b).area ≤ 1 ∧ 0 ≤ (decHead b).size ∧ (decHead b).size ≤ 128 := by
  unfold decHead
  have h1 := byteAt_bd b 40
  have h2 := byteAt_bd b 41
  split
  · rename_i h
    simp [headOk] at h
    exact ⟨h1.1, h.1.2, h2.1, h.2⟩
  · exact ⟨by decide, by decide, by decide, by decide⟩
theorem curH_bd (D : DiskS) : 0 ≤ (curH D).area ∧ (curH D).area ≤ 1 ∧ 0 ≤ (curH D).size ∧ (curH D).size ≤ 128 := by
  have h : 0 ≤ (rawH D).area ∧ (rawH D).area ≤ 1 ∧ 0 ≤ (rawH D).size ∧ (rawH D).size ≤ 128 := by
    unfold rawH; split <;> exact decHead_bd _
  unfold curH
  split
  · exact h
  · exact ⟨by show (0 : Int) ≤ 1; decide, by show (1 : Int) ≤ 1; decide, h.2.2.1, h.2.2.2⟩
/-- Through a stretch that writes block t alone, t the caller's own. -/
theorem storeAt_cells (S : StoreS) (w : World) (t : Nat) (h : StoreAt w t S) : (fnArr 52 (storeCell S))[0]? = some (.pointer (some ⟨S.d, 0, none⟩)) := fnArr_get _ (by decide)
def zeroS (d : Nat) : StoreS := { d := d, stamp := fun _ => 0, m := ⟨false, 0, 0, 0⟩, mSlot := 0, h := ⟨false, 0, 0, 0, 0, 0⟩, hSlot := 0, snap := estr, used := fun _ => false, recs := fun _ => ⟨0, 0, estr⟩ }
theorem zeroS_cells (d : Nat) : #[.pointer (some ⟨d, 0, none⟩), .int .u8 (0 : Int), .int .u8 (0 : Int), .int .u8 (0 : Int), .int .u8 (0 : Int), .int .u8 (0 : Int), .int .u8 (0 : Int), .int .u8 (0 : Int), .int .u8 (0 : Int), .int .u8 (0 : Int), .int .u8 (0 : Int), .int .u8 (0 : Int), .int .u8 (0 : Int), .int .u8 (0 : Int), .int .u8 (0 : Int), .bool false, .int .i64 (0 : Int), .int .i64 (0 : Int), .int .i64 (0 : Int), .int .i64 (0 : Int), .bool false, .int .i64 (0 : Int), .int .i64 (0 : Int), .int .i64 (0 : Int), .int .i64 (0 : Int), .int .i64 (0 : Int), .int .i64 (0 : Int), .string (ByteArray.mk #[]), .bool false, .bool false, .bool false, .bool false, .bool false, .bool false, .int .i64 (0 : Int), .int .i64 (0 : Int), .string (ByteArray.mk #[]), .int .i64 (0 : Int), .int .i64 (0 : Int), .string (ByteArray.mk #[]), .int .i64 (0 : Int), .int .i64 (0 : Int), .string (ByteArray.mk #[]), .int .i64 (0 : Int), .int .i64 (0 : Int), .string (ByteArray.mk #[]), .int .i64 (0 : Int), .int .i64 (0 : Int), .string (ByteArray.mk #[]), .int .i64 (0 : Int), .int .i64 (0 : Int), .string (ByteArray.mk #[])] = fnArr 52 (storeCell (zeroS d)) := by
  kernel_rfl
/-- The last loop: the records. -/
theorem open_recs {w w0 : World} {t d : Nat} {D : DiskS} {F : List Nat} {S : StoreS} (hS : StoreAt w t S) (hSd : S.d = d) (hD : DiskAt w d D F) (htF : t ∉ F) (hwf : DiskWf D) (hext : Ext [] w0 w) (ht : w0.heap.size ≤ t)
    {R : Option Addr → World → Prop} (hR : ∀ w', StoreAt w' t { S with used := fun i => if i < 6 then recOk (blk D (8 + i)) else S.used i, recs := fun i => if i < 6 then recOf (blk D (8 + i)) else S.recs i } → Ext [] w0 w' → R (some ⟨t, 0, none⟩) w') :
    store_Open.L2 t 0 w R := by
  subst hSd
  refine ⟨fun m t' s w' => t = t' ∧ 0 ≤ s ∧ s ≤ 6 ∧ m = (6 - s).toNat ∧ Ext [] w0 w' ∧ DiskAt w' S.d D F ∧ StoreAt w' t { S with used := fun i => if i < s.toNat then recOk (blk D (8 + i)) else S.used i, recs := fun i => if i < s.toNat then recOf (blk D (8 + i)) else S.recs i }, 6,
    ⟨rfl, by omega, by omega, rfl, hext, hD, by simpa using hS⟩, ?_⟩
  rintro m t' s w' ⟨rfl, hs0, hs1, rfl, hw', hD', hS'⟩
  unfold store_Open.L2b
  refine Bm.ite (fun hlt => ?_) (fun hge => ?_)
  · have e1 : IntKind.i64.wrap (8 + s) = 8 + s := wrap64_id (by omega) (by omega)
    have e2 : IntKind.i64.wrap (s + 1) = s + 1 := wrap64_id (by omega) (by omega)
    rw [e1, e2]
    refine read_ok hS' (fnArr_get _ (by decide)) hD' (by omega) (by omega) ?_
    have hb : D.now.getD (8 + s).toNat zblock = blk D (8 + s.toNat) := by unfold blk; congr 1; omega
    rw [hb]
    refine decRec_ok (hwf _ (by omega)) fun w2 he2 => ⟨⟨hs0, by omega⟩, ?_⟩
    have he2' : Ext [] w' w2 := (Ext.drew _ _).trans he2
    rw [add_mk, add_mk]
    have hS2 := he2'.own hS' (by simp)
    refine Sts.fn hS2 (by simp; omega) rfl (put_rec _ (s := s.toNat) (by omega) (recOf (blk D (8 + s.toNat)))) fun w3 hs3 hS3 he3 => ⟨⟨hs0, by omega⟩, ?_⟩
    rw [Nat.mul_one]
    refine Sts.fn hS3 (by simp; omega) rfl (put_used _ (s := s.toNat) (by omega) (recOk (blk D (8 + s.toNat)))) fun w4 hs4 hS4 he4 => ?_
    have he34 : Ext [t] w2 w4 := he3.trans he4
    refine ⟨(6 - (s + 1)).toNat, by omega, rfl, by omega, by omega, rfl, ?_, ?_, ?_⟩
    · exact (hw'.trans he2').trans' he34 (fun x hx hl => by simp at hx; omega)
    · exact (hD'.ext he2' (by simp)).ext he34 (fun k hk => by simp; intro h; subst h; exact htF hk)
    · have e3 : (s + 1).toNat = s.toNat + 1 := by omega
      rw [e3, upto_succ (fun i => recOk (blk D (8 + i))), upto_succ (fun i => recOf (blk D (8 + i)))]; exact hS4
  · have : s = 6 := by omega
    subst this
    exact hR w' hS' hw'

def slotH (D : DiskS) : Int := if pickH D then 0 else 1
def slotM (D : DiskS) : Int := if pickM D then 0 else 1
def withHeads (S : StoreS) (D : DiskS) : StoreS :=
  { S with h := curH D, hSlot := slotH D, snap := areaV D (curH D).area (curH D).size, used := fun i => if i < 6 then recOk (blk D (8 + i)) else S.used i, recs := fun i => if i < 6 then recOf (blk D (8 + i)) else S.recs i }
theorem open_b8 {w w0 : World} {t d : Nat} {D : DiskS} {F : List Nat} {S : StoreS} (hS : StoreAt w t S) (hSd : S.d = d) (hh : S.h = curH D) (hsl : S.hSlot = slotH D) (hD : DiskAt w d D F) (htF : t ∉ F) (hwf : DiskWf D) (hext : Ext [] w0 w) (ht : w0.heap.size ≤ t)
    {R : Option Addr → World → Prop} (hR : ∀ w', StoreAt w' t (withHeads S D) → Ext [] w0 w' → R (some ⟨t, 0, none⟩) w') : store_Open.B8 t w R := by
  subst hSd
  have hbd := curH_bd D
  unfold store_Open.B8
  refine LdI.fn hS.drew (by decide) (cell_hArea _) (LdI.fn hS.drew (by decide) (cell_hSize _) ?_)
  rw [hh]
  refine area_ok hS.drew (fnArr_get _ (by decide)) (hD.ext (Ext.drew [] w) (by simp)) hwf hbd.1 hbd.2.1 hbd.2.2.1 hbd.2.2.2 fun w1 he1 => ?_
  have he1' : Ext [] w w1 := (Ext.drew _ _).trans he1
  refine Sts.fn (he1'.own hS (by simp)) (by simp) rfl (put_snap _ _) fun w2 hs2 hS2 he2 => ?_
  refine open_recs hS2 rfl ((hD.ext he1' (by simp)).ext he2 (fun k hk => by simp; intro h; subst h; exact htF hk)) htF hwf ((hext.trans he1').trans' he2 (fun x hx hl => by simp at hx; omega)) ht fun w' hw' hE => ?_
  refine hR w' ?_ hE
  have e : withHeads S D = { S with snap := areaV D (curH D).area (curH D).size, used := fun i => if i < 6 then recOk (blk D (8 + i)) else S.used i, recs := fun i => if i < 6 then recOf (blk D (8 + i)) else S.recs i } := by
    unfold withHeads; rw [← hh, ← hsl]
  rw [e]; exact hw'
theorem open_b7 {w w0 : World} {t d : Nat} {D : DiskS} {F : List Nat} {S : StoreS} (hS : StoreAt w t S) (hSd : S.d = d) (hh : S.h = rawH D) (hsl : S.hSlot = slotH D) (hD : DiskAt w d D F) (htF : t ∉ F) (hwf : DiskWf D) (hext : Ext [] w0 w) (ht : w0.heap.size ≤ t)
    {R : Option Addr → World → Prop} (hR : ∀ w', StoreAt w' t (withHeads S D) → Ext [] w0 w' → R (some ⟨t, 0, none⟩) w') : store_Open.B7 t w R := by
  subst hSd
  unfold store_Open.B7
  refine LdB.fn hS (by decide) (cell_hOk _) ?_
  by_cases hok : (rawH D).ok = true
  · refine Bm.neg (by simp [hh, hok]) (open_b8 hS rfl ?_ hsl hD htF hwf hext ht hR)
    rw [hh]; simp [curH, hok]
  · refine Bm.pos (by simp [hh, hok]) (Sts.fn hS (by simp) rfl (put_area _ 1) fun w1 hs1 hS1 he1 => ?_)
    refine open_b8 hS1 rfl ?_ hsl (hD.ext he1 (fun k hk => by simp; intro h; subst h; exact htF hk)) htF hwf (hext.trans' he1 (fun x hx hl => by simp at hx; omega)) ht hR
    show { S.h with area := 1 } = _
    rw [hh]; simp [curH, hok]
theorem open_b6 {w w0 : World} {t d r0 : Nat} {D : DiskS} {F : List Nat} {S : StoreS} (hS : StoreAt w t S) (hSd : S.d = d) (hh : S.h = decHead (blk D 3)) (hsl : S.hSlot = 1) (hD : DiskAt w d D F) (htF : t ∉ F) (hwf : DiskWf D) (hext : Ext [] w0 w) (ht : w0.heap.size ≤ t)
    (h0 : Own w r0 #[.bool (decHead (blk D 2)).ok, .int .i64 (decHead (blk D 2)).num, .int .i64 (decHead (blk D 2)).idx, .int .i64 (decHead (blk D 2)).term, .int .i64 (decHead (blk D 2)).area, .int .i64 (decHead (blk D 2)).size] T_store_head)
    {R : Option Addr → World → Prop} (hR : ∀ w', StoreAt w' t (withHeads S D) → Ext [] w0 w' → R (some ⟨t, 0, none⟩) w') {x : Bool} (hx : x = pickH D) : store_Open.B6 t r0 x w R := by
  subst hSd
  subst hx
  unfold store_Open.B6
  refine Bm.mk (fun hp => ?_) (fun hp => ?_)
  · refine LdB.mk h0 rfl (LdI.mk h0 rfl (LdI.mk h0 rfl (LdI.mk h0 rfl (LdI.mk h0 rfl (LdI.mk h0 rfl ?_)))))
    refine Sts.fn hS (by simp) rfl (put_head _ (decHead (blk D 2))) fun w11 hs11 hS11 he11 => ?_
    refine Sts.fn hS11 (by simp) rfl (put_hSlot _ 0) fun w12 hs12 hS12 he12 => ?_
    have e12 : Ext [t] w w12 := he11.trans he12
    exact open_b7 hS12 rfl (by simp [rawH, hp]) (by simp [slotH, hp]) (hD.ext e12 (fun k hk => by simp; intro h; subst h; exact htF hk)) htF hwf (hext.trans' e12 (fun x hx hl => by simp at hx; omega)) ht hR
  · exact open_b7 hS rfl (by simp [rawH, hp, hh]) (by simp [slotH, hp, hsl]) hD htF hwf hext ht hR
/-- The second part: the heads, the snapshot, the records. -/
theorem open_heads {w w0 : World} {t d : Nat} {D : DiskS} {F : List Nat} {S : StoreS} (hS : StoreAt w t S) (hSd : S.d = d) (hD : DiskAt w d D F) (htF : t ∉ F) (hwf : DiskWf D) (hext : Ext [] w0 w) (ht : w0.heap.size ≤ t)
    {R : Option Addr → World → Prop} (hR : ∀ w', StoreAt w' t (withHeads S D) → Ext [] w0 w' → R (some ⟨t, 0, none⟩) w') : store_Open.B5 t w R := by
  subst hSd
  unfold store_Open.B5
  refine read_ok hS (fnArr_get _ (by decide)) hD (by omega) (by omega) (read_ok hS (fnArr_get _ (by decide)) hD (by omega) (by omega) ?_)
  refine decHead_ok (b := blk D 2) (hwf 2 (by omega)) fun w3 he3 => New.mk fun r0 w4 hr0 hs4 ho4 he4 => Sts.full ho4 rfl rfl fun w5 hs5 ho5 he5 => ?_
  have h3s := he3.size
  have e5 : Ext [] w w5 := (he3.trans he4).trans' he5 (fun x hx hl => by simp at hx; omega)
  refine decHead_ok (b := blk D 3) (hwf 3 (by omega)) fun w6 he6 => New.mk fun r1 w7 hr1 hs7 ho7 he7 => Sts.full ho7 rfl rfl fun w8 hs8 ho8 he8 => ?_
  have h6s := he6.size
  have e8 : Ext [] w5 w8 := (he6.trans he7).trans' he8 (fun x hx hl => by simp at hx; omega)
  have ho5' := e8.own ho5 (by simp)
  have htlt := hS.lt
  refine LdB.mk ho8 rfl (LdI.mk ho8 rfl (LdI.mk ho8 rfl (LdI.mk ho8 rfl (LdI.mk ho8 rfl (LdI.mk ho8 rfl ?_)))))
  have hS8 : StoreAt w8 t S := e8.own (e5.own hS (by simp)) (by simp)
  refine Sts.fn hS8 (by simp) rfl (put_head _ (decHead (blk D 3))) fun w9 hs9 hS9 he9 => ?_
  refine Sts.fn hS9 (by simp) rfl (put_hSlot _ 1) fun w10 hs10 hS10 he10 => ?_
  have e10 : Ext [t] w8 w10 := he9.trans he10
  have ho5'' := e10.own ho5' (by simp; omega)
  have ho8' := e10.own ho8 (by simp; omega)
  have E10 : Ext [] w0 w10 := ((hext.trans e5).trans e8).trans' e10 (fun x hx hl => by simp at hx; omega)
  have hD10 : DiskAt w10 S.d D F := ((hD.ext e5 (by simp)).ext e8 (by simp)).ext e10 (fun k hk => by simp; intro h; subst h; exact htF hk)
  have b6 : ∀ x, x = pickH D → store_Open.B6 t r0 x w10 R := fun x hx => open_b6 hS10 rfl rfl rfl hD10 htF hwf E10 ht ho5'' hR hx
  refine LdB.mk ho5'' rfl (Bm.mk (fun h0 => LdB.mk ho8' rfl (Bm.mk (fun h1 => b6 true ?_) (fun h1 => LdI.mk ho5'' rfl (LdI.mk ho8' rfl (b6 _ ?_))))) (fun h0 => b6 false ?_))
  · simp at h1; simp [pickH, h0, h1]
  · simp at h1; simp [pickH, h0, h1]
  · simp [pickH, h0]

theorem open_b4 {w w0 : World} {t d : Nat} {D : DiskS} {F : List Nat} {S : StoreS} (hS : StoreAt w t S) (hSd : S.d = d) (hm : S.m = rawM D) (hD : DiskAt w d D F) (htF : t ∉ F) (hwf : DiskWf D) (hext : Ext [] w0 w) (ht : w0.heap.size ≤ t)
    {R : Option Addr → World → Prop} (hR : ∀ w', StoreAt w' t (withHeads { S with m := curM D } D) → Ext [] w0 w' → R (some ⟨t, 0, none⟩) w') : store_Open.B4 t w R := by
  subst hSd
  unfold store_Open.B4
  refine LdB.fn hS (by decide) (cell_mOk _) ?_
  by_cases hok : (rawM D).ok = true
  · refine Bm.neg (by simp [hm, hok]) (open_heads hS rfl hD htF hwf hext ht ?_)
    have e : S = { S with m := curM D } := by
      have : curM D = S.m := by rw [hm]; simp [curM, hok]
      rw [this]
    rw [← e] at hR; exact hR
  · refine Bm.pos (by simp [hm, hok]) (Sts.fn hS (by simp) rfl (put_vote _ (-1)) fun w1 hs1 hS1 he1 => ?_)
    refine open_heads hS1 rfl (hD.ext he1 (fun k hk => by simp; intro h; subst h; exact htF hk)) htF hwf (hext.trans' he1 (fun x hx hl => by simp at hx; omega)) ht ?_
    have e : ({ S with m := { S.m with vote := -1 } } : StoreS) = { S with m := curM D } := by
      have : curM D = { S.m with vote := -1 } := by rw [hm]; simp [curM, hok]
      rw [this]
    rw [e]; exact hR
theorem open_b2 {w w0 : World} {t d r0 : Nat} {D : DiskS} {F : List Nat} {S : StoreS} (hS : StoreAt w t S) (hSd : S.d = d) (hm : S.m = decMeta (blk D 1)) (hsl : S.mSlot = 1) (hD : DiskAt w d D F) (htF : t ∉ F) (hwf : DiskWf D) (hext : Ext [] w0 w) (ht : w0.heap.size ≤ t)
    (h0 : Own w r0 #[.bool (decMeta (blk D 0)).ok, .int .i64 (decMeta (blk D 0)).num, .int .i64 (decMeta (blk D 0)).term, .int .i64 (decMeta (blk D 0)).vote] T_store_meta)
    {R : Option Addr → World → Prop} (hR : ∀ w', StoreAt w' t (withHeads { S with m := curM D, mSlot := slotM D } D) → Ext [] w0 w' → R (some ⟨t, 0, none⟩) w') {x : Bool} (hx : x = pickM D) : store_Open.B2 t r0 x w R := by
  subst hSd
  subst hx
  unfold store_Open.B2
  refine Bm.mk (fun hp => ?_) (fun hp => ?_)
  · refine LdB.mk h0 rfl (LdI.mk h0 rfl (LdI.mk h0 rfl (LdI.mk h0 rfl ?_)))
    refine Sts.fn hS (by simp) rfl (put_meta _ (decMeta (blk D 0))) fun w11 hs11 hS11 he11 => ?_
    refine Sts.fn hS11 (by simp) rfl (put_mSlot _ 0) fun w12 hs12 hS12 he12 => ?_
    have e12 : Ext [t] w w12 := he11.trans he12
    refine open_b4 hS12 rfl (by simp [rawM, hp]) (hD.ext e12 (fun k hk => by simp; intro h; subst h; exact htF hk)) htF hwf (hext.trans' e12 (fun x hx hl => by simp at hx; omega)) ht ?_
    have : slotM D = 0 := by simp [slotM, hp]
    rw [this] at hR; exact hR
  · refine open_b4 hS rfl (by simp [rawM, hp, hm]) hD htF hwf hext ht ?_
    have : slotM D = S.mSlot := by simp [slotM, hp, hsl]
    rw [this] at hR; exact hR
theorem open_ok {w : World} {d : Nat} {D : DiskS} {F : List Nat} (hD : DiskAt w d D F) (hwf : DiskWf D) {R : Option Addr → World → Prop}
    (hR : ∀ t w', w.heap.size ≤ t → StoreAt w' t (withHeads { zeroS d with stamp := fun i => if i < 14 then stampOf D i else 0, m := curM D, mSlot := slotM D } D) → Ext [] w w' → R (some ⟨t, 0, none⟩) w') : store_Open.Call (some ⟨d, 0, none⟩) w R := by
  apply store_Open.sound
  unfold store_Open.B0
  refine New.mk fun t w1 hr hs1 ho1 he1 => ?_
  rw [zeroS_cells d] at ho1
  have hlt := hD.lt
  have htF : t ∉ F := fun h => by have := hlt t h; omega
  have ht : w.heap.size ≤ t := by omega
  refine ⟨fun m t' b w' => t = t' ∧ 0 ≤ b ∧ b ≤ 14 ∧ m = (14 - b).toNat ∧ Ext [] w w' ∧ DiskAt w' d D F ∧ StoreAt w' t { zeroS d with stamp := fun i => if i < b.toNat then stampOf D i else 0 }, 14,
    ⟨rfl, by omega, by omega, rfl, he1, hD.ext he1 (by simp), by
      have e : ({ zeroS d with stamp := fun i => if i < (0 : Int).toNat then stampOf D i else 0 } : StoreS) = zeroS d := by simp [zeroS]
      rw [e]; exact ho1⟩, ?_⟩
  rintro m t' b w' ⟨rfl, hb0, hb1, rfl, hw', hD', hS'⟩
  unfold store_Open.L1b
  refine Bm.ite (fun hlt2 => ?_) (fun hge => ?_)
  · refine read_ok hS' (fnArr_get _ (by decide)) hD' hb0 hlt2 ?_
    have e2 : IntKind.i64.wrap (b + 1) = b + 1 := wrap64_id (by omega) (by omega)
    have e3 : (b + 1).toNat = b.toNat + 1 := by omega
    have hx : (D.now.getD b.toNat zblock).size = 64 := hwf b.toNat (by omega)
    have yes : (b.toNat < 4 ∨ 8 ≤ b.toNat) → store_Open.B1 t b (D.now.getD b.toNat zblock) true w' (fun t' b' w' => ∃ m', m' < (14 - b).toNat ∧ t = t' ∧ 0 ≤ b' ∧ b' ≤ 14 ∧ m' = (14 - b').toNat ∧ Ext [] w w' ∧ DiskAt w' d D F ∧ StoreAt w' t { zeroS d with stamp := fun i => if i < b'.toNat then stampOf D i else 0 }) R := by
      intro hin
      unfold store_Open.B1
      refine Bm.pos rfl ⟨⟨by omega, by omega⟩, ⟨hb0, by omega⟩, ?_⟩
      rw [add_mk, Nat.mul_one]
      have hb14 : b.toNat < 14 := by omega
      refine Sts.fn hS'.drew (by simp; omega) rfl (put_stamp _ hb14 _) fun w2 hs2 hS2 he2 => ?_
      have e2' : Ext [t] w' w2 := (Ext.drew _ _).trans he2
      unfold store_Open.B3
      rw [e2]
      refine ⟨(14 - (b + 1)).toNat, by omega, rfl, by omega, by omega, rfl, hw'.trans' e2' (fun x hx hl => by simp at hx; omega), hD'.ext e2' (fun k hk => by simp; intro h; subst h; exact htF hk), ?_⟩
      rw [e3, upto_succ (stampOf D)]
      have : stampOf D b.toNat = byteAt (D.now.getD b.toNat zblock) 63 := by unfold stampOf; rw [if_pos hin]; rfl
      rw [this]; exact hS2
    have no : ¬ (b.toNat < 4 ∨ 8 ≤ b.toNat) → store_Open.B1 t b (D.now.getD b.toNat zblock) false w' (fun t' b' w' => ∃ m', m' < (14 - b).toNat ∧ t = t' ∧ 0 ≤ b' ∧ b' ≤ 14 ∧ m' = (14 - b').toNat ∧ Ext [] w w' ∧ DiskAt w' d D F ∧ StoreAt w' t { zeroS d with stamp := fun i => if i < b'.toNat then stampOf D i else 0 }) R := by
      intro hout
      unfold store_Open.B1
      refine Bm.neg rfl ?_
      unfold store_Open.B3
      rw [e2]
      refine ⟨(14 - (b + 1)).toNat, by omega, rfl, by omega, by omega, rfl, hw', hD', ?_⟩
      have : (fun i => if i < (b + 1).toNat then stampOf D i else 0) = fun i => if i < b.toNat then stampOf D i else 0 := by
        funext i
        rw [e3]
        by_cases h1 : i < b.toNat
        · rw [if_pos h1, if_pos (by omega)]
        · rw [if_neg h1]
          by_cases h2 : i = b.toNat
          · subst h2; rw [if_pos (by omega)]; unfold stampOf; rw [if_neg hout]
          · rw [if_neg (by omega)]
      rw [this]; exact hS'
    refine Bm.ite (fun h4 => yes (.inl (by omega))) (fun h4 => ?_)
    by_cases h8 : b ≥ 8
    · rw [decide_eq_true h8]; exact yes (.inr (by omega))
    · rw [decide_eq_false h8]; exact no (by omega)
  · have : b = 14 := by omega
    subst this
    refine read_ok hS' (fnArr_get _ (by decide)) hD' (by omega) (by omega) (read_ok hS' (fnArr_get _ (by decide)) hD' (by omega) (by omega) ?_)
    refine decMeta_ok (b := blk D 0) (hwf 0 (by omega)) fun w3 he3 => New.mk fun r0 w4 hr0 hs4 ho4 he4 => Sts.full ho4 rfl rfl fun w5 hs5 ho5 he5 => ?_
    have h3s := he3.size
    have e5 : Ext [] w' w5 := (he3.trans he4).trans' he5 (fun x hx hl => by simp at hx; omega)
    refine decMeta_ok (b := blk D 1) (hwf 1 (by omega)) fun w6 he6 => New.mk fun r1 w7 hr1 hs7 ho7 he7 => Sts.full ho7 rfl rfl fun w8 hs8 ho8 he8 => ?_
    have h6s := he6.size
    have e8 : Ext [] w5 w8 := (he6.trans he7).trans' he8 (fun x hx hl => by simp at hx; omega)
    have ho5' := e8.own ho5 (by simp)
    have htlt := hS'.lt
    refine LdB.mk ho8 rfl (LdI.mk ho8 rfl (LdI.mk ho8 rfl (LdI.mk ho8 rfl ?_)))
    have hS8 := e8.own (e5.own hS' (by simp)) (by simp)
    refine Sts.fn hS8 (by simp) rfl (put_meta _ (decMeta (blk D 1))) fun w9 hs9 hS9 he9 => ?_
    refine Sts.fn hS9 (by simp) rfl (put_mSlot _ 1) fun w10 hs10 hS10 he10 => ?_
    have e10 : Ext [t] w8 w10 := he9.trans he10
    have ho5'' := e10.own ho5' (by simp; omega)
    have ho8' := e10.own ho8 (by simp; omega)
    have E10 : Ext [] w w10 := ((hw'.trans e5).trans e8).trans' e10 (fun x hx hl => by simp at hx; omega)
    have hD10 : DiskAt w10 d D F := ((hD'.ext e5 (by simp)).ext e8 (by simp)).ext e10 (fun k hk => by simp; intro h; subst h; exact htF hk)
    have b2 : ∀ x, x = pickM D → store_Open.B2 t r0 x w10 R := fun x hx => open_b2 hS10 rfl rfl rfl hD10 htF hwf E10 ht ho5'' (fun w' h1 h2 => hR t w' ht h1 h2) hx
    refine LdB.mk ho5'' rfl (Bm.mk (fun h0 => LdB.mk ho8' rfl (Bm.mk (fun h1 => b2 true ?_) (fun h1 => LdI.mk ho5'' rfl (LdI.mk ho8' rfl (b2 _ ?_))))) (fun h0 => b2 false ?_))
    · simp at h1; simp [pickM, h0, h1]
    · simp at h1; simp [pickM, h0, h1]
    · simp [pickM, h0]

/-- What Open yields. -/
def openR (d : Nat) (D : DiskS) : StoreS := withHeads { zeroS d with stamp := fun i => if i < 14 then stampOf D i else 0, m := curM D, mSlot := slotM D } D

/-! ### The observers -/
theorem meta_ok {w : World} {t : Nat} {S : StoreS} (hS : StoreAt w t S) {R : Int → Int → World → Prop} (hR : R S.m.term S.m.vote w.drew) : store_Store_Meta.Call (some ⟨t, 0, none⟩) w R := by
  apply store_Store_Meta.sound
  unfold store_Store_Meta.B0
  refine Pn.mk ?_
  rw [add_mk, add_mk]
  refine LdI.fn hS.drew (by decide) (cell_mTerm _) (Pn.mk ?_)
  rw [add_mk, add_mk]
  exact LdI.fn hS.drew (by decide) (cell_mVote _) hR
theorem snap_ok {w : World} {t : Nat} {S : StoreS} (hS : StoreAt w t S) {R : Int → Int → ByteArray → World → Prop} (hR : R S.h.idx S.h.term S.snap w.drew) : store_Store_Snap.Call (some ⟨t, 0, none⟩) w R := by
  apply store_Store_Snap.sound
  unfold store_Store_Snap.B0
  refine Pn.mk ?_
  rw [add_mk, add_mk]
  refine LdI.fn hS.drew (by decide) (cell_hIdx _) (Pn.mk ?_)
  rw [add_mk, add_mk]
  refine LdI.fn hS.drew (by decide) (cell_hTerm _) (Pn.mk ?_)
  rw [add_mk]
  exact LdS.fn hS.drew (by decide) (cell_snap _) hR
/-- Rec's answer. -/
def recAns (S : StoreS) (slot : Int) : RecS × Int :=
  if slot < 0 ∨ 6 ≤ slot then (⟨0, 0, estr⟩, 1) else if S.used slot.toNat then (S.recs slot.toNat, 0) else (⟨0, 0, estr⟩, 2)
theorem rec_ok {w : World} {t : Nat} {S : StoreS} (hS : StoreAt w t S) {slot : Int} {R : Int → Int → ByteArray → Int → World → Prop}
    (hR : ∀ w', Ext [] w w' → R (recAns S slot).1.idx (recAns S slot).1.term (recAns S slot).1.data (recAns S slot).2 w') : store_Store_Rec.Call (some ⟨t, 0, none⟩) slot w R := by
  apply store_Store_Rec.sound
  unfold store_Store_Rec.B0
  refine New.mk fun r w1 hr hs1 ho1 he1 => ?_
  have hS1 := he1.own hS (by simp)
  have bad : (slot < 0 ∨ 6 ≤ slot) → store_Store_Rec.B1 (some ⟨t, 0, none⟩) slot r true w1 R := by
    intro h
    have e : recAns S slot = (⟨0, 0, estr⟩, 1) := by unfold recAns; rw [if_pos h]
    rw [e] at hR
    unfold store_Store_Rec.B1
    refine Bm.pos rfl (Sts.full ho1 rfl rfl fun w2 hs2 ho2 he2 => ?_)
    exact LdI.mk ho2 rfl (LdI.mk ho2 rfl (LdS.mk ho2 rfl (hR w2 (he1.trans' he2 fun x hx hl => by simp at hx; omega))))
  refine Bm.ite (fun h => bad (.inl h)) (fun h => ?_)
  by_cases h6 : slot ≥ 6
  · rw [decide_eq_true h6]; exact bad (.inr h6)
  rw [decide_eq_false h6]
  have hs6 : slot.toNat < 6 := by omega
  unfold store_Store_Rec.B1
  refine Bm.neg rfl (Pn.mk ⟨⟨by omega, by omega⟩, ?_⟩)
  rw [add_mk, add_mk, Nat.mul_one]
  refine LdB.fn hS1 (by omega) (by rw [Nat.zero_add]; exact cell_used _ hs6) ?_
  refine Bm.mk (fun hu => ?_) (fun hu => ?_)
  · have e : recAns S slot = (⟨0, 0, estr⟩, 2) := by unfold recAns; rw [if_neg (by omega), if_neg (by simpa using hu)]
    rw [e] at hR
    refine Sts.full ho1 rfl rfl fun w2 hs2 ho2 he2 => ?_
    exact LdI.mk ho2 rfl (LdI.mk ho2 rfl (LdS.mk ho2 rfl (hR w2 (he1.trans' he2 fun x hx hl => by simp at hx; omega))))
  · have e : recAns S slot = (S.recs slot.toNat, 0) := by unfold recAns; rw [if_neg (by omega), if_pos (by simpa using hu)]
    rw [e] at hR
    refine Pn.mk ⟨⟨by omega, by omega⟩, ?_⟩
    rw [add_mk, add_mk, add_mk, add_mk, Nat.zero_add]
    refine LdI.fn hS1 (by omega) (cell_rIdx _ hs6) (LdI.fn hS1 (by omega) (cell_rTerm _ hs6) (LdS.fn hS1 (by omega) (cell_rData _ hs6) ?_))
    refine Sts.full ho1 rfl rfl fun w2 hs2 ho2 he2 => ?_
    exact LdI.mk ho2 rfl (LdI.mk ho2 rfl (LdS.mk ho2 rfl (hR w2 (he1.trans' he2 fun x hx hl => by simp at hx; omega))))
end Go.Proofs.Qxb6500430aGreat
