/-
  store: disk images, torn blocks, what Open decodes of a changed image.
-/
import Derived.Test.Qxb6500430aGreatStA
set_option linter.unusedVariables false
set_option linter.unusedSimpArgs false
open Go.Vc
namespace Go.Proofs.Qxb6500430aGreat

/-! ### strings, byte by byte -/
theorem str_ext {a : ByteArray} {n : Nat} {f : Nat → UInt8} (hn : a.size = n) (h : ∀ j, j < n → ubyte a j = f j) : a = mkStr n f := by
  rw [← mkStr_self a, hn]
  exact mkStr_congr h
theorem ubyte_append {a b : ByteArray} {j : Nat} : ubyte (a ++ b) j = if j < a.size then ubyte a j else ubyte b (j - a.size) := by
  unfold ubyte
  have e : (a ++ b).data.toList = a.data.toList ++ b.data.toList := by
    rw [ByteArray.data_append, Array.toList_append]
  have hs : a.size = a.data.toList.length := by rw [Array.length_toList]; rfl
  rw [e, hs]
  simp only [List.getD]
  by_cases h : j < a.data.toList.length
  · rw [if_pos h, List.getElem?_append_left h]
  · rw [if_neg h, List.getElem?_append_right (by omega)]
theorem size_append (a b : ByteArray) : (a ++ b).size = a.size + b.size := ByteArray.size_append
theorem ubyte_extract {a : ByteArray} {i e j : Nat} (h : i + j < e) (he : e ≤ a.size) : ubyte (a.extract i e) j = ubyte a (i + j) := by
  unfold ubyte
  have e1 : (a.extract i e).data = a.data.extract i e := ByteArray.data_extract
  have hs : a.size = a.data.size := rfl
  rw [e1]
  simp only [List.getD]
  congr 1
  rw [Array.getElem?_toList, Array.getElem?_toList, Array.getElem?_extract, if_pos (by omega)]
theorem size_extract {a : ByteArray} {i e : Nat} (he : e ≤ a.size) (hi : i ≤ e) : (a.extract i e).size = e - i := by
  rw [ByteArray.size_extract]
  omega
/-- The first half of x over o. -/
def torn (x o : ByteArray) : ByteArray := mkStr 64 fun j => if j < 32 then ubyte x j else ubyte o j
theorem torn_eq {x o : ByteArray} (hx : x.size = 64) (ho : o.size = 64) : x.extract 0 32 ++ o.extract 32 o.size = torn x o := by
  have h1 : (x.extract 0 32).size = 32 := size_extract (by omega) (by omega)
  have h2 : (o.extract 32 o.size).size = o.size - 32 := size_extract (by omega) (by omega)
  refine str_ext (by rw [size_append]; omega) fun j hj => ?_
  rw [ubyte_append, h1]
  by_cases h : j < 32
  · rw [if_pos (by omega), if_pos h, ubyte_extract (by omega) (by omega), Nat.zero_add]
  · rw [if_neg (by omega), if_neg h, ubyte_extract (by omega) (by omega), show 32 + (j - 32) = j by omega]
theorem full_eq {x o : ByteArray} (hx : x.size = 64) : (torn x o).extract 0 32 ++ x.extract 32 x.size = x := by
  have ht : (torn x o).size = 64 := mkStr_size _ _
  have h1 : ((torn x o).extract 0 32).size = 32 := size_extract (by omega) (by omega)
  have h2 : (x.extract 32 x.size).size = x.size - 32 := size_extract (by omega) (by omega)
  have := str_ext (a := (torn x o).extract 0 32 ++ x.extract 32 x.size) (n := 64) (f := fun j => ubyte x j) (by rw [size_append]; omega) fun j hj => by
    rw [ubyte_append, h1]
    by_cases h : j < 32
    · rw [if_pos (by omega), ubyte_extract (by omega) (by omega), Nat.zero_add]
      unfold torn
      rw [ubyte_mk (by omega), if_pos h]
    · rw [if_neg (by omega), ubyte_extract (by omega) (by omega), show 32 + (j - 32) = j by omega]
  rw [this]
  have h64 := mkStr_self x
  rw [hx] at h64
  exact h64
theorem byteAt_nat (s : ByteArray) (i : Nat) : byteAt s (i : Int) = ((ubyte s i).toNat : Int) := rfl
theorem torn_first {x o : ByteArray} : ubyte (torn x o) 0 = ubyte x 0 := by
  unfold torn
  rw [ubyte_mk (by omega), if_pos (by omega)]
theorem torn_last {x o : ByteArray} : ubyte (torn x o) 63 = ubyte o 63 := by
  unfold torn
  rw [ubyte_mk (by omega), if_neg (by omega)]
theorem torn_notWhole {x o : ByteArray} (h : ubyte x 0 ≠ ubyte o 63) : whole (torn x o) = false := by
  unfold whole
  have e0 : byteAt (torn x o) 0 = ((ubyte x 0).toNat : Int) := by
    have := byteAt_nat (torn x o) 0
    rw [torn_first] at this
    exact this
  have e1 : byteAt (torn x o) 63 = ((ubyte o 63).toNat : Int) := by
    have := byteAt_nat (torn x o) 63
    rw [torn_last] at this
    exact this
  rw [e0, e1]
  have : ((ubyte x 0).toNat : Int) ≠ ((ubyte o 63).toNat : Int) := fun e => h (UInt8.toNat_inj.1 (by omega))
  simp [this]

/-! ### images -/
def DiskS.put (D : DiskS) (b : Nat) (y : ByteArray) : DiskS := { D with now := D.now.set b y }
theorem blk_put {D : DiskS} {b i : Nat} {y : ByteArray} (hl : D.now.length = 14) (hb : b < 14) : blk (D.put b y) i = if i = b then y else blk D i := by
  unfold blk DiskS.put
  simp only [List.getD]
  rw [List.getElem?_set]
  by_cases e : b = i
  · subst e
    rw [if_pos rfl, if_pos (by omega), if_pos rfl]
    rfl
  · rw [if_neg e, if_neg (fun h => e h.symm)]
theorem openR_eq {d : Nat} {D : DiskS} {S : StoreS} (hd : S.d = d) (h1 : ∀ i, i < 14 → S.stamp i = stampOf D i) (h1' : ∀ i, 14 ≤ i → S.stamp i = 0) (h2 : S.m = curM D) (h3 : S.mSlot = slotM D) (h4 : S.h = curH D) (h5 : S.hSlot = slotH D) (h6 : S.snap = areaV D (curH D).area (curH D).size)
    (h7 : ∀ i, i < 6 → S.used i = recOk (blk D (8 + i))) (h7' : ∀ i, 6 ≤ i → S.used i = false) (h8 : ∀ i, i < 6 → S.recs i = recOf (blk D (8 + i))) (h8' : ∀ i, 6 ≤ i → S.recs i = ⟨0, 0, estr⟩) : S = openR d D := by
  have e1 : S.stamp = fun i => if i < 14 then stampOf D i else 0 := by
    funext i
    by_cases h : i < 14
    · rw [if_pos h]; exact h1 i h
    · rw [if_neg h]; exact h1' i (by omega)
  have e7 : S.used = fun i => if i < 6 then recOk (blk D (8 + i)) else false := by
    funext i
    by_cases h : i < 6
    · rw [if_pos h]; exact h7 i h
    · rw [if_neg h]; exact h7' i (by omega)
  have e8 : S.recs = fun i => if i < 6 then recOf (blk D (8 + i)) else ⟨0, 0, estr⟩ := by
    funext i
    by_cases h : i < 6
    · rw [if_pos h]; exact h8 i h
    · rw [if_neg h]; exact h8' i (by omega)
  cases S
  simp only at hd h2 h3 h4 h5 h6 e1 e7 e8
  subst hd h2 h3 h4 h5 h6 e1 e7 e8
  rfl
theorem openR_stamp {d : Nat} {D : DiskS} {i : Nat} (h : i < 14) : (openR d D).stamp i = stampOf D i := by
  show (if i < 14 then stampOf D i else 0) = _
  rw [if_pos h]
theorem openR_stamp' {d : Nat} {D : DiskS} {i : Nat} (h : 14 ≤ i) : (openR d D).stamp i = 0 := by
  show (if i < 14 then stampOf D i else 0) = _
  rw [if_neg (by omega)]
theorem openR_used {d : Nat} {D : DiskS} {i : Nat} (h : i < 6) : (openR d D).used i = recOk (blk D (8 + i)) := by
  show (if i < 6 then _ else _) = _
  rw [if_pos h]
theorem openR_used' {d : Nat} {D : DiskS} {i : Nat} (h : 6 ≤ i) : (openR d D).used i = false := by
  show (if i < 6 then _ else _) = _
  rw [if_neg (by omega)]
  rfl
theorem openR_recs {d : Nat} {D : DiskS} {i : Nat} (h : i < 6) : (openR d D).recs i = recOf (blk D (8 + i)) := by
  show (if i < 6 then _ else _) = _
  rw [if_pos h]
theorem openR_recs' {d : Nat} {D : DiskS} {i : Nat} (h : 6 ≤ i) : (openR d D).recs i = ⟨0, 0, estr⟩ := by
  show (if i < 6 then _ else _) = _
  rw [if_neg (by omega)]
  rfl
structure Good (D : DiskS) (N : Int) : Prop where
  len : D.now.length = 14
  wf : DiskWf D
  numM : 0 ≤ (curM D).num ∧ (curM D).num ≤ N
  otherM : (decMeta (blk D (1 - slotM D).toNat)).ok = true → (decMeta (blk D (1 - slotM D).toNat)).num = (curM D).num - 1
  numH : 0 ≤ (curH D).num ∧ (curH D).num ≤ N
  otherH : (decHead (blk D (3 - slotH D).toNat)).ok = true → (decHead (blk D (3 - slotH D).toNat)).num = (curH D).num - 1 ∧ (decHead (blk D (3 - slotH D).toNat)).area ≠ (curH D).area
theorem Good.mono {D : DiskS} {N M : Int} (h : Good D N) (hm : N ≤ M) : Good D M := ⟨h.len, h.wf, ⟨h.numM.1, by have := h.numM.2; omega⟩, h.otherM, ⟨h.numH.1, by have := h.numH.2; omega⟩, h.otherH⟩
theorem put_wf {D : DiskS} {b : Nat} {y : ByteArray} (hl : D.now.length = 14) (hb : b < 14) (h : DiskWf D) (hy : y.size = 64) : DiskWf (D.put b y) := fun i hi => by
  rw [blk_put hl hb]
  split
  · exact hy
  · exact h i hi
theorem put_len {D : DiskS} {b : Nat} {y : ByteArray} (hl : D.now.length = 14) : (D.put b y).now.length = 14 := by
  show (D.now.set b y).length = 14
  rw [List.length_set]
  exact hl
theorem areaV_congr {D D' : DiskS} {a n : Int} (ha : 0 ≤ a ∧ a ≤ 1) (hn : n ≤ 128) (h0 : blk D' (4 + 2 * a.toNat) = blk D (4 + 2 * a.toNat)) (h1 : blk D' (5 + 2 * a.toNat) = blk D (5 + 2 * a.toNat)) : areaV D' a n = areaV D a n := by
  unfold areaV
  refine mkStr_congr fun j hj => ?_
  unfold areaByte
  have : j / 64 = 0 ∨ j / 64 = 1 := by omega
  rcases this with e | e
  · rw [e]
    have h0' : D'.now.getD (4 + 2 * a.toNat + 0) zblock = D.now.getD (4 + 2 * a.toNat + 0) zblock := h0
    rw [h0']
  · rw [e]
    have h1' : D'.now.getD (4 + 2 * a.toNat + 1) zblock = D.now.getD (4 + 2 * a.toNat + 1) zblock := by
      have e5 : 4 + 2 * a.toNat + 1 = 5 + 2 * a.toNat := by omega
      rw [e5]
      exact h1
    rw [h1']
/-- All that Open reads of the meta slots. -/
theorem meta_congr {D D' : DiskS} (h0 : blk D' 0 = blk D 0) (h1 : blk D' 1 = blk D 1) : curM D' = curM D ∧ slotM D' = slotM D := by
  have e : pickM D' = pickM D := by unfold pickM; rw [h0, h1]
  have e2 : rawM D' = rawM D := by unfold rawM; rw [e, h0, h1]
  exact ⟨by unfold curM; rw [e2], by unfold slotM; rw [e]⟩
theorem head_congr {D D' : DiskS} (h0 : blk D' 2 = blk D 2) (h1 : blk D' 3 = blk D 3) : curH D' = curH D ∧ slotH D' = slotH D := by
  have e : pickH D' = pickH D := by unfold pickH; rw [h0, h1]
  have e2 : rawH D' = rawH D := by unfold rawH; rw [e, h0, h1]
  exact ⟨by unfold curH; rw [e2], by unfold slotH; rw [e]⟩
theorem slotM_01 (D : DiskS) : slotM D = 0 ∨ slotM D = 1 := by unfold slotM; split <;> simp
theorem slotH_01 (D : DiskS) : slotH D = 0 ∨ slotH D = 1 := by unfold slotH; split <;> simp
theorem stampOf_put {D : DiskS} {b i : Nat} {y : ByteArray} (hl : D.now.length = 14) (hb : b < 14) : stampOf (D.put b y) i = if i = b ∧ (b < 4 ∨ 8 ≤ b) then byteAt y 63 else stampOf D i := by
  unfold stampOf
  rw [blk_put hl hb]
  by_cases e : i = b
  · subst e
    by_cases h : i < 4 ∨ 8 ≤ i
    · rw [if_pos h, if_pos rfl, if_pos ⟨rfl, h⟩]
    · rw [if_neg h, if_neg (fun q => h q.2), if_neg h]
  · rw [if_neg e, if_neg (c := i = b ∧ _) (fun q => e q.1)]
end Go.Proofs.Qxb6500430aGreat
