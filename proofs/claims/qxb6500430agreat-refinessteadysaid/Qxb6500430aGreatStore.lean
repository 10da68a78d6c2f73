/-
  The store (package store): decoding, Open, observers.
-/
import Derived.Test.Qxb6500430aGreatDisk
set_option linter.unusedVariables false
open Go.Vc
namespace Go.Proofs.Qxb6500430aGreat

/-! ### Decoding -/
def g8step (v c : Int) : Int := IntKind.i64.wrap (BitVec.ofInt IntKind.i64.bits (IntKind.i64.wrap (v * 2 ^ (min (8 : Int).toNat IntKind.i64.bits))) ||| BitVec.ofInt IntKind.i64.bits (IntKind.i64.wrap c)).toNat
def get8N (b : ByteArray) (p : Int) : Nat → Int
  | 0 => 0
  | n + 1 => g8step (get8N b p n) (byteAt b (p + n))
def get8 (b : ByteArray) (p : Int) : Int := get8N b p 8
def whole (b : ByteArray) : Bool := byteAt b 0 == byteAt b 63 && byteAt b 0 != 0
theorem byteAt_bd (s : ByteArray) (i : Int) : 0 ≤ byteAt s i ∧ byteAt s i ≤ 255 := by
  unfold byteAt
  have := (s.data.toList.getD i.toNat 0).toNat_lt
  omega
theorem whole_ok {w : World} {b : ByteArray} (hb : b.size = 64) {R : Bool → World → Prop} (hR : R (whole b) w.drew) : store_whole.Call b w R := by
  apply store_whole.sound
  unfold store_whole.B0
  refine ⟨⟨by omega, by omega⟩, ⟨by omega, by omega⟩, ?_⟩
  unfold whole at hR
  refine Bm.mk (fun h => ⟨⟨by omega, by omega⟩, ?_⟩) (fun h => ?_)
  · rw [h] at hR; simpa using hR
  · rw [h] at hR; simpa using hR
theorem get8_ok {w : World} {b : ByteArray} {p : Int} (hb : b.size = 64) (h0 : 0 ≤ p) (h1 : p ≤ 56) {R : Int → World → Prop} (hR : R (get8 b p) w) : store_get8.Call b p w R := by
  apply store_get8.sound
  unfold store_get8.B0
  refine ⟨fun m b' p' v i w' => b = b' ∧ p = p' ∧ w = w' ∧ 0 ≤ i ∧ i ≤ 8 ∧ m = (8 - i).toNat ∧ v = get8N b p i.toNat, 8, ⟨rfl, rfl, rfl, by omega, by omega, rfl, rfl⟩, ?_⟩
  rintro m b' p' v i w' ⟨rfl, rfl, rfl, hi0, hi1, rfl, rfl⟩
  unfold store_get8.L1b
  have e1 : IntKind.i64.wrap (p + i) = p + i := wrap64_id (by omega) (by omega)
  have e2 : IntKind.i64.wrap (i + 1) = i + 1 := wrap64_id (by omega) (by omega)
  refine Bm.ite (fun hlt => ⟨by omega, ⟨by rw [e1]; omega, by rw [e1]; omega⟩, (8 - (i + 1)).toNat, by omega, rfl, rfl, rfl, ?_, ?_, ?_, ?_⟩) (fun hge => ?_)
  · rw [e2]; omega
  · rw [e2]; omega
  · rw [e2]
  · rw [e2, e1]
    have : (i + 1).toNat = i.toNat + 1 := by omega
    rw [this, get8N]
    have h3 : p + i = p + (i.toNat : Int) := by omega
    rw [← h3]; rfl
  · have : i = 8 := by omega
    subst this; exact hR
structure MetaS where
  ok : Bool
  num : Int
  term : Int
  vote : Int
def decMeta (b : ByteArray) : MetaS := if whole b then ⟨true, get8 b 1, get8 b 9, byteAt b 32 - 1⟩ else ⟨false, 0, 0, 0⟩
theorem decMeta_ok {w : World} {b : ByteArray} (hb : b.size = 64) {R : Bool → Int → Int → Int → World → Prop} (hR : ∀ w', Ext [] w w' → R (decMeta b).ok (decMeta b).num (decMeta b).term (decMeta b).vote w') : store_decMeta.Call b w R := by
  apply store_decMeta.sound
  unfold store_decMeta.B0
  refine New.mk fun r w1 hr hs1 ho1 he1 => whole_ok hb ?_
  have ho1' := ho1.drew
  have he1' : Ext [] w w1.drew := he1.trans (Ext.drew _ _)
  cases hw : whole b with
  | false =>
    have hd : decMeta b = ⟨false, 0, 0, 0⟩ := by simp [decMeta, hw]
    rw [hd] at hR
    refine Bm.pos rfl (Sts.full ho1' rfl rfl fun w3 hs3 ho3 he3 => ?_)
    exact LdB.mk ho3 rfl (LdI.mk ho3 rfl (LdI.mk ho3 rfl (LdI.mk ho3 rfl (hR w3 (he1'.trans' he3 fun x hx hl => by simp at hx; omega)))))
  | true =>
    have hd : decMeta b = ⟨true, get8 b 1, get8 b 9, byteAt b 32 - 1⟩ := by simp [decMeta, hw]
    rw [hd] at hR
    refine Bm.neg rfl (get8_ok hb (by omega) (by omega) (get8_ok hb (by omega) (by omega) ⟨⟨by omega, by omega⟩, ?_⟩))
    have hbd := byteAt_bd b 32
    rw [wrap64_id (n := byteAt b 32) (by omega) (by omega), wrap64_id (by omega) (by omega)]
    refine Sts.full ho1' rfl rfl fun w3 hs3 ho3 he3 => ?_
    exact LdB.mk ho3 rfl (LdI.mk ho3 rfl (LdI.mk ho3 rfl (LdI.mk ho3 rfl (hR w3 (he1'.trans' he3 fun x hx hl => by simp at hx; omega)))))
structure HeadS where
  ok : Bool
  num : Int
  idx : Int
  term : Int
  area : Int
  size : Int
def headOk (b : ByteArray) : Bool := whole b && decide (byteAt b 40 ≤ 1) && decide (byteAt b 41 ≤ 128)
def decHead (b : ByteArray) : HeadS := if headOk b then ⟨true, get8 b 1, get8 b 9, get8 b 32, byteAt b 40, byteAt b 41⟩ else ⟨false, 0, 0, 0, 0, 0⟩
theorem decHead_ok {w : World} {b : ByteArray} (hb : b.size = 64) {R : Bool → Int → Int → Int → Int → Int → World → Prop}
    (hR : ∀ w', Ext [] w w' → R (decHead b).ok (decHead b).num (decHead b).idx (decHead b).term (decHead b).area (decHead b).size w') : store_decHead.Call b w R := by
  apply store_decHead.sound
  unfold store_decHead.B0
  refine New.mk fun r w1 hr hs1 ho1 he1 => whole_ok hb ?_
  have ho1' := ho1.drew
  have he1' : Ext [] w w1.drew := he1.trans (Ext.drew _ _)
  have h40 := byteAt_bd b 40
  have h41 := byteAt_bd b 41
  have bad : headOk b = false → store_decHead.B1 b r true w1.drew R := by
    intro hw
    have hd : decHead b = ⟨false, 0, 0, 0, 0, 0⟩ := by simp [decHead, hw]
    rw [hd] at hR
    unfold store_decHead.B1
    refine Bm.pos rfl (Sts.full ho1' rfl rfl fun w3 hs3 ho3 he3 => ?_)
    exact LdB.mk ho3 rfl (LdI.mk ho3 rfl (LdI.mk ho3 rfl (LdI.mk ho3 rfl (LdI.mk ho3 rfl (LdI.mk ho3 rfl (hR w3 (he1'.trans' he3 fun x hx hl => by simp at hx; omega)))))))
  refine Bm.mk (fun h => bad ?_) (fun h => ⟨⟨by omega, by omega⟩, Bm.ite (fun h2 => bad ?_) (fun h2 => ⟨⟨by omega, by omega⟩, ?_⟩)⟩)
  · simp [headOk]; simp at h; simp [h]
  · simp [headOk]; intro _; omega
  · have e41 : IntKind.i64.wrap (byteAt b 41) = byteAt b 41 := wrap64_id (by omega) (by omega)
    have e40 : IntKind.i64.wrap (byteAt b 40) = byteAt b 40 := wrap64_id (by omega) (by omega)
    rw [e41]
    by_cases h3 : byteAt b 41 > 128
    · rw [decide_eq_true h3]; exact bad (by simp [headOk]; intro _ _; omega)
    · rw [decide_eq_false h3]
      have hok : headOk b = true := by simp [headOk]; simp at h; exact ⟨⟨h, by omega⟩, by omega⟩
      have hd : decHead b = ⟨true, get8 b 1, get8 b 9, get8 b 32, byteAt b 40, byteAt b 41⟩ := by simp [decHead, hok]
      rw [hd] at hR
      unfold store_decHead.B1
      refine Bm.neg rfl (get8_ok hb (by omega) (by omega) (get8_ok hb (by omega) (by omega) (get8_ok hb (by omega) (by omega) ⟨⟨by omega, by omega⟩, ⟨by omega, by omega⟩, ?_⟩)))
      rw [e40, e41]
      refine Sts.full ho1'.drew rfl rfl fun w3 hs3 ho3 he3 => ?_
      exact LdB.mk ho3 rfl (LdI.mk ho3 rfl (LdI.mk ho3 rfl (LdI.mk ho3 rfl (LdI.mk ho3 rfl (LdI.mk ho3 rfl (hR w3 ((he1'.trans (Ext.drew _ _)).trans' he3 fun x hx hl => by simp at hx; omega)))))))

/-! ### Strings made byte by byte -/
def ubyte (s : ByteArray) (i : Nat) : UInt8 := s.data.toList.getD i 0
theorem byteAt_ubyte (s : ByteArray) (i : Int) : byteAt s i = ((ubyte s i.toNat).toNat : Int) := rfl
def mkStr (n : Nat) (f : Nat → UInt8) : ByteArray := ⟨((List.range n).map f).toArray⟩
theorem mkStr_size (n : Nat) (f : Nat → UInt8) : (mkStr n f).size = n := by simp [mkStr, ByteArray.size]
theorem mkStr_get {n j : Nat} (f : Nat → UInt8) (h : j < n) : (mkStr n f).data.toList.getD j 0 = f j := by simp [mkStr, h]
theorem ToStr.fn {w : World} {b n m : Nat} {t : TypeId} {f : Nat → Value} {g : Nat → UInt8} {K : ByteArray → Prop} (h : Own w b (fnArr m f) t) (hn : n ≤ m) (hf : ∀ j, j < n → f j = .int .u8 ((g j).toNat : Int)) (hk : K (mkStr n g)) : ToStr (some ⟨b, 0, none⟩) n w K :=
  ToStr.mk h (mkStr_size n g) (fun j hj => by rw [Nat.zero_add, fnArr_get f (by omega), hf j hj, mkStr_get g hj]) hk

structure RecS where
  idx : Int
  term : Int
  data : ByteArray
def recOk (b : ByteArray) : Bool := whole b && byteAt b 1 == 1 && decide (byteAt b 10 ≤ 24)
def recOf (b : ByteArray) : RecS := if recOk b then ⟨get8 b 2, get8 b 35, mkStr (byteAt b 10).toNat (fun j => ubyte b (11 + j))⟩ else ⟨0, 0, estr⟩
theorem decRec_ok {w : World} {b : ByteArray} (hb : b.size = 64) {R : Int → Int → ByteArray → Bool → World → Prop}
    (hR : ∀ w', Ext [] w w' → R (recOf b).idx (recOf b).term (recOf b).data (recOk b) w') : store_decRec.Call b w R := by
  apply store_decRec.sound
  unfold store_decRec.B0
  refine New.mk fun r w1 hr hs1 ho1 he1 => ⟨⟨by omega, by omega⟩, whole_ok hb ?_⟩
  have ho1' := ho1.drew
  have he1' : Ext [] w w1.drew := he1.trans (Ext.drew _ _)
  have h10 := byteAt_bd b 10
  have e10 : IntKind.i64.wrap (byteAt b 10) = byteAt b 10 := wrap64_id (by omega) (by omega)
  rw [e10]
  have bad : recOk b = false → store_decRec.B1 b r (byteAt b 10) true w1.drew R := by
    intro hw
    have hd : recOf b = ⟨0, 0, estr⟩ := by simp [recOf, hw]
    rw [hd, hw] at hR
    unfold store_decRec.B1
    refine Bm.pos rfl (Sts.full ho1' rfl rfl fun w3 hs3 ho3 he3 => ?_)
    exact LdI.mk ho3 rfl (LdI.mk ho3 rfl (LdS.mk ho3 rfl (hR w3 (he1'.trans' he3 fun x hx hl => by simp at hx; omega))))
  refine Bm.mk (fun h => bad ?_) (fun h => ⟨⟨by omega, by omega⟩, Bm.mk (fun h2 => bad ?_) (fun h2 => ?_)⟩)
  · simp [recOk]; simp at h; simp [h]
  · simp [recOk]; intro _ h3; simp [h3] at h2
  by_cases h3 : byteAt b 10 > 24
  · rw [decide_eq_true h3]; exact bad (by simp [recOk]; intro _ _; omega)
  rw [decide_eq_false h3]
  have hok : recOk b = true := by simp [recOk]; simp at h h2; exact ⟨⟨h, h2⟩, by omega⟩
  have hd : recOf b = ⟨get8 b 2, get8 b 35, mkStr (byteAt b 10).toNat (fun j => ubyte b (11 + j))⟩ := by simp [recOf, hok]
  rw [hd, hok] at hR
  unfold store_decRec.B1
  refine Bm.neg rfl ?_
  refine Make.mk (by omega) (by omega) (by omega) (by omega) fun r2 w2 hr2 hs2 ho2 he2 => ?_
  have hsz1 : w1.drew.heap.size = w1.heap.size := rfl
  refine ⟨fun m b' t' n' db dl dc i w' => b = b' ∧ r = t' ∧ byteAt b 10 = n' ∧ some ⟨r2, 0, none⟩ = db ∧ (byteAt b 10).toNat = dl ∧ (byteAt b 10).toNat = dc ∧ 0 ≤ i ∧ i ≤ byteAt b 10 ∧ m = (byteAt b 10 - i).toNat ∧ Ext [] w w' ∧ w2.heap.size ≤ w'.heap.size ∧
    Own w' r #[.int .i64 (0 : Int), .int .i64 (0 : Int), .string (ByteArray.mk #[])] T_api_Rec ∧
    Own w' r2 (fnArr (byteAt b 10).toNat (fun j => if j < i.toNat then .int .u8 ((ubyte b (11 + j)).toNat : Int) else .int .u8 0)) T_uint8, (byteAt b 10).toNat,
    ⟨rfl, rfl, rfl, rfl, rfl, rfl, by omega, by omega, by simp, he1'.trans he2, Nat.le_refl _, he2.own ho1' (by simp), ?_⟩, ?_⟩
  · have e : madeCells (Value.cells (.int .u8 0)) ((byteAt b 10).toNat * 1) = fnArr (byteAt b 10).toNat (fun j => if j < (0 : Int).toNat then .int .u8 ((ubyte b (11 + j)).toNat : Int) else .int .u8 0) := by
      rw [show Value.cells (.int .u8 0) = #[Value.int .u8 0] from rfl, madeCells_one]
      exact fnArr_ext (by simp) fun j hj => by simp [hj]
    rw [← e]; exact ho2
  rintro m b' t' n' db dl dc i w' ⟨rfl, rfl, rfl, rfl, rfl, rfl, hi0, hi1, rfl, hw', hsz', hor, hod⟩
  unfold store_decRec.L1b
  refine Bm.ite (fun hlt => ?_) (fun hge => ?_)
  · have e1 : IntKind.i64.wrap (11 + i) = 11 + i := wrap64_id (by omega) (by omega)
    have e2 : IntKind.i64.wrap (i + 1) = i + 1 := wrap64_id (by omega) (by omega)
    rw [e1, e2]
    refine ⟨⟨by omega, by omega⟩, Pn.mk ⟨⟨hi0, by omega⟩, ?_⟩⟩
    rw [add_mk, Nat.zero_add, Nat.mul_one]
    refine Sts.fn (g := fun j => if j < (i + 1).toNat then .int .u8 ((ubyte b (11 + j)).toNat : Int) else .int .u8 0) hod (by simp; omega) rfl (fun j hj => ?_) fun w3 hs3 ho3 he3 => ?_
    · unfold fnPut
      by_cases hji : j = i.toNat
      · subst hji
        rw [if_pos (by simp), if_pos (by omega), Nat.sub_self]
        show Value.int .u8 (byteAt b (11 + i)) = _
        have : (11 + i).toNat = 11 + i.toNat := by omega
        rw [byteAt_ubyte, this]
      · rw [if_neg (by simp; omega)]
        show (if j < i.toNat then Value.int .u8 ((ubyte b (11 + j)).toNat : Int) else Value.int .u8 0) = _
        by_cases h4 : j < i.toNat
        · rw [if_pos h4, if_pos (by omega)]
        · rw [if_neg h4, if_neg (by omega)]
    · exact ⟨(byteAt b 10 - (i + 1)).toNat, by omega, rfl, rfl, rfl, rfl, rfl, rfl, by omega, by omega, rfl, hw'.trans' he3 (fun x hx hl => by simp at hx; have := he1'.size; omega), by omega, he3.own hor (by simp; omega), ho3⟩
  · have : i = byteAt b 10 := by omega
    subst this
    refine get8_ok hb (by omega) (by omega) (get8_ok hb (by omega) (by omega) ?_)
    refine ToStr.fn hod (Nat.le_refl _) (fun j hj => by rw [if_pos hj]) ?_
    refine Sts.full hor rfl rfl fun w3 hs3 ho3 he3 => ?_
    exact LdI.mk ho3 rfl (LdI.mk ho3 rfl (LdS.mk ho3 rfl (hR w3 (hw'.trans' he3 fun x hx hl => by simp at hx; omega))))

/-! ### read, area -/
def blk (D : DiskS) (i : Nat) : ByteArray := D.now.getD i zblock
def DiskWf (D : DiskS) : Prop := ∀ i, i < 14 → (blk D i).size = 64
theorem read_ok {w : World} {t d : Nat} {c : Array Value} {ty : TypeId} {D : DiskS} {F : List Nat} (ht : Own w t c ty) (hc : c[0]? = some (.pointer (some ⟨d, 0, none⟩))) (hD : DiskAt w d D F) {b : Int} (h0 : 0 ≤ b) (h1 : b < 14) {R : ByteArray → World → Prop}
    (hR : R (D.now.getD b.toNat zblock) w) : store_Store_read.Call (some ⟨t, 0, none⟩) b w R := by
  apply store_Store_read.sound
  unfold store_Store_read.B0
  exact Pn.mk (LdP.mk ht hc (diskRead_ok hD h0 h1 hR))
def areaByte (D : DiskS) (a : Int) (j : Nat) : UInt8 := ubyte (D.now.getD (4 + 2 * a.toNat + j / 64) zblock) (j % 64)
def areaV (D : DiskS) (a n : Int) : ByteArray := mkStr n.toNat (areaByte D a)
def areaVs (D : DiskS) (a : Int) (l : Nat) : List Value := (List.range l).map fun j => .int .u8 ((areaByte D a j).toNat : Int)
theorem areaVs_succ (D : DiskS) (a : Int) (l : Nat) : areaVs D a (l + 1) = areaVs D a l ++ [.int .u8 ((areaByte D a l).toNat : Int)] := by
  simp [areaVs, List.range_succ]
theorem area_ok {w : World} {t d : Nat} {c : Array Value} {ty : TypeId} {D : DiskS} {F : List Nat} (ht : Own w t c ty) (hc : c[0]? = some (.pointer (some ⟨d, 0, none⟩))) (hD : DiskAt w d D F) (hwf : DiskWf D) {a n : Int} (ha0 : 0 ≤ a) (ha1 : a ≤ 1) (hn0 : 0 ≤ n) (hn1 : n ≤ 128)
    {R : ByteArray → World → Prop} (hR : ∀ w', Ext [] w w' → R (areaV D a n) w') : store_Store_area.Call (some ⟨t, 0, none⟩) a n w R := by
  apply store_Store_area.sound
  unfold store_Store_area.B0
  refine Make.mk (by omega) (by omega) (by omega) (by omega) fun r w1 hr hs1 ho1 he1 => ?_
  let J : Int → Int → Option Addr → Nat → Nat → World → Prop := fun k i ob ol oc w' =>
    Row w' ob ol oc 1 T_uint8 (areaVs D a ol) ∧ (∀ x ∈ rowBlk ob, w.heap.size ≤ x) ∧ Ext [] w w' ∧ (ol : Int) = min n (64 * k + i)
  refine ⟨fun m t' a' n' ob ol oc k w' => some ⟨t, 0, none⟩ = t' ∧ a = a' ∧ n = n' ∧ 0 ≤ k ∧ k ≤ 2 ∧ m = (2 - k).toNat ∧ J k 0 ob ol oc w', 2, ⟨rfl, rfl, rfl, by omega, by omega, rfl, ?_, ?_, he1, by simp; omega⟩, ?_⟩
  · exact ⟨by simp [areaVs], by omega, .inr ⟨r, _, rfl, ho1, by simp [madeCells], by simp [areaVs]⟩⟩
  · intro x hx; simp [rowBlk] at hx; omega
  rintro m t' a' n' ob ol oc k w' ⟨rfl, rfl, rfl, hk0, hk1, rfl, hrow, hfresh, hext, hol⟩
  unfold store_Store_area.L1b
  refine Bm.ite (fun hlt => ?_) (fun hge => ?_)
  · have e1 : IntKind.i64.wrap (IntKind.i64.wrap (4 + IntKind.i64.wrap (a * 2)) + k) = 4 + 2 * a + k := by
      rw [wrap64_id (n := a * 2) (by omega) (by omega), wrap64_id (n := 4 + a * 2) (by omega) (by omega), wrap64_id (by omega) (by omega)]; omega
    rw [e1]
    refine read_ok (hext.own ht (by simp)) hc (hD.ext hext (by simp)) (by omega) (by omega) ?_
    have hx : (D.now.getD (4 + 2 * a + k).toNat zblock).size = 64 := hwf _ (by omega)
    refine ⟨fun m2 t' a' n' ob ol oc k' x i w' => some ⟨t, 0, none⟩ = t' ∧ a = a' ∧ n = n' ∧ k = k' ∧ D.now.getD (4 + 2 * a + k).toNat zblock = x ∧ 0 ≤ i ∧ i ≤ 64 ∧ m2 = (64 - i).toNat ∧ J k i ob ol oc w', 64,
      ⟨rfl, rfl, rfl, rfl, rfl, by omega, by omega, rfl, hrow, hfresh, hext, hol⟩, ?_⟩
    rintro m2 t' a' n' ob ol oc k' x i w' ⟨rfl, rfl, rfl, rfl, rfl, hi0, hi1, rfl, hrow, hfresh, hext, hol⟩
    have e2 : IntKind.i64.wrap (IntKind.i64.wrap (k * 64) + i) = 64 * k + i := by
      rw [wrap64_id (n := k * 64) (by omega) (by omega), wrap64_id (by omega) (by omega)]; omega
    have e3 : IntKind.i64.wrap (i + 1) = i + 1 := wrap64_id (by omega) (by omega)
    have e4 : IntKind.i64.wrap (k + 1) = k + 1 := wrap64_id (by omega) (by omega)
    unfold store_Store_area.L2b
    rw [e2]
    have leave : (i = 64 ∨ n ≤ 64 * k + i) → store_Store_area.B1 (some ⟨t, 0, none⟩) a n ob ol oc k (D.now.getD (4 + 2 * a + k).toNat zblock) i false w'
        (fun t' a' n' ob' ol' oc' k' w' => ∃ m', m' < (2 - k).toNat ∧ some ⟨t, 0, none⟩ = t' ∧ a = a' ∧ n = n' ∧ 0 ≤ k' ∧ k' ≤ 2 ∧ m' = (2 - k').toNat ∧ J k' 0 ob' ol' oc' w')
        (fun t' a' n' ob' ol' oc' k'' x' i' w' => ∃ m', m' < (64 - i).toNat ∧ some ⟨t, 0, none⟩ = t' ∧ a = a' ∧ n = n' ∧ k = k'' ∧ D.now.getD (4 + 2 * a + k).toNat zblock = x' ∧ 0 ≤ i' ∧ i' ≤ 64 ∧ m' = (64 - i').toNat ∧ J k i' ob' ol' oc' w') R := by
      intro hle
      unfold store_Store_area.B1
      refine Bm.neg rfl ?_
      rw [e4]
      exact ⟨(2 - (k + 1)).toNat, by omega, rfl, rfl, rfl, by omega, by omega, rfl, hrow, hfresh, hext, by omega⟩
    refine Bm.ite (fun hi => ?_) (fun hi => leave (.inl (by omega)))
    by_cases hlt2 : 64 * k + i < n
    · rw [decide_eq_true hlt2]
      unfold store_Store_area.B1
      refine Bm.pos rfl ⟨⟨hi0, by omega⟩, New.mk fun r2 w2 hr2 hs2 ho2 he2 => ?_⟩
      have hol' : ol = (64 * k + i).toNat := by omega
      have hb : byteAt (D.now.getD (4 + 2 * a + k).toNat zblock) i = ((areaByte D a ol).toNat : Int) := by
        rw [byteAt_ubyte, areaByte]
        have q1 : (4 + 2 * a + k).toNat = 4 + 2 * a.toNat + ol / 64 := by omega
        have q2 : i.toNat = ol % 64 := by omega
        rw [q1, q2]
      rw [hb] at ho2
      refine Vc.Append.mk (news := [.int .u8 ((areaByte D a ol).toNat : Int)]) (hrow.ext he2 (by simp)) (CellsAt.own ho2 fun j v hj => ?_) rfl rfl rfl (by omega) (by omega) fun ob2 oc2 w3 hr3 he3 hf3 => ?_
      · rw [Nat.zero_add]; simpa using hj
      · rw [e3]
        refine ⟨(64 - (i + 1)).toNat, by omega, rfl, rfl, rfl, rfl, rfl, by omega, by omega, rfl, ?_, ?_, ?_, by omega⟩
        · rw [areaVs_succ]; exact hr3
        · intro x hx
          rcases hf3 x hx with h | ⟨h, _⟩
          · exact hfresh x h
          · have := hext.size; have := he2.size; omega
        · exact (hext.trans he2).trans' he3 (fun x hx hl => by have := hfresh x hx; omega)
    · rw [decide_eq_false hlt2]; exact leave (.inr (by omega))
  · have hk : k = 2 := by omega
    subst hk
    have hoe : ol = n.toNat := by omega
    subst hoe
    rcases hrow.2.2 with ⟨rfl, hc0⟩ | ⟨k2, cs, rfl, ho, hs, hv⟩
    · have hz : n.toNat = 0 := by have := hrow.2.1; omega
      have : areaV D a n = ByteArray.empty := by simp [areaV, hz, mkStr]; rfl
      have hR' := hR w' hext
      rw [this] at hR'
      exact hR'
    · refine ToStr.mk (s := areaV D a n) ho (mkStr_size _ _) (fun j hj => ?_) (hR w' hext)
      have h1 : (cs.toList.take (n.toNat * 1))[j]? = (areaVs D a n.toNat)[j]? := by rw [hv]
      rw [List.getElem?_take, if_pos (by omega)] at h1
      rw [Nat.zero_add]
      have h2 : cs.toList[j]? = cs[j]? := by simp
      rw [← h2, h1, areaV, mkStr_get _ hj]
      simp [areaVs, hj]
end Go.Proofs.Qxb6500430aGreat
