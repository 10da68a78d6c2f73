/-
  store: SetMeta, SetSnap, PutRec, DelRec of the real layer.
-/
import Derived.Test.Qxb6500430aGreatStD
set_option linter.unusedVariables false
set_option linter.unusedSimpArgs false
open Go.Vc
namespace Go.Proofs.Qxb6500430aGreat

theorem openR_write (d : Nat) (D : DiskS) (b : Nat) (y : ByteArray) : openR d (D.write (b : Int) y) = openR d (D.put b y) := by
  have e : (D.write (b : Int) y).now = (D.put b y).now := by
    show D.now.set (b : Int).toNat y = D.now.set b y
    rw [Int.toNat_natCast]
  have key : ∀ D1 D2 : DiskS, D1.now = D2.now → openR d D1 = openR d D2 := fun D1 D2 h => by
    cases D1
    cases D2
    simp only at h
    subst h
    rfl
  exact key _ _ e
theorem openR_now {d : Nat} {D1 D2 : DiskS} (h : D1.now = D2.now) : openR d D1 = openR d D2 := by
  cases D1
  cases D2
  simp only at h
  subst h
  rfl
theorem good_now {D1 D2 : DiskS} {N : Int} (h : D1.now = D2.now) (hg : Good D1 N) : Good D2 N := by
  cases D1
  cases D2
  simp only at h
  subst h
  exact ⟨hg.len, hg.wf, hg.numM, hg.otherM, hg.numH, hg.otherH⟩
theorem write_now (D : DiskS) (b : Nat) (y : ByteArray) : (D.write (b : Int) y).now = (D.put b y).now := by
  show D.now.set (b : Int).toNat y = D.now.set b y
  rw [Int.toNat_natCast]
theorem stampOf_u {D : DiskS} {b : Nat} (h : b < 4 ∨ 8 ≤ b) : stampOf D b = ((ubyte (blk D b) 63).toNat : Int) := by
  unfold stampOf
  rw [if_pos h]
  exact byteAt_nat _ 63
theorem storeAt_cells_eq {w : World} {t : Nat} {S S' : StoreS} (h : StoreAt w t S) (e : S = S') : StoreAt w t S' := e ▸ h

def metaErr (term vote : Int) : Int := if term < 0 ∨ 72057594037927936 < term ∨ vote < -1 ∨ 3 ≤ vote then 1 else 0
def yMeta (D : DiskS) (term vote : Int) : ByteArray := mkStr 64 (stampF (encMetaF ((curM D).num + 1) term vote) (nextU (ubyte (blk D (oM D)) 63)))
theorem yMeta_dec {D : DiskS} {N term vote : Int} (h : Good D N) (hN : N ≤ 4611686018427387904) (he : metaErr term vote = 0) : decMeta (yMeta D term vote) = ⟨true, (curM D).num + 1, term, vote⟩ := by
  have hn := h.numM
  unfold metaErr at he
  split at he
  · omega
  · exact decMeta_enc (nextU_ne0 _) (by omega) (by omega) (by omega)
theorem stampF_last {g : Nat → UInt8} {s : UInt8} : byteAt (mkStr 64 (stampF g s)) 63 = (s.toNat : Int) := byte_mk (i := 63) (by omega)
section
variable {w : World} {t d : Nat} {D : DiskS} {F : List Nat} {N : Int}
theorem setMeta_ok {term vote : Int} {R : Int → World → Prop} (hS : StoreAt w t (openR d D)) (hD : DiskAt w d D F) (htF : t ∉ F) (hG : Good D N) (hN : N ≤ 4611686018427387904) (hL : D.log.length ≤ 1000)
    (hE : metaErr term vote ≠ 0 → R (metaErr term vote) w)
    (hR : metaErr term vote = 0 → ∀ w' F', StoreAt w' t (openR d (D.write (oM D : Int) (yMeta D term vote))) → DiskAt w' d (D.write (oM D : Int) (yMeta D term vote)) F' → Ext (t :: F) w w' → Grew w F F' → R 0 w') : store_Store_SetMeta.Call (some ⟨t, 0, none⟩) term vote w R := by
  apply store_Store_SetMeta.sound
  unfold store_Store_SetMeta.B0
  have bad : (term < 0 ∨ 72057594037927936 < term ∨ vote < -1 ∨ 3 ≤ vote) → store_Store_SetMeta.B1 (some ⟨t, 0, none⟩) term vote true w R := fun q => by
    have e : metaErr term vote = 1 := by unfold metaErr; rw [if_pos q]
    unfold store_Store_SetMeta.B1
    rw [e] at hE
    exact Bm.pos rfl (hE (by omega))
  refine Bm.ite (fun h => bad (.inl h)) (fun h1 => Bm.ite (fun h => bad (.inr (.inl h))) (fun h2 => Bm.ite (fun h => bad (.inr (.inr (.inl h)))) (fun h3 => ?_)))
  by_cases h4 : vote ≥ 3
  · rw [decide_eq_true h4]
    exact bad (.inr (.inr (.inr h4)))
  rw [decide_eq_false h4]
  have e0 : metaErr term vote = 0 := by unfold metaErr; rw [if_neg (by omega)]
  have hR' := hR e0
  have hn := hG.numM
  have hdec := yMeta_dec hG hN e0
  have hom := oM_lt D
  have hsl := slotM_01 D
  unfold store_Store_SetMeta.B1
  refine Bm.neg rfl (Pn.mk ?_)
  rw [add_mk, add_mk]
  refine LdI.fn hS (by omega) (cell_mNum _) (Pn.mk ?_)
  have em : (openR d D).m = curM D := rfl
  have es : (openR d D).mSlot = slotM D := rfl
  rw [em, w64 (by omega) (by omega), add_mk, Nat.zero_add]
  refine Sts.fn hS (by simp) rfl (put_meta _ ⟨true, (curM D).num + 1, term, vote⟩) fun w1 hs1 hS1 he1 => Pn.mk ?_
  rw [add_mk, Nat.zero_add]
  refine LdI.fn hS1 (by omega) (cell_mSlot _) (Pn.mk ?_)
  have es1 : ({ openR d D with m := ⟨true, (curM D).num + 1, term, vote⟩ } : StoreS).mSlot = slotM D := rfl
  rw [es1, w64 (by omega) (by omega), add_mk, Nat.zero_add]
  refine Sts.fn hS1 (by simp) rfl (put_mSlot _ (1 - slotM D)) fun w2 hs2 hS2 he2 => Pn.mk ?_
  simp only [add_mk, Nat.zero_add]
  refine LdB.fn hS2 (by omega) (cell_mOk _) (LdI.fn hS2 (by omega) (cell_mNum _) (LdI.fn hS2 (by omega) (cell_mTerm _) (LdI.fn hS2 (by omega) (cell_mVote _) (encMeta_ok (by show -1 ≤ vote ∧ vote < 3; omega) fun k w3 hk hb3 he3 => Pn.mk ?_))))
  have hS3 := he3.own hS2 (by simp)
  rw [add_mk, Nat.zero_add]
  refine LdI.fn hS3 (by omega) (cell_mSlot _) ?_
  have e3 : IntKind.i64.wrap (0 + ({ ({ openR d D with m := ⟨true, (curM D).num + 1, term, vote⟩ } : StoreS) with mSlot := 1 - slotM D } : StoreS).mSlot) = (oM D : Int) := by
    show IntKind.i64.wrap (0 + (1 - slotM D)) = _
    rw [w64 (by omega) (by omega)]
    omega
  rw [e3]
  have E2 : Ext [t] w w2 := he1.trans he2
  have hD3 : DiskAt w3 d D F := (hD.ext E2 (fun x hx hx2 => by simp at hx2; exact htF (hx2 ▸ hx))).ext he3 (by simp)
  have hz2 := E2.size
  have hkF : k ∉ F := fun hx => by
    have := hD.lt k hx
    omega
  refine write_ok (o := ubyte (blk D (oM D)) 63) hS3 rfl hD3 htF hL hb3 hkF (by omega) ?_ fun w4 F' hS4 hD4 he4 hg4 => ?_
  · show (openR d D).stamp (oM D) = _
    rw [openR_stamp (by omega)]
    exact stampOf_u (by omega)
  · have hz3 := he3.size
    refine hR' w4 F' (storeAt_cells_eq hS4 ?_) hD4 ((E2.mono (fun x hx _ => by simp at hx; simp [hx])).trans (he3.nil) |>.trans' he4 (fun x hx hlt => ?_)) (fun x hx => ?_)
    · have key := (put_meta_full (d := d) (y := yMeta D term vote) (s := ((nextU (ubyte (blk D (oM D)) 63)).toNat : Int)) hG (mkStr_size _ _) hdec stampF_last).1
      rw [openR_write, key, hom.2]
    · simp only [List.mem_cons] at hx ⊢
      rcases hx with e | e | e
      · exact .inl e
      · omega
      · exact .inr e
    · rcases hg4 x hx with q | q
      · exact .inl q
      · exact .inr (by omega)

/-! ### SetSnap -/
def snapErr (idx term : Int) (n : Nat) : Int := if idx < 0 ∨ 72057594037927936 < idx ∨ term < 0 ∨ 72057594037927936 < term then 1 else if 128 < n then 5 else 0
def oA (D : DiskS) : Nat := (1 - (curH D).area).toNat
theorem oA_lt (D : DiskS) : oA D < 2 ∧ (oA D : Int) = 1 - (curH D).area := by
  obtain ⟨a0, a1, _, _⟩ := curH_bd D
  unfold oA
  omega
/-- The first k chunks written into area a. -/
def areaW (D : DiskS) (data : ByteArray) (a : Nat) : Nat → DiskS
  | 0 => D
  | k + 1 => (areaW D data a k).write ((4 + 2 * a + k : Nat) : Int) (mkStr 64 (chunkF data k))
theorem areaW_log (D : DiskS) (data : ByteArray) (a : Nat) : ∀ k, (areaW D data a k).log.length = D.log.length + 2 * k
  | 0 => rfl
  | k + 1 => by
    simp only [areaW, DiskS.write, List.length_append, areaW_log D data a k, List.length_cons, List.length_nil]
    omega
theorem areaW_good {data : ByteArray} (h : Good D N) : ∀ k, k ≤ 2 → openR d (areaW D data (oA D) k) = openR d D ∧ Good (areaW D data (oA D) k) N ∧ curH (areaW D data (oA D) k) = curH D
  | 0, _ => ⟨rfl, h, rfl⟩
  | k + 1, hk => by
    obtain ⟨h1, h2, h3⟩ := areaW_good h (data := data) k (by omega)
    obtain ⟨ha, ha2⟩ := oA_lt D
    obtain ⟨a0, a1, _, _⟩ := curH_bd D
    obtain ⟨q1, q2⟩ := put_area_any (d := d) (y := mkStr 64 (chunkF data k)) h2 (b := 4 + 2 * oA D + k) (by omega) (by omega) (by rw [h3]; omega) (mkStr_size _ _)
    have e : openR d (areaW D data (oA D) (k + 1)) = openR d D := by
      show openR d ((areaW D data (oA D) k).write _ _) = _
      rw [openR_write, q1, h1]
    refine ⟨e, good_now (write_now _ _ _).symm q2, ?_⟩
    have := congrArg StoreS.h e
    exact this
theorem areaW_blk {data : ByteArray} (h : Good D N) : ∀ k, k ≤ 2 → ∀ j, j < k → blk (areaW D data (oA D) k) (4 + 2 * oA D + j) = mkStr 64 (chunkF data j)
  | 0, _, j, hj => by omega
  | k + 1, hk, j, hj => by
    obtain ⟨_, h2, _⟩ := areaW_good (d := 0) (data := data) h k (by omega)
    have ha := (oA_lt D).1
    have e : blk (areaW D data (oA D) (k + 1)) (4 + 2 * oA D + j) = blk ((areaW D data (oA D) k).put (4 + 2 * oA D + k) (mkStr 64 (chunkF data k))) (4 + 2 * oA D + j) := by
      unfold blk
      rw [show (areaW D data (oA D) (k + 1)).now = ((areaW D data (oA D) k).put (4 + 2 * oA D + k) (mkStr 64 (chunkF data k))).now from write_now _ _ _]
    rw [e, blk_put h2.len (by omega)]
    by_cases ej : j = k
    · subst ej
      rw [if_pos rfl]
    · rw [if_neg (by omega)]
      exact areaW_blk h k (by omega) j (by omega)
def cnt64 (data : ByteArray) : Nat := (data.size + 63) / 64
theorem areaW_data {data : ByteArray} (h : Good D N) (hd : data.size ≤ 128) : areaV (areaW D data (oA D) (cnt64 data)) (oA D : Int) (data.size : Int) = data := by
  have ha := (oA_lt D).1
  have hc : cnt64 data ≤ 2 := by unfold cnt64; omega
  have := mkStr_self data
  conv => rhs; rw [← this]
  unfold areaV
  rw [Int.toNat_natCast]
  refine mkStr_congr fun j hj => ?_
  unfold areaByte
  rw [Int.toNat_natCast]
  have hb : j / 64 < cnt64 data := by unfold cnt64; omega
  have := areaW_blk (data := data) h (cnt64 data) hc (j / 64) hb
  unfold blk at this
  rw [this, ubyte_mk (by omega)]
  unfold chunkF
  rw [if_pos (by omega), show j / 64 * 64 + j % 64 = j by omega]
def yHead (D : DiskS) (idx term : Int) (data : ByteArray) : ByteArray := mkStr 64 (stampF (encHeadF ((curH D).num + 1) idx term (oA D : Int) (data.size : Int)) (nextU (ubyte (blk D (oH D)) 63)))
def snapD (D : DiskS) (idx term : Int) (data : ByteArray) : DiskS := (areaW D data (oA D) (cnt64 data)).write (oH D : Int) (yHead D idx term data)
theorem yHead_dec {idx term : Int} {data : ByteArray} (h : Good D N) (hN : N ≤ 4611686018427387904) (he : snapErr idx term data.size = 0) : decHead (yHead D idx term data) = ⟨true, (curH D).num + 1, idx, term, (oA D : Int), (data.size : Int)⟩ := by
  have hn := h.numH
  have ha := (oA_lt D).1
  unfold snapErr at he
  split at he
  · omega
  split at he
  · omega
  · exact decHead_enc (nextU_ne0 _) (by omega) (by omega) (by omega) (by omega) (by omega)
theorem blk_areaW {data : ByteArray} (h : Good D N) {i : Nat} (hi : i < 4 ∨ 8 ≤ i) : ∀ k, k ≤ 2 → blk (areaW D data (oA D) k) i = blk D i
  | 0, _ => rfl
  | k + 1, hk => by
    obtain ⟨_, h2, _⟩ := areaW_good (d := 0) (data := data) h k (by omega)
    have ha := (oA_lt D).1
    have e : blk (areaW D data (oA D) (k + 1)) i = blk ((areaW D data (oA D) k).put (4 + 2 * oA D + k) (mkStr 64 (chunkF data k))) i := by
      unfold blk
      rw [show (areaW D data (oA D) (k + 1)).now = ((areaW D data (oA D) k).put (4 + 2 * oA D + k) (mkStr 64 (chunkF data k))).now from write_now _ _ _]
    rw [e, blk_put h2.len (by omega), if_neg (by omega)]
    exact blk_areaW h hi k (by omega)
theorem snapD_open {idx term : Int} {data : ByteArray} (h : Good D N) (hN : N ≤ 4611686018427387904) (he : snapErr idx term data.size = 0) :
    openR d (snapD D idx term data) = { openR d D with stamp := upd (openR d D).stamp (oH D) ((nextU (ubyte (blk D (oH D)) 63)).toNat : Int), h := ⟨true, (curH D).num + 1, idx, term, (oA D : Int), (data.size : Int)⟩, hSlot := (oH D : Int) - 2, snap := data } ∧ Good (snapD D idx term data) (N + 1) := by
  have hd : data.size ≤ 128 := by
    unfold snapErr at he
    split at he
    · omega
    split at he
    · omega
    · omega
  have hc : cnt64 data ≤ 2 := by unfold cnt64; omega
  obtain ⟨q1, q2, q3⟩ := areaW_good (d := d) (data := data) h (cnt64 data) hc
  have hdec := yHead_dec h hN he
  have ho : oH (areaW D data (oA D) (cnt64 data)) = oH D := by
    have := congrArg StoreS.hSlot q1
    show (3 - slotH _).toNat = (3 - slotH D).toNat
    have e2 : slotH (areaW D data (oA D) (cnt64 data)) = slotH D := this
    rw [e2]
  have ha := oA_lt D
  have key := put_head_full (d := d) (y := yHead D idx term data) (idx := idx) (term := term) (area := (oA D : Int)) (size := (data.size : Int)) (s := ((nextU (ubyte (blk D (oH D)) 63)).toNat : Int)) q2 (mkStr_size _ _) (by rw [q3]; exact hdec) (by rw [q3]; obtain ⟨a0, a1, _, _⟩ := curH_bd D; omega) (by omega) (by omega) stampF_last
  rw [ho, q1, q3] at key
  have hw : (snapD D idx term data).now = ((areaW D data (oA D) (cnt64 data)).put (oH D) (yHead D idx term data)).now := write_now _ _ _
  refine ⟨?_, good_now hw.symm key.2⟩
  rw [openR_now hw, key.1, areaW_data h hd]
theorem setSnap_ok {idx term : Int} {data : ByteArray} {R : Int → World → Prop} (hS : StoreAt w t (openR d D)) (hD : DiskAt w d D F) (htF : t ∉ F) (hG : Good D N) (hN : N ≤ 4611686018427387904) (hL : D.log.length ≤ 450) (hsz : data.size ≤ 140737488351232)
    (hE : snapErr idx term data.size ≠ 0 → R (snapErr idx term data.size) w)
    (hR : snapErr idx term data.size = 0 → ∀ w' F', StoreAt w' t (openR d (snapD D idx term data)) → DiskAt w' d (snapD D idx term data) F' → Ext (t :: F) w w' → Grew w F F' → R 0 w') : store_Store_SetSnap.Call (some ⟨t, 0, none⟩) idx term data w R := by
  apply store_Store_SetSnap.sound
  unfold store_Store_SetSnap.B0
  have bad : (idx < 0 ∨ 72057594037927936 < idx ∨ term < 0 ∨ 72057594037927936 < term) → store_Store_SetSnap.B1 (some ⟨t, 0, none⟩) idx term data true w R := fun q => by
    have e : snapErr idx term data.size = 1 := by unfold snapErr; rw [if_pos q]
    unfold store_Store_SetSnap.B1
    rw [e] at hE
    exact Bm.pos rfl (hE (by omega))
  refine Bm.ite (fun h => bad (.inl h)) (fun h1 => Bm.ite (fun h => bad (.inr (.inl h))) (fun h2 => Bm.ite (fun h => bad (.inr (.inr (.inl h)))) (fun h3 => ?_)))
  by_cases h4 : term > 72057594037927936
  · rw [decide_eq_true h4]
    exact bad (.inr (.inr (.inr h4)))
  rw [decide_eq_false h4]
  unfold store_Store_SetSnap.B1
  refine Bm.neg rfl (Bm.ite (fun h5 => ?_) (fun h5 => ?_))
  · have e : snapErr idx term data.size = 5 := by unfold snapErr; rw [if_neg (by omega), if_pos (by omega)]
    rw [e] at hE
    exact hE (by omega)
  have e0 : snapErr idx term data.size = 0 := by unfold snapErr; rw [if_neg (by omega), if_neg (by omega)]
  have hR' := hR e0
  have hn := hG.numH
  obtain ⟨hopen, hgood⟩ := snapD_open (d := d) hG hN e0
  have hoh := oH_lt D
  have hsl := slotH_01 D
  have hoa := oA_lt D
  have hd : data.size ≤ 128 := by omega
  have hc : cnt64 data ≤ 2 := by unfold cnt64; omega
  obtain ⟨a0, a1, _, _⟩ := curH_bd D
  refine Pn.mk ?_
  rw [add_mk, add_mk]
  refine LdI.fn hS (by omega) (cell_hArea _) ?_
  have eh : (openR d D).h = curH D := rfl
  rw [eh, w64 (by omega) (by omega), ← hoa.2]
  unfold store_Store_SetSnap.L1
  refine ⟨fun m t' i' te' da' a' k w' => some ⟨t, 0, none⟩ = t' ∧ idx = i' ∧ term = te' ∧ data = da' ∧ (oA D : Int) = a' ∧ 0 ≤ k ∧ k ≤ cnt64 data ∧ m = (cnt64 data - k).toNat ∧ StoreAt w' t (openR d D) ∧ ∃ F', DiskAt w' d (areaW D data (oA D) k.toNat) F' ∧ Ext (t :: F) w w' ∧ Grew w F F' ∧ t ∉ F', cnt64 data,
    ⟨rfl, rfl, rfl, rfl, rfl, by omega, by omega, by omega, hS, F, hD, Ext.refl _ _, Grew.refl _ _, htF⟩, ?_⟩
  rintro m t' i' te' da' a' k w' ⟨rfl, rfl, rfl, rfl, rfl, k0, k1, rfl, hS', F', hD', hE', hg', htF'⟩
  unfold store_Store_SetSnap.L1b
  rw [w64 (x := k * 64) (by omega) (by omega)]
  have htl := hS.lt
  have hzE := hE'.size
  refine Bm.ite (fun hk => ?_) (fun hk => ?_)
  · obtain ⟨n, rfl⟩ : ∃ n : Nat, k = n := ⟨k.toNat, by omega⟩
    refine chunk_ok (by omega) hsz fun w1 he1 => Pn.mk ?_
    have hS1 := he1.own hS' (by simp)
    refine LdP.fn hS1 (by omega) (cell_d _) ?_
    have ed : (openR d D).d = d := rfl
    have e4 : IntKind.i64.wrap (IntKind.i64.wrap (4 + IntKind.i64.wrap ((oA D : Int) * 2)) + (n : Int)) = ((4 + 2 * oA D + n : Nat) : Int) := by
      rw [w64 (x := (oA D : Int) * 2) (by omega) (by omega), w64 (x := 4 + (oA D : Int) * 2) (by omega) (by omega), w64 (by omega) (by omega)]
      omega
    rw [ed, e4]
    have hlog := areaW_log D data (oA D) n
    have hcn : n < cnt64 data := by unfold cnt64; omega
    rw [Int.toNat_natCast] at hD'
    refine diskWrite_ok (hD'.ext he1 (by simp)) (by omega) (by omega) (by omega) (mkStr_size _ _) fun w2 F2 hD2 he2 hg2 => ?_
    rw [w64 (by omega) (by omega)]
    have hz1 := he1.size
    refine ⟨(cnt64 data - ((n : Int) + 1)).toNat, by omega, rfl, rfl, rfl, rfl, rfl, by omega, by omega, rfl, he2.own hS1 htF', F2, ?_, ?_, ?_, ?_⟩
    · rw [show ((n : Int) + 1).toNat = n + 1 by omega]
      exact hD2
    · refine (hE'.trans he1.nil).trans' he2 (fun x hx hlt => ?_)
      rcases hg' x hx with q | q
      · exact List.mem_cons_of_mem _ q
      · omega
    · intro x hx
      rcases hg2 x hx with q | q
      · exact hg' x q
      · exact .inr (by omega)
    · intro hx
      rcases hg2 t hx with q | q
      · exact htF' q
      · omega
  · have hkc : k.toNat = cnt64 data := by unfold cnt64 at *; omega
    rw [hkc] at hD'
    refine Pn.mk ?_
    rw [add_mk, add_mk]
    refine LdI.fn hS' (by omega) (cell_hNum _) (Pn.mk ?_)
    rw [eh, w64 (by omega) (by omega), add_mk, Nat.zero_add]
    refine Sts.fn hS' (by simp) rfl (put_head _ ⟨true, (curH D).num + 1, idx, term, (oA D : Int), (data.size : Int)⟩) fun w1 hs1 hS1 he1 => Pn.mk ?_
    rw [add_mk, Nat.zero_add]
    refine LdI.fn hS1 (by omega) (cell_hSlot _) (Pn.mk ?_)
    have es1 : ({ openR d D with h := ⟨true, (curH D).num + 1, idx, term, (oA D : Int), (data.size : Int)⟩ } : StoreS).hSlot = slotH D := rfl
    rw [es1, w64 (by omega) (by omega), add_mk, Nat.zero_add]
    refine Sts.fn hS1 (by simp) rfl (put_hSlot _ (1 - slotH D)) fun w2 hs2 hS2 he2 => Pn.mk ?_
    rw [add_mk, Nat.zero_add]
    refine Sts.fn hS2 (by simp) rfl (put_snap _ data) fun w3 hs3 hS3 he3 => Pn.mk ?_
    simp only [add_mk, Nat.zero_add]
    refine LdB.fn hS3 (by omega) (cell_hOk _) (LdI.fn hS3 (by omega) (cell_hNum _) (LdI.fn hS3 (by omega) (cell_hIdx _) (LdI.fn hS3 (by omega) (cell_hTerm _) (LdI.fn hS3 (by omega) (cell_hArea _) (LdI.fn hS3 (by omega) (cell_hSize _) (encHead_ok fun kk w4 hkk hb4 he4 => Pn.mk ?_))))))
    have hS4 := he4.own hS3 (by simp)
    rw [add_mk, Nat.zero_add]
    refine LdI.fn hS4 (by omega) (cell_hSlot _) ?_
    have e5 : IntKind.i64.wrap (2 + ({ ({ ({ openR d D with h := ⟨true, (curH D).num + 1, idx, term, (oA D : Int), (data.size : Int)⟩ } : StoreS) with hSlot := 1 - slotH D } : StoreS) with snap := data } : StoreS).hSlot) = (oH D : Int) := by
      show IntKind.i64.wrap (2 + (1 - slotH D)) = _
      rw [w64 (by omega) (by omega)]
      omega
    rw [e5]
    have E3 : Ext [t] w' w3 := (he1.trans he2).trans he3
    have hD4 : DiskAt w4 d (areaW D data (oA D) (cnt64 data)) F' := (hD'.ext E3 (fun x hx hx2 => by simp at hx2; exact htF' (hx2 ▸ hx))).ext he4 (by simp)
    have hz3 := E3.size
    have hlog := areaW_log D data (oA D) (cnt64 data)
    have hkF : kk ∉ F' := fun hx => by
      have := hD'.lt kk hx
      omega
    refine write_ok (o := ubyte (blk D (oH D)) 63) hS4 rfl hD4 htF' (by omega) hb4 hkF (by omega) ?_ fun w5 F5 hS5 hD5 he5 hg5 => ?_
    · show (openR d D).stamp (oH D) = _
      rw [openR_stamp (by omega)]
      exact stampOf_u (by omega)
    · have hz4 := he4.size
      have E4 : Ext (t :: F) w w4 := (hE'.trans (E3.mono (fun x hx _ => by simp at hx; simp [hx]))).trans he4.nil
      refine hR' w5 F5 (storeAt_cells_eq hS5 ?_) hD5 (E4.trans' he5 (fun x hx hlt => ?_)) (fun x hx => ?_)
      · rw [hopen]
        have e6 : (1 : Int) - slotH D = (oH D : Int) - 2 := by omega
        rw [← e6]
      · simp only [List.mem_cons] at hx ⊢
        rcases hx with e | e | e
        · exact .inl e
        · omega
        · rcases hg' x e with q | q
          · exact .inr q
          · omega
      · rcases hg5 x hx with q | q
        · exact hg' x q
        · exact .inr (by omega)
end
end Go.Proofs.Qxb6500430aGreat
