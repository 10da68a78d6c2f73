/-
  The store's Check.
-/
import Derived.Test.Qxb6500432aOpen
set_option linter.unusedVariables false
open Go.Vc
namespace Go.Proofs.Qxb6500432a

def sameMetaB (a b : MetaS) : Bool := a.ok == b.ok && a.num == b.num && a.term == b.term && a.vote == b.vote
def sameHeadB (a b : HeadS) : Bool := a.ok == b.ok && a.num == b.num && a.idx == b.idx && a.term == b.term && a.area == b.area && a.size == b.size
theorem sameMeta_ok {w : World} {a b : MetaS} {R : Bool → World → Prop} (hR : ∀ w', Ext [] w w' → R (sameMetaB a b) w') : store_sameMeta.Call a.ok a.num a.term a.vote b.ok b.num b.term b.vote w R := by
  apply store_sameMeta.sound
  unfold store_sameMeta.B0
  refine New.mk fun r0 w1 hr0 hs1 ho1 he1 => New.mk fun r1 w2 hr1 hs2 ho2 he2 => ?_
  have ho1' := he2.own ho1 (by simp)
  have hR' := hR w2 (he1.trans he2)
  unfold sameMetaB at hR'
  refine LdB.mk ho1' rfl (LdB.mk ho2 rfl (Bm.mk (fun h1 => LdI.mk ho1' rfl (LdI.mk ho2 rfl (Bm.mk (fun h2 => LdI.mk ho1' rfl (LdI.mk ho2 rfl (Bm.mk (fun h3 => LdI.mk ho1' rfl (LdI.mk ho2 rfl ?_)) (fun h3 => ?_)))) (fun h2 => ?_)))) (fun h1 => ?_)))
  · simpa [h1, h2, h3] using hR'
  · simpa [h1, h2, h3] using hR'
  · simpa [h1, h2] using hR'
  · simpa [h1] using hR'
theorem sameHead_ok {w : World} {a b : HeadS} {R : Bool → World → Prop} (hR : ∀ w', Ext [] w w' → R (sameHeadB a b) w') : store_sameHead.Call a.ok a.num a.idx a.term a.area a.size b.ok b.num b.idx b.term b.area b.size w R := by
  apply store_sameHead.sound
  unfold store_sameHead.B0
  refine New.mk fun r0 w1 hr0 hs1 ho1 he1 => New.mk fun r1 w2 hr1 hs2 ho2 he2 => ?_
  have ho1' := he2.own ho1 (by simp)
  have hR' := hR w2 (he1.trans he2)
  unfold sameHeadB at hR'
  refine LdB.mk ho1' rfl (LdB.mk ho2 rfl (Bm.mk (fun h1 => LdI.mk ho1' rfl (LdI.mk ho2 rfl (Bm.mk (fun h2 => LdI.mk ho1' rfl (LdI.mk ho2 rfl (Bm.mk (fun h3 => LdI.mk ho1' rfl (LdI.mk ho2 rfl (Bm.mk (fun h4 => LdI.mk ho1' rfl (LdI.mk ho2 rfl (Bm.mk (fun h5 => LdI.mk ho1' rfl (LdI.mk ho2 rfl ?_)) (fun h5 => ?_)))) (fun h4 => ?_)))) (fun h3 => ?_)))) (fun h2 => ?_)))) (fun h1 => ?_)))
  · simpa [h1, h2, h3, h4, h5] using hR'
  · simpa [h1, h2, h3, h4, h5] using hR'
  · simpa [h1, h2, h3, h4] using hR'
  · simpa [h1, h2, h3] using hR'
  · simpa [h1, h2] using hR'
  · simpa [h1] using hR'
/-- What Check holds the cache S against: C, a fresh Open's, and the other slots. -/
structure ChkOk (S C : StoreS) (D : DiskS) : Prop where
  stamp : ∀ b, b < 14 → C.stamp b = S.stamp b
  m : C.m = S.m
  mSlot : C.mSlot = S.mSlot
  h : C.h = S.h
  hSlot : C.hSlot = S.hSlot
  snap : C.snap = S.snap
  used : ∀ s, s < 6 → C.used s = S.used s
  recs : ∀ s, s < 6 → C.recs s = S.recs s
  otherM : (decMeta (blk D (1 - S.mSlot).toNat)).ok = true → (decMeta (blk D (1 - S.mSlot).toNat)).num = IntKind.i64.wrap (S.m.num - 1)
  otherH : (decHead (blk D (3 - S.hSlot).toNat)).ok = true → (decHead (blk D (3 - S.hSlot).toNat)).num = IntKind.i64.wrap (S.h.num - 1) ∧ (decHead (blk D (3 - S.hSlot).toNat)).area ≠ S.h.area
theorem sameMetaB_refl (a : MetaS) : sameMetaB a a = true := by simp [sameMetaB]
theorem sameHeadB_refl (a : HeadS) : sameHeadB a a = true := by simp [sameHeadB]
section
variable {w w0 : World} {t c d : Nat} {S C : StoreS} {D : DiskS} {F : List Nat} {R : ByteArray → World → Prop}
theorem check_b5 {x : Bool} (hext : Ext [] w0 w) (hx : ChkOk S C D → x = false) (hR : ∀ s w', (ChkOk S C D → s = estr) → Ext [] w0 w' → R s w') : store_Store_Check.B5 x w R := by
  unfold store_Store_Check.B5
  exact Bm.mk (fun h => hR _ w (fun hc => by rw [hx hc] at h; cases h) hext) (fun h => hR _ w (fun hc => rfl) hext)
theorem check_b4 {x : Bool} (hS : StoreAt w t S) (hD : DiskAt w S.d D F) (hwf : DiskWf D) (hs2 : S.hSlot = 0 ∨ S.hSlot = 1) (hext : Ext [] w0 w) (hx : ChkOk S C D → x = false)
    (hR : ∀ s w', (ChkOk S C D → s = estr) → Ext [] w0 w' → R s w') : store_Store_Check.B4 (some ⟨t, 0, none⟩) x w R := by
  unfold store_Store_Check.B4
  refine Bm.mk (fun h => hR _ w (fun hc => by rw [hx hc] at h; cases h) hext) (fun h => Pn.mk ?_)
  rw [add_mk]
  refine LdI.fn hS (by decide) (cell_hSlot _) ?_
  have e1 : IntKind.i64.wrap (3 - S.hSlot) = 3 - S.hSlot := wrap64_id (by omega) (by omega)
  rw [e1]
  refine read_ok hS (fnArr_get _ (by decide)) hD (by omega) (by omega) ?_
  refine decHead_ok (b := blk D (3 - S.hSlot).toNat) (hwf _ (by omega)) fun w2 he2 => New.mk fun r w3 hr hs3 ho3 he3 => Sts.full ho3 rfl rfl fun w4 hs4 ho4 he4 => ?_
  have h2s := he2.size
  have e4 : Ext [] w w4 := (he2.trans he3).trans' he4 (fun x hx hl => by simp at hx; omega)
  have hS4 := (e4.own hS (by simp)).drew
  have E4 : Ext [] w0 w4.drew := (hext.trans e4).trans (Ext.drew _ _)
  refine LdB.mk ho4.drew rfl (Bm.mk (fun hok => LdI.mk ho4.drew rfl (Pn.mk ?_)) (fun hok => check_b5 E4 (fun _ => rfl) hR))
  rw [add_mk, add_mk]
  refine LdI.fn hS4 (by decide) (cell_hNum _) (Bm.mk (fun hn => check_b5 E4 (fun hc => ?_) hR) (fun hn => LdI.mk ho4.drew rfl (Pn.mk ?_)))
  · rw [(hc.otherH hok).1] at hn; simp at hn
  · rw [add_mk, add_mk]
    refine LdI.fn hS4 (by decide) (cell_hArea _) (check_b5 E4 (fun hc => ?_) hR)
    simpa using (hc.otherH hok).2
theorem check_l2 (hS : StoreAt w t S) (hC : StoreAt w c C) (hD : DiskAt w S.d D F) (hwf : DiskWf D) (hs1 : S.mSlot = 0 ∨ S.mSlot = 1) (hs2 : S.hSlot = 0 ∨ S.hSlot = 1) (hext : Ext [] w0 w)
    (hR : ∀ s w', (ChkOk S C D → s = estr) → Ext [] w0 w' → R s w') : store_Store_Check.L2 (some ⟨t, 0, none⟩) (some ⟨c, 0, none⟩) 0 w R := by
  refine ⟨fun m t' c' s w' => some ⟨t, 0, none⟩ = t' ∧ some ⟨c, 0, none⟩ = c' ∧ 0 ≤ s ∧ s ≤ 6 ∧ m = (6 - s).toNat ∧ Ext [] w w' ∧ Ext [] w0 w', 6, ⟨rfl, rfl, by omega, by omega, rfl, Ext.refl _ _, hext⟩, ?_⟩
  rintro m t' c' s w' ⟨rfl, rfl, h0, h1, rfl, he, hE⟩
  have hS' := he.own hS (by simp)
  have hC' := he.own hC (by simp)
  have hD' := hD.ext he (by simp)
  have hE' : Ext [] w0 w'.drew := hE.trans (Ext.drew _ _)
  have he' : Ext [] w w'.drew := he.trans (Ext.drew _ _)
  unfold store_Store_Check.L2b
  refine Bm.ite (fun hlt => ?_) (fun hge => ?_)
  · have hs6 : s.toNat < 6 := by omega
    have e2 : IntKind.i64.wrap (s + 1) = s + 1 := wrap64_id (by omega) (by omega)
    have b3 : ∀ x, (ChkOk S C D → x = false) → store_Store_Check.B3 (some ⟨t, 0, none⟩) (some ⟨c, 0, none⟩) s x w'.drew (fun t' c' s' w' => ∃ m', m' < (6 - s).toNat ∧ some ⟨t, 0, none⟩ = t' ∧ some ⟨c, 0, none⟩ = c' ∧ 0 ≤ s' ∧ s' ≤ 6 ∧ m' = (6 - s').toNat ∧ Ext [] w w' ∧ Ext [] w0 w') R := by
      intro x hx
      unfold store_Store_Check.B3
      refine Bm.mk (fun h => hR _ _ (fun hc => by rw [hx hc] at h; cases h) hE') (fun h => ?_)
      rw [e2]
      exact ⟨(6 - (s + 1)).toNat, by omega, rfl, rfl, by omega, by omega, rfl, he', hE'⟩
    refine Pn.mk ⟨⟨h0, by omega⟩, ?_⟩
    rw [add_mk, add_mk, Nat.mul_one, Nat.zero_add]
    refine LdB.fn hC'.drew (by omega) (cell_used _ hs6) (Pn.mk ⟨⟨h0, by omega⟩, ?_⟩)
    rw [add_mk, add_mk, Nat.zero_add]
    refine LdB.fn hS'.drew (by omega) (cell_used _ hs6) (Bm.mk (fun h => b3 true (fun hc => by rw [hc.used _ hs6] at h; simp at h)) (fun h => Pn.mk ⟨⟨h0, by omega⟩, ?_⟩))
    rw [add_mk, add_mk, Nat.zero_add]
    refine LdI.fn hC'.drew (by omega) (cell_rIdx _ hs6) (Pn.mk ⟨⟨h0, by omega⟩, ?_⟩)
    rw [add_mk, add_mk, Nat.zero_add]
    refine LdI.fn hS'.drew (by omega) (cell_rIdx _ hs6) (Bm.mk (fun h => b3 true (fun hc => by rw [hc.recs _ hs6] at h; simp at h)) (fun h => Pn.mk ⟨⟨h0, by omega⟩, ?_⟩))
    rw [add_mk, add_mk, add_mk, Nat.zero_add]
    refine LdI.fn hC'.drew (by omega) (cell_rTerm _ hs6) (Pn.mk ⟨⟨h0, by omega⟩, ?_⟩)
    rw [add_mk, add_mk, add_mk, Nat.zero_add]
    refine LdI.fn hS'.drew (by omega) (cell_rTerm _ hs6) (Bm.mk (fun h => b3 true (fun hc => by rw [hc.recs _ hs6] at h; simp at h)) (fun h => Pn.mk ⟨⟨h0, by omega⟩, ?_⟩))
    rw [add_mk, add_mk, add_mk, Nat.zero_add]
    refine LdS.fn hC'.drew (by omega) (cell_rData _ hs6) (Pn.mk ⟨⟨h0, by omega⟩, ?_⟩)
    rw [add_mk, add_mk, add_mk, Nat.zero_add]
    exact LdS.fn hS'.drew (by omega) (cell_rData _ hs6) (b3 _ (fun hc => by rw [hc.recs _ hs6]; simp))
  · refine Pn.mk ?_
    rw [add_mk]
    refine LdI.fn hS' (by decide) (cell_mSlot _) ?_
    have e1 : IntKind.i64.wrap (1 - S.mSlot) = 1 - S.mSlot := wrap64_id (by omega) (by omega)
    rw [e1]
    refine read_ok hS' (fnArr_get _ (by decide)) hD' (by omega) (by omega) ?_
    refine decMeta_ok (b := blk D (1 - S.mSlot).toNat) (hwf _ (by omega)) fun w2 he2 => New.mk fun r w3 hr hs3 ho3 he3 => Sts.full ho3 rfl rfl fun w4 hs4 ho4 he4 => ?_
    have h2s := he2.size
    have e4 : Ext [] w' w4 := (he2.trans he3).trans' he4 (fun x hx hl => by simp at hx; omega)
    have hS4 := (e4.own hS' (by simp)).drew
    have E4 : Ext [] w0 w4.drew := (hE.trans e4).trans (Ext.drew _ _)
    have hD4 : DiskAt w4.drew S.d D F := (hD'.ext e4 (by simp)).ext (Ext.drew [] w4) (by simp)
    refine LdB.mk ho4.drew rfl (Bm.mk (fun hok => LdI.mk ho4.drew rfl (Pn.mk ?_)) (fun hok => check_b4 hS4 hD4 hwf hs2 E4 (fun _ => rfl) hR))
    rw [add_mk, add_mk]
    refine LdI.fn hS4 (by decide) (cell_mNum _) (check_b4 hS4 hD4 hwf hs2 E4 (fun hc => ?_) hR)
    rw [hc.otherM hok]; simp
theorem check_b2 {x : Bool} (hS : StoreAt w t S) (hC : StoreAt w c C) (hD : DiskAt w S.d D F) (hwf : DiskWf D) (hs1 : S.mSlot = 0 ∨ S.mSlot = 1) (hs2 : S.hSlot = 0 ∨ S.hSlot = 1) (hext : Ext [] w0 w) (hx : ChkOk S C D → x = false)
    (hR : ∀ s w', (ChkOk S C D → s = estr) → Ext [] w0 w' → R s w') : store_Store_Check.B2 (some ⟨t, 0, none⟩) (some ⟨c, 0, none⟩) x w R := by
  unfold store_Store_Check.B2
  exact Bm.mk (fun h => hR _ w (fun hc => by rw [hx hc] at h; cases h) hext) (fun h => check_l2 hS hC hD hwf hs1 hs2 hext hR)
theorem check_b1 {x : Bool} (hS : StoreAt w t S) (hC : StoreAt w c C) (hD : DiskAt w S.d D F) (hwf : DiskWf D) (hs1 : S.mSlot = 0 ∨ S.mSlot = 1) (hs2 : S.hSlot = 0 ∨ S.hSlot = 1) (hext : Ext [] w0 w) (hx : ChkOk S C D → x = false)
    (hR : ∀ s w', (ChkOk S C D → s = estr) → Ext [] w0 w' → R s w') : store_Store_Check.B1 (some ⟨t, 0, none⟩) (some ⟨c, 0, none⟩) x w R := by
  unfold store_Store_Check.B1
  refine Bm.mk (fun h => hR _ w (fun hc => by rw [hx hc] at h; cases h) hext) (fun h => Pn.mk ?_)
  simp only [add_mk, Nat.zero_add]
  refine LdB.fn hC.drew (by decide) (cell_hOk _) (LdI.fn hC.drew (by decide) (cell_hNum _) (LdI.fn hC.drew (by decide) (cell_hIdx _) (LdI.fn hC.drew (by decide) (cell_hTerm _) (LdI.fn hC.drew (by decide) (cell_hArea _) (LdI.fn hC.drew (by decide) (cell_hSize _) (Pn.mk ?_))))))
  simp only [add_mk, Nat.zero_add]
  refine LdB.fn hS.drew (by decide) (cell_hOk _) (LdI.fn hS.drew (by decide) (cell_hNum _) (LdI.fn hS.drew (by decide) (cell_hIdx _) (LdI.fn hS.drew (by decide) (cell_hTerm _) (LdI.fn hS.drew (by decide) (cell_hArea _) (LdI.fn hS.drew (by decide) (cell_hSize _) ?_)))))
  refine sameHead_ok fun w1 he1 => ?_
  have he1' : Ext [] w w1 := (Ext.drew _ _).trans he1
  have hS1 := he1'.own hS (by simp)
  have hC1 := he1'.own hC (by simp)
  have hD1 := hD.ext he1' (by simp)
  have hE1 := hext.trans he1'
  have b2 : ∀ x, (ChkOk S C D → x = false) → store_Store_Check.B2 (some ⟨t, 0, none⟩) (some ⟨c, 0, none⟩) x w1 R := fun x hx => check_b2 hS1 hC1 hD1 hwf hs1 hs2 hE1 hx hR
  refine Bm.mk (fun h => b2 true (fun hc => by rw [hc.h, sameHeadB_refl] at h; cases h)) (fun h => Pn.mk ?_)
  simp only [add_mk, Nat.zero_add]
  refine LdI.fn hC1 (by decide) (cell_hSlot _) (Pn.mk ?_)
  simp only [add_mk, Nat.zero_add]
  refine LdI.fn hS1 (by decide) (cell_hSlot _) (Bm.mk (fun h => b2 true (fun hc => by rw [hc.hSlot] at h; simp at h)) (fun h => Pn.mk ?_))
  simp only [add_mk, Nat.zero_add]
  refine LdS.fn hC1 (by decide) (cell_snap _) (Pn.mk ?_)
  simp only [add_mk, Nat.zero_add]
  exact LdS.fn hS1 (by decide) (cell_snap _) (b2 _ (fun hc => by rw [hc.snap]; simp))
end
theorem check_ok {w : World} {t : Nat} {S : StoreS} {D : DiskS} {F : List Nat} (hS : StoreAt w t S) (hD : DiskAt w S.d D F) (hwf : DiskWf D) (hs1 : S.mSlot = 0 ∨ S.mSlot = 1) (hs2 : S.hSlot = 0 ∨ S.hSlot = 1) {R : ByteArray → World → Prop}
    (hR : ∀ s w', (ChkOk S (openR S.d D) D → s = estr) → Ext [] w w' → R s w') : store_Store_Check.Call (some ⟨t, 0, none⟩) w R := by
  apply store_Store_Check.sound
  unfold store_Store_Check.B0
  refine Pn.mk (LdP.fn hS (by decide) (cell_d _) ?_)
  refine open_ok hD hwf fun c w1 hc hC1 he1 => ?_
  have hS1 := he1.own hS (by simp)
  have hD1 := hD.ext he1 (by simp)
  refine ⟨fun m t' c' b w' => some ⟨t, 0, none⟩ = t' ∧ some ⟨c, 0, none⟩ = c' ∧ 0 ≤ b ∧ b ≤ 14 ∧ m = (14 - b).toNat ∧ Ext [] w1 w', 14, ⟨rfl, rfl, by omega, by omega, rfl, Ext.refl _ _⟩, ?_⟩
  rintro m t' c' b w' ⟨rfl, rfl, h0, h1, rfl, he⟩
  have hS' := (he.own hS1 (by simp)).drew
  have hC' := (he.own hC1 (by simp)).drew
  have hD' : DiskAt w'.drew S.d D F := (hD1.ext he (by simp)).ext (Ext.drew [] w') (by simp)
  have he' : Ext [] w1 w'.drew := he.trans (Ext.drew _ _)
  have hE' : Ext [] w w'.drew := he1.trans he'
  unfold store_Store_Check.L1b
  refine Bm.ite (fun hlt => Pn.mk ⟨⟨h0, by omega⟩, ?_⟩) (fun hge => Pn.mk ?_)
  · have hb : b.toNat < 14 := by omega
    simp only [add_mk, Nat.zero_add, Nat.mul_one]
    refine LdI.fn hC' (by omega) (cell_stamp _ hb) (Pn.mk ⟨⟨h0, by omega⟩, ?_⟩)
    simp only [add_mk, Nat.zero_add]
    refine LdI.fn hS' (by omega) (cell_stamp _ hb) (Bm.mk (fun h => hR _ _ (fun hc => ?_) hE') (fun h => ?_))
    · have := hc.stamp _ hb
      rw [show (withHeads { zeroS S.d with stamp := fun i => if i < 14 then stampOf D i else 0, m := curM D, mSlot := slotM D } D) = openR S.d D from rfl, this] at h
      simp at h
    · have e2 : IntKind.i64.wrap (b + 1) = b + 1 := wrap64_id (by omega) (by omega)
      rw [e2]
      exact ⟨(14 - (b + 1)).toNat, by omega, trivial, trivial, by omega, by omega, rfl, he'⟩
  · simp only [add_mk, Nat.zero_add]
    refine LdB.fn hC' (by decide) (cell_mOk _) (LdI.fn hC' (by decide) (cell_mNum _) (LdI.fn hC' (by decide) (cell_mTerm _) (LdI.fn hC' (by decide) (cell_mVote _) (Pn.mk ?_))))
    simp only [add_mk, Nat.zero_add]
    refine LdB.fn hS' (by decide) (cell_mOk _) (LdI.fn hS' (by decide) (cell_mNum _) (LdI.fn hS' (by decide) (cell_mTerm _) (LdI.fn hS' (by decide) (cell_mVote _) ?_)))
    refine sameMeta_ok fun w2 he2 => ?_
    have hS2 := he2.own hS' (by simp)
    have hC2 : StoreAt w2 c (openR S.d D) := he2.own hC' (by simp)
    have hD2 := hD'.ext he2 (by simp)
    have hE2 := hE'.trans he2
    have b1 : ∀ x, (ChkOk S (openR S.d D) D → x = false) → store_Store_Check.B1 (some ⟨t, 0, none⟩) (some ⟨c, 0, none⟩) x w2 R := fun x hx => check_b1 hS2 hC2 hD2 hwf hs1 hs2 hE2 hx hR
    refine Bm.mk (fun h => b1 true (fun hc => ?_)) (fun h => Pn.mk ?_)
    · have := hc.m
      rw [show (withHeads { zeroS S.d with stamp := fun i => if i < 14 then stampOf D i else 0, m := curM D, mSlot := slotM D } D) = openR S.d D from rfl, this, sameMetaB_refl] at h
      cases h
    · simp only [add_mk, Nat.zero_add]
      refine LdI.fn hC2 (by decide) (cell_mSlot _) (Pn.mk ?_)
      simp only [add_mk, Nat.zero_add]
      exact LdI.fn hS2 (by decide) (cell_mSlot _) (b1 _ (fun hc => by rw [hc.mSlot]; simp))
end Go.Proofs.Qxb6500432a
