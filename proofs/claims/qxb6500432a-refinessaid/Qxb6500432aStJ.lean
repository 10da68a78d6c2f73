/-
  storelaw: the looks, Fits, After, Play.
-/
import Derived.Test.Qxb6500432aStI
import Derived.Test.Qxb6500432aOpenTotal
import Derived.Laws.Strings
set_option linter.unusedVariables false
set_option linter.unusedSimpArgs false
open Go.Vc
namespace Go.Proofs.Qxb6500432a

theorem str_beq (a b : ByteArray) : (a.toList == b.toList) = true ↔ a = b := by
  rw [beq_iff_eq, ByteArray.toList_eq, ByteArray.toList_eq]
  constructor
  · intro h
    cases a
    cases b
    simp only at h
    congr 1
    exact Array.ext' h
  · intro h
    rw [h]
section
variable {w w' : World} {t q d : Nat} {S : StoreS} {M : MSt}
theorem sameMeta'_ok {R : Bool → World → Prop} (hS : StoreAt w t S) (hM : MdAt w q M) (hR : ∀ x w', (x = true ↔ S.m.term = M.A.term ∧ S.m.vote = M.A.vote) → Ext [] w w' → R x w') : storelaw_SameMeta.Call (some ⟨t, 0, none⟩) (some ⟨q, 0, none⟩) w R := by
  apply storelaw_SameMeta.sound
  unfold storelaw_SameMeta.B0
  have E1 : Ext [] w w.drew := Ext.drew [] w
  have E2 : Ext [] w w.drew.drew := E1.trans (Ext.drew [] _)
  refine meta_ok hS (mdMeta_ok (hM.ext0 E1) (Bm.mk (fun h => hR _ _ ?_ E2) (fun h => hR _ _ ?_ E2)))
  · have h' : S.m.term = M.A.term := by simpa using h
    rw [beq_iff_eq]
    exact ⟨fun e => ⟨h', e⟩, fun e => e.2⟩
  · have h' : S.m.term ≠ M.A.term := by simpa using h
    exact ⟨fun e => (by cases e), fun e => absurd e.1 h'⟩
theorem sameSnap'_ok {R : Bool → World → Prop} (hS : StoreAt w t S) (hM : MdAt w q M) (hR : ∀ x w', (x = true ↔ S.h.idx = M.A.sidx ∧ S.h.term = M.A.sterm ∧ S.snap = M.A.snap) → Ext [] w w' → R x w') : storelaw_SameSnap.Call (some ⟨t, 0, none⟩) (some ⟨q, 0, none⟩) w R := by
  apply storelaw_SameSnap.sound
  unfold storelaw_SameSnap.B0
  have E1 : Ext [] w w.drew := Ext.drew [] w
  have E2 : Ext [] w w.drew.drew := E1.trans (Ext.drew [] _)
  refine snap_ok hS (mdSnap_ok (hM.ext0 E1) (Bm.mk (fun h => Bm.mk (fun h2 => hR _ _ ?_ E2) (fun h2 => hR _ _ ?_ E2)) (fun h => hR _ _ ?_ E2)))
  · have h' : S.h.idx = M.A.sidx := by simpa using h
    have h2' : S.h.term = M.A.sterm := by simpa using h2
    rw [str_beq]
    exact ⟨fun e => ⟨h', h2', e⟩, fun e => e.2.2⟩
  · have h2' : S.h.term ≠ M.A.sterm := by simpa using h2
    exact ⟨fun e => (by cases e), fun e => absurd e.2.1 h2'⟩
  · have h' : S.h.idx ≠ M.A.sidx := by simpa using h
    exact ⟨fun e => (by cases e), fun e => absurd e.1 h'⟩
theorem sameRec'_ok {slot : Int} {R : Bool → World → Prop} (hS : StoreAt w t S) (hM : MdAt w q M) (hR : ∀ x w', (x = true ↔ recAns S slot = recAnsA M.A slot) → Ext [] w w' → R x w') : storelaw_SameRec.Call (some ⟨t, 0, none⟩) (some ⟨q, 0, none⟩) slot w R := by
  apply storelaw_SameRec.sound
  unfold storelaw_SameRec.B0
  refine rec_ok hS fun w1 he1 => NewSet.mk rfl rfl fun r w3 hr hs3 or3 he3 => ?_
  have E3 : Ext [] w w3 := he1.trans he3
  refine mdRec_ok (hM.ext0 E3) fun w4 he4 => NewSet.mk rfl rfl fun p w6 hp hs6 op6 he6 => ?_
  have or6 := he6.own (he4.own or3 (by simp)) (by simp)
  have E6 : Ext [] w w6 := (E3.trans he4).trans he6
  generalize recAns S slot = a at hR or6
  generalize recAnsA M.A slot = b at hR op6
  obtain ⟨⟨a1, a2, a3⟩, a4⟩ := a
  obtain ⟨⟨b1, b2, b3⟩, b4⟩ := b
  simp only at or6 op6 ⊢
  refine Bm.mk (fun h1 => LdI.mk or6 rfl (LdI.mk op6 rfl (Bm.mk (fun h2 => LdI.mk or6 rfl (LdI.mk op6 rfl (Bm.mk (fun h3 => LdS.mk or6 rfl (LdS.mk op6 rfl (hR _ _ ?_ E6))) (fun h3 => hR _ _ ?_ E6)))) (fun h2 => hR _ _ ?_ E6)))) (fun h1 => hR _ _ ?_ E6)
  · have e1 : a4 = b4 := by simpa using h1
    have e2 : a1 = b1 := by simpa using h2
    have e3 : a2 = b2 := by simpa using h3
    subst e1 e2 e3
    rw [str_beq]
    constructor
    · intro e; rw [e]
    · intro e
      simp only [Prod.mk.injEq, RecS.mk.injEq, and_true, true_and] at e
      exact e
  · have e3 : a2 ≠ b2 := by simpa using h3
    refine ⟨fun e => (by cases e), fun e => ?_⟩
    simp only [Prod.mk.injEq, RecS.mk.injEq] at e
    exact absurd e.1.2.1 e3
  · have e3 : a1 ≠ b1 := by simpa using h2
    refine ⟨fun e => (by cases e), fun e => ?_⟩
    simp only [Prod.mk.injEq, RecS.mk.injEq] at e
    exact absurd e.1.1 e3
  · have e3 : a4 ≠ b4 := by simpa using h1
    refine ⟨fun e => (by cases e), fun e => ?_⟩
    simp only [Prod.mk.injEq, RecS.mk.injEq] at e
    exact absurd e.2 e3
theorem recAns_like {A : AbsS} (h : Like S A) (slot : Int) : recAns S slot = recAnsA A slot := by
  unfold recAns recAnsA
  by_cases c : slot < 0 ∨ 6 ≤ slot
  · rw [if_pos c, if_pos c]
  · rw [if_neg c, if_neg c, h.used _ (by omega)]
    by_cases u : A.used slot.toNat = true
    · rw [if_pos u, if_pos u, h.recs _ (by omega) u]
    · rw [if_neg u, if_neg u]
theorem like_of {A : AbsS} (h1 : S.m.term = A.term ∧ S.m.vote = A.vote) (h2 : S.h.idx = A.sidx ∧ S.h.term = A.sterm ∧ S.snap = A.snap) (h3 : ∀ slot : Int, 0 ≤ slot → slot < 6 → recAns S slot = recAnsA A slot) : Like S A := by
  have e1 : ∀ s : Nat, s < 6 → recAns S (s : Int) = if S.used s then (S.recs s, 0) else (⟨0, 0, estr⟩, 2) := fun s hs => by
    unfold recAns
    rw [if_neg (by omega), Int.toNat_natCast]
  have e2 : ∀ s : Nat, s < 6 → recAnsA A (s : Int) = if A.used s then (A.recs s, 0) else (⟨0, 0, estr⟩, 2) := fun s hs => by
    unfold recAnsA
    rw [if_neg (by omega), Int.toNat_natCast]
  have hu : ∀ s, s < 6 → S.used s = A.used s := fun s hs => by
    have := h3 (s : Int) (by omega) (by omega)
    rw [e1 s hs, e2 s hs] at this
    cases h4 : S.used s <;> cases h5 : A.used s <;> rw [h4, h5] at this <;> simp at this ⊢
  refine ⟨h1.1, h1.2, h2.1, h2.2.1, h2.2.2, hu, fun s hs hus => ?_⟩
  have := h3 (s : Int) (by omega) (by omega)
  rw [e1 s hs, e2 s hs, if_pos (by rw [hu s hs]; exact hus), if_pos hus] at this
  exact (Prod.mk.inj this).1
theorem alike'_ok {R : Bool → World → Prop} (hS : StoreAt w t S) (hM : MdAt w q M) (hR : ∀ x w', (x = true ↔ Like S M.A) → Ext [] w w' → R x w') : storelaw_Alike.Call (some ⟨t, 0, none⟩) (some ⟨q, 0, none⟩) w R := by
  apply storelaw_Alike.sound
  unfold storelaw_Alike.B0
  refine sameMeta'_ok hS hM fun x1 w1 hx1 he1 => ?_
  cases x1 with
  | false =>
    refine Bm.pos rfl (hR false w1 ⟨fun e => (by cases e), fun e => ?_⟩ he1)
    exact hx1.2 ⟨e.term, e.vote⟩
  | true =>
    have hS1 := he1.own hS (by simp)
    have hM1 := hM.ext0 he1
    refine Bm.neg rfl (sameSnap'_ok hS1 hM1 fun x2 w2 hx2 he2 => ?_)
    have E2 := he1.trans he2
    cases x2 with
    | false =>
      refine Bm.pos rfl (hR false w2 ⟨fun e => (by cases e), fun e => ?_⟩ E2)
      exact hx2.2 ⟨e.sidx, e.sterm, e.snap⟩
    | true =>
      refine Bm.neg rfl ?_
      unfold storelaw_Alike.L1
      refine ⟨fun m a b s w' => some ⟨t, 0, none⟩ = a ∧ some ⟨q, 0, none⟩ = b ∧ -1 ≤ s ∧ s ≤ 7 ∧ m = (7 - s).toNat ∧ Ext [] w w' ∧ ∀ slot : Int, -1 ≤ slot → slot < s → recAns S slot = recAnsA M.A slot, 8, ⟨rfl, rfl, by omega, by omega, rfl, E2, fun slot h1 h2 => by omega⟩, ?_⟩
      rintro m a b s w' ⟨rfl, rfl, s0, s1, rfl, hE, hall⟩
      unfold storelaw_Alike.L1b
      refine Bm.ite (fun hs => ?_) (fun hs => ?_)
      · refine sameRec'_ok (hE.own hS (by simp)) (hM.ext0 hE) fun x3 w3 hx3 he3 => ?_
        cases x3 with
        | false =>
          refine Bm.pos rfl (hR false w3 ⟨fun e => (by cases e), fun e => ?_⟩ (hE.trans he3))
          exact hx3.2 (recAns_like e s)
        | true =>
          refine Bm.neg rfl ?_
          rw [w64 (by omega) (by omega)]
          refine ⟨(7 - (s + 1)).toNat, by omega, rfl, rfl, by omega, by omega, rfl, hE.trans he3, fun slot h1 h2 => ?_⟩
          by_cases e : slot = s
          · rw [e]; exact hx3.1 rfl
          · exact hall slot h1 (by omega)
      · exact hR true w' ⟨fun _ => like_of (hx1.1 rfl) (hx2.1 rfl) (fun slot h1 h2 => hall slot (by omega) (by omega)), fun _ => rfl⟩ hE
theorem chkOk_of {D : DiskS} {N : Int} (h : Good D N) (hN : N ≤ 4611686018427387904) : ChkOk (openR d D) (openR d D) D := by
  have hm := h.numM
  have hh := h.numH
  have em : (openR d D).m = curM D := rfl
  have eh : (openR d D).h = curH D := rfl
  refine ⟨fun _ _ => rfl, rfl, rfl, rfl, rfl, rfl, fun _ _ => rfl, fun _ _ => rfl, fun hok => ?_, fun hok => ?_⟩
  · rw [em, w64 (by omega) (by omega)]
    exact h.otherM hok
  · rw [eh, w64 (by omega) (by omega)]
    exact h.otherH hok
theorem check'_ok {D : DiskS} {F : List Nat} {N : Int} {R : ByteArray → World → Prop} (hS : StoreAt w t (openR d D)) (hD : DiskAt w d D F) (hG : Good D N) (hN : N ≤ 4611686018427387904) (hR : ∀ w', Ext [] w w' → R estr w') : store_Store_Check.Call (some ⟨t, 0, none⟩) w R := by
  refine check_ok hS hD hG.wf (slotM_01 D) (slotH_01 D) fun s w' hs he => ?_
  have : s = estr := hs (chkOk_of hG hN)
  rw [this]
  exact hR w' he
theorem estr_eq : ((estr).toList == (ByteArray.mk #[]).toList) = true := (str_beq _ _).2 rfl
theorem seen_ok {D : DiskS} {F : List Nat} {N : Int} {R : Bool → World → Prop} (hS : StoreAt w t (openR d D)) (hD : DiskAt w d D F) (hG : Good D N) (hN : N ≤ 4611686018427387904) (hM : MdAt w q M) (hL : Like (openR d D) M.A) (hR : ∀ w', Ext [] w w' → R true w') : storelaw_Seen.Call (some ⟨d, 0, none⟩) (some ⟨t, 0, none⟩) (some ⟨q, 0, none⟩) (D.log.length : Int) w R := by
  apply storelaw_Seen.sound
  unfold storelaw_Seen.B0
  refine New.mk fun b w1 hb hs1 ob1 he1 => alike'_ok (he1.own hS (by simp)) (hM.ext0 he1) fun x w2 hx he2 => ?_
  have : x = true := hx.2 hL
  subst this
  have E2 := he1.trans he2
  refine Bm.neg rfl (check'_ok (E2.own hS (by simp)) (hD.ext E2 (by simp)) hG hN fun w3 he3 => ?_)
  have E3 := E2.trans he3
  have ob3 := he3.own (he2.own ob1 (by simp)) (by simp)
  refine LdP.mk ob3 rfl (lawSteps_ok (hD.ext E3 (by simp)) fun w4 he4 => ?_)
  refine Bm.pos estr_eq ?_
  rw [beq_self_eq_true]
  exact hR w4 (E3.trans he4)
theorem lawAfter_ok {D : DiskS} {F : List Nat} {k : Int} (hD : DiskAt w d D F) (hm : ImgWf D.mark) (hl : LogWf D) (hL : D.log.length ≤ 1000) {R : Option Addr → World → Prop} (hR : ∀ n F' w', (∀ x ∈ F', w.heap.size ≤ x) → DiskAt w' n (img (cutI D k.toNat)) F' → Ext [] w w' → R (some ⟨n, 0, none⟩) w') : storelaw_After.Call (some ⟨d, 0, none⟩) k w R := by
  apply storelaw_After.sound
  unfold storelaw_After.B0
  refine New.mk fun b w1 hb hs1 ob1 he1 => New.mk fun b4 w2 hb4 hs2 ob42 he2 => LdP.mk (he2.own ob1 (by simp)) rfl ?_
  have E2 : Ext [] w w2 := he1.trans he2
  refine diskAfter_ok (hD.ext E2 (by simp)) hm hl hL fun n F' w3 hF' hD3 he3 => diskMark_ok hD3 fun w4 F4 hD4 he4 hg4 => ?_
  have hz2 := E2.size
  have hz3 := he3.size
  have hb4F : b4 ∉ F' := fun hx => by have := hF' b4 hx; omega
  have ob44 := he4.own (he3.own ob42 (by simp)) hb4F
  have E4 : Ext [] w w4 := (E2.trans he3).trans' he4 (fun x hx hlt => by have := hF' x hx; omega)
  refine Sts.full ob44 rfl rfl fun w5 hs5 ob5 he5 => LdP.mk ob5 rfl ?_
  have hF4 : ∀ x ∈ F4, w2.heap.size ≤ x := fun x hx => by
    rcases hg4 x hx with q1 | q1
    · exact hF' x q1
    · omega
  refine hR n F4 w5 (fun x hx => by have := hF4 x hx; omega) (hD4.ext he5 (fun x hx hx2 => by simp at hx2; have := hF4 x hx; omega)) (E4.trans' he5 (fun x hx hlt => by simp at hx; omega))
theorem at_zero : M.at 0 = M.A0 := by
  unfold MSt.at
  rw [if_pos (by omega)]
theorem at_one {n : Nat} (h : M.H = [(n, M.A)]) : M.at 1 = M.A := by
  unfold MSt.at
  rw [if_neg (by omega), h]
  rfl
theorem at_all (h : (M.H = [] ∧ M.A = M.A0) ∨ ∃ n, M.H = [(n, M.A)]) : M.at (M.H.length : Int) = M.A := by
  rcases h with ⟨h1, h2⟩ | ⟨n, h⟩
  · rw [h1, h2]
    exact at_zero
  · rw [h]
    exact at_one h
theorem fits_ok {R : Int → World → Prop} (hS : StoreAt w t S) (hM : MdAt w q M) (hh : (M.H = [] ∧ M.A = M.A0) ∨ ∃ n, M.H = [(n, M.A)]) (hl : Like S M.A0 ∨ Like S M.A) (hR : ∀ j w', (j = 0 ∨ (j = 1 ∧ ¬ Like S M.A0)) → Like S (M.at j) → Ext [] w w' → R j w') : storelaw_Fits.Call (some ⟨t, 0, none⟩) (some ⟨q, 0, none⟩) w R := by
  apply storelaw_Fits.sound
  unfold storelaw_Fits.B0
  have hlen : M.H.length ≤ 1 := by
    rcases hh with ⟨h1, _⟩ | ⟨n, h⟩
    · rw [h1]; simp
    · rw [h]; simp
  refine mdSteps_ok hM ?_
  unfold storelaw_Fits.L1
  refine ⟨fun m a b n' j w' => some ⟨t, 0, none⟩ = a ∧ some ⟨q, 0, none⟩ = b ∧ (M.H.length : Int) = n' ∧ 0 ≤ j ∧ j ≤ 2 ∧ m = (2 - j).toNat ∧ Ext [] w w' ∧ (1 ≤ j → ¬ Like S M.A0) ∧ (2 ≤ j → ¬ Like S M.A), 2, ⟨rfl, rfl, rfl, by omega, by omega, rfl, Ext.refl _ _, fun h => by omega, fun h => by omega⟩, ?_⟩
  rintro m a b n' j w' ⟨rfl, rfl, rfl, j0, j1, rfl, hE, hn0, hn1⟩
  unfold storelaw_Fits.L1b
  refine Bm.ite (fun hj => ?_) (fun hj => ?_)
  · refine mdAfter_ok (hM.ext0 hE) (by omega) fun q' M' w1 hq' hM' hA hA0 hH he1 => ?_
    have hS1 := he1.own (hE.own hS (by simp)) (by simp)
    refine alike'_ok hS1 hM' fun x w2 hx he2 => ?_
    rw [hA] at hx
    have E2 := (hE.trans he1).trans he2
    cases x with
    | true =>
      refine Bm.pos rfl (hR j w2 ?_ (hx.1 rfl) E2)
      have : j = 0 ∨ j = 1 := by omega
      rcases this with e | e
      · exact .inl e
      · exact .inr ⟨e, hn0 (by omega)⟩
    | false =>
      have hnl : ¬ Like S (M.at j) := fun e => by have := hx.2 e; cases this
      refine Bm.neg rfl ?_
      rw [w64 (by omega) (by omega)]
      refine ⟨(2 - (j + 1)).toNat, by omega, rfl, rfl, rfl, by omega, by omega, rfl, E2, fun _ => ?_, fun h2 => ?_⟩
      · by_cases e : j = 0
        · rw [e, at_zero] at hnl
          exact hnl
        · exact hn0 (by omega)
      · have e : j = 1 := by omega
        rcases hh with ⟨h1, _⟩ | ⟨n, h⟩
        · rw [h1] at hj
          simp at hj
          omega
        · rw [e, at_one h] at hnl
          exact hnl
  · -- no j is left
    exfalso
    have h1 : ¬ Like S M.A0 := hn0 (by omega)
    rcases hl with e | e
    · exact h1 e
    · rcases hh with ⟨q1, q2⟩ | ⟨n, h⟩
      · rw [q2] at e
        exact h1 e
      · rw [h] at hj
        simp at hj
        exact hn1 (by omega) e
end
end Go.Proofs.Qxb6500432a
