/-
  rlog: Open, Sound, Check.
-/
import Derived.Test.Qxb6500430aGreatRlD
import Derived.Laws.Strings
set_option linter.unusedVariables false
set_option linter.unusedSimpArgs false
open Go.Vc
namespace Go.Proofs.Qxb6500430aGreat

theorem str_beq (a b : ByteArray) : (a.toList == b.toList) = true ↔ a = b := by
  rw [beq_iff_eq, ByteArray.toList_eq, ByteArray.toList_eq]
  constructor
  · intro h
    cases a
    cases b
    simp only at h
    congr 1
    exact Array.ext' h
  · intro h
    rw [h]
theorem str_self (a : ByteArray) : (a.toList == a.toList) = true := (str_beq a a).2 rfl
def recA (A : AbsS) (s : Nat) : RecS × Int := if A.used s = true then (A.recs s, 0) else (⟨0, 0, estr⟩, 2)
section
variable {w w' : World} {l t d : Nat} {D : DiskS} {F : List Nat} {A : AbsS} {L : LogS} {S : List LogS} {N : Int} {X : RlR}
theorem oRec_ok {s : Nat} {R : Int → Int → ByteArray → Int → World → Prop} (h : St w t d D F A) (hs : s < 6) (hR : ∀ w', Ext [] w w' → R (recA A s).1.idx (recA A s).1.term (recA A s).1.data (recA A s).2 w') : store_Store_Rec.Call (some ⟨t, 0, none⟩) (s : Int) w R := by
  have hl := likeI_of (d := d) h.like
  refine rec_ok h.st fun w1 he1 => ?_
  have e : recAns (openR d D) (s : Int) = recA A s := by
    unfold recAns recA
    rw [if_neg (by omega), Int.toNat_natCast, hl.used s hs]
    by_cases u : A.used s = true
    · rw [if_pos u, if_pos u, hl.recs s hs u]
    · rw [if_neg u, if_neg u]
  rw [e]
  exact hR w1 he1
theorem Holds.next (h : Holds A L) (hl : L.ents.length < 6) (hu : A.used (sl (L.base + 1 + (L.ents.length : Int))) = true) : (A.recs (sl (L.base + 1 + (L.ents.length : Int)))).idx ≠ L.base + 1 + (L.ents.length : Int) := by
  rcases h.rest _ (sl_lt _) hu with ⟨i, hi, e⟩ | ⟨_, h2, _⟩
  · have := sl_ne (by omega) (by omega) e
    omega
  · omega
def tkL (n : Nat) (L : LogS) : LogS := { L with ents := L.ents.take n }
theorem tkL_all (L : LogS) : tkL L.ents.length L = L := by unfold tkL; rw [List.take_length]
theorem load_ok {i : Int} {R : Bool → World → Prop} (h : St w t d D F A) (x1 : RlAt w l X) (ht : X.t = t) (hi : 0 ≤ i)
    (hT : A.used (sl i) = true → (A.recs (sl i)).idx = i → ∀ w', RlAt w' l { X with tf := upd X.tf (sl i) (A.recs (sl i)).term, df := upd X.df (sl i) (A.recs (sl i)).data } → Ext [l] w w' → R true w')
    (hF : ¬ (A.used (sl i) = true ∧ (A.recs (sl i)).idx = i) → ∀ w', Ext [] w w' → R false w') : rlog_Log_load.Call (some ⟨l, 0, none⟩) i w R := by
  apply rlog_Log_load.sound
  unfold rlog_Log_load.B0
  have hsl := sl_lt i
  refine slotOf_ok hi (Pn.mk (x1.ldT ?_))
  rw [ht]
  refine oRec_ok h hsl fun w1 he1 => NewSet.mk rfl rfl fun r w2 hr hs2 o2 he2 => ?_
  have E2 := he1.trans he2
  have g2 : RlAt w2 l X := E2.own x1 (by simp)
  by_cases hu : A.used (sl i) = true
  · have er : recA A (sl i) = (A.recs (sl i), 0) := by unfold recA; rw [if_pos hu]
    rw [er] at o2 ⊢
    refine Bm.neg rfl (LdI.mk o2 rfl ?_)
    unfold rlog_Log_load.B1
    by_cases e : (A.recs (sl i)).idx = i
    · have o2d : Own w2.drew r _ _ := Own.drew o2
      refine Bm.neg (by simpa using e) (LdI.mk o2d rfl (Pn.mk (slotOf_ok hi ⟨o2d.cell rfl, ⟨by omega, by omega⟩, RlAt.stTf (w := w2.drew) g2 hsl fun w3 hs3 g3 he3 => ?_⟩)))
      have o3 := ownT he3 (Tys.one (Own.drew g2)) o2d (by decide)
      have o3d : Own w3.drew r _ _ := Own.drew o3
      refine LdS.mk o3d rfl (Pn.mk (slotOf_ok hi ⟨o3d.cell rfl, ⟨by omega, by omega⟩, RlAt.stDf (w := w3.drew) g3 hsl fun w4 hs4 g4 he4 => hT hu e w4 g4 ?_⟩))
      exact E2.nil.trans ((Ext.drew [l] w2).trans (he3.trans ((Ext.drew [l] w3).trans he4)))
    · exact Bm.pos (by simpa using e) (hF (fun q => e q.2) w2 E2)
  · have er : recA A (sl i) = (⟨0, 0, estr⟩, 2) := by unfold recA; rw [if_neg hu]
    rw [er] at o2 ⊢
    refine Bm.pos rfl ?_
    unfold rlog_Log_load.B1
    exact Bm.pos rfl (hF (fun q => hu q.1) w2 E2)
theorem sweep_ok {R : World → Prop} (h : St w t d D F A) (x1 : RlAt w l X) (x2 : Mir X t L) (hp : Path D [L] N) (hl : D.log.length ≤ 100) (hA : Holds A L) (hk : LogOk L)
    (hR : ∀ w' D' F' A', Real w' l t d D' F' A' L → Path D' [L] N → D'.log.length ≤ D.log.length + 12 → (Clean A L → D' = D) → Ext (t :: F) w w' → Grew w F F' → R w') : rlog_Log_sweep.Call (some ⟨l, 0, none⟩) w R := by
  apply rlog_Log_sweep.sound
  unfold rlog_Log_sweep.B0 rlog_Log_sweep.L1
  have hb := hk.base
  have hn := hk.len
  have ht := x2.t
  refine ⟨fun m l' s w' => ∃ (j : Nat) (D' : DiskS) (F' : List Nat) (A' : AbsS), j ≤ 6 ∧ m = 6 - j ∧ some ⟨l, 0, none⟩ = l' ∧ s = (j : Int) ∧ St w' t d D' F' A' ∧ RlAt w' l X ∧ Holds A' L ∧ (∀ s, s < j → A'.used s = true → ∃ i : Nat, i < L.ents.length ∧ s = sl (L.base + 1 + (i : Int))) ∧ Path D' [L] N ∧ D'.log.length ≤ D.log.length + 2 * j ∧ (Clean A L → D' = D ∧ A' = A) ∧ Ext (t :: F) w w' ∧ Grew w F F', _,
    ⟨0, D, F, A, by omega, rfl, rfl, rfl, h, x1, hA, fun s hs => by omega, hp, by omega, fun _ => ⟨rfl, rfl⟩, Ext.refl _ _, Grew.refl _ _⟩, ?_⟩
  rintro m l' s w1 ⟨j, D1, F1, A1, hj, rfl, rfl, rfl, s1, g1, hA1, hc1, p1, q1, z1, he1, hg1⟩
  unfold rlog_Log_sweep.L1b
  refine Bm.ite (fun hc => Pn.mk (g1.ldT ?_)) fun hc => ?_
  · rw [ht]
    have hj6 : j < 6 := by omega
    refine oRec_ok s1 hj6 fun w2 he2 => NewSet.mk rfl rfl fun r w3 hr hs3 o3 he3 => ?_
    have E3 := he2.trans he3
    have s3 := s1.ext0 E3
    have g3 : RlAt w3 l X := E3.own g1 (by simp)
    have e13 : Ext (t :: F) w w3 := he1.trans E3.nil
    have stay : (A1.used j = true → ∃ i : Nat, i < L.ents.length ∧ j = sl (L.base + 1 + (i : Int))) → rlog_Log_sweep.B1 (some ⟨l, 0, none⟩) (j : Int) false w3 (fun l' s' w' => ∃ m', m' < 6 - j ∧ ∃ (j : Nat) (D' : DiskS) (F' : List Nat) (A' : AbsS), j ≤ 6 ∧ m' = 6 - j ∧ some ⟨l, 0, none⟩ = l' ∧ s' = (j : Int) ∧ St w' t d D' F' A' ∧ RlAt w' l X ∧ Holds A' L ∧ (∀ s, s < j → A'.used s = true → ∃ i : Nat, i < L.ents.length ∧ s = sl (L.base + 1 + (i : Int))) ∧ Path D' [L] N ∧ D'.log.length ≤ D.log.length + 2 * j ∧ (Clean A L → D' = D ∧ A' = A) ∧ Ext (t :: F) w w' ∧ Grew w F F') R := fun hliv => by
      unfold rlog_Log_sweep.B1 rlog_Log_sweep.B2
      refine Bm.neg rfl ⟨6 - (j + 1), by omega, j + 1, D1, F1, A1, by omega, rfl, rfl, by rw [w64 (by omega) (by omega)]; omega, s3, g3, hA1, fun s hs hu => ?_, p1, by omega, z1, e13, hg1⟩
      by_cases e : s = j
      · subst e; exact hliv hu
      · exact hc1 s (by omega) hu
    by_cases hu : A1.used j = true
    · have er : recA A1 j = (A1.recs j, 0) := by unfold recA; rw [if_pos hu]
      rw [er]
      refine Bm.pos rfl (indexIn_ok g3 x2 hk ⟨fun i hi e => ?_, fun hno => ?_⟩)
      · rw [show ((L.base + 1 + (i : Int) == 0)) = false by simp; omega]
        exact stay fun _ => ⟨i, hi, e⟩
      · unfold rlog_Log_sweep.B1 rlog_Log_sweep.B2
        refine Bm.pos rfl (Pn.mk (g3.ldT ?_))
        refine callEq (b := some ⟨t, 0, none⟩) (by rw [ht]) ?_
        have hrub := hA1.rub hno
        refine oDel_ok s3 p1 (by omega) hA1 (by simp) hj6 hu hrub (by simp) fun w4 D4 F4 s4 p4 q4 he4 hg4 => ⟨6 - (j + 1), by omega, j + 1, D4, F4, _, by omega, rfl, rfl, by rw [w64 (by omega) (by omega)]; omega, s4, ownT he4 s3.tys g3 (by decide), hrub, fun s hs hu' => ?_, p4, by omega, fun hcl => ?_, ?_, ?_⟩
        · have hu2 : upd A1.used j false s = true := hu'
          by_cases e : s = j
          · rw [e, upd_eq] at hu2; cases hu2
          · rw [upd_ne _ _ e] at hu2
            exact hc1 s (by omega) hu2
        · obtain ⟨_, ea⟩ := z1 hcl
          rw [ea] at hu
          obtain ⟨i, hi, e⟩ := hcl j hj6 hu
          exact absurd e (hno i hi)
        · exact e13.trans' he4 (fun y hy hlt => by
            rcases List.mem_cons.1 hy with e | e
            · rw [e]; simp
            · rcases hg1 y e with z | z
              · exact List.mem_cons_of_mem _ z
              · omega)
        · exact hg1.trans e13.size hg4
    · have er : recA A1 j = (⟨0, 0, estr⟩, 2) := by unfold recA; rw [if_neg hu]
      rw [er]
      exact Bm.neg rfl (stay fun q => absurd q hu)
  · have : j = 6 := by omega
    subst this
    exact hR w1 D1 F1 A1 ⟨s1, ⟨X, g1, x2⟩, hk, hA1, fun s hs hu => hc1 s hs hu⟩ p1 (by omega) (fun q => (z1 q).1) he1 hg1
theorem openL_ok {R : Option Addr → World → Prop} (h : St w t d D F A) (hp : Path D [L] N) (hl : D.log.length ≤ 100) (hA : Holds A L) (hk : LogOk L)
    (hR : ∀ l w' D' F' A', w.heap.size ≤ l → Real w' l t d D' F' A' L → Path D' [L] N → D'.log.length ≤ D.log.length + 12 → (Clean A L → D' = D) → Ext (t :: F) w w' → Grew w F F' → R (some ⟨l, 0, none⟩) w') : rlog_Open.Call (some ⟨t, 0, none⟩) w R := by
  apply rlog_Open.sound
  unfold rlog_Open.B0
  have lk := likeI_of (d := d) h.like
  have hb := hk.base
  have hn := hk.len
  have hla := hk.last
  refine New.mk fun l w1 hl1 hs1 o1 he1 => ?_
  have g1 : RlAt w1 l ⟨t, 0, 0, 0, 0, estr, 0, fun _ => 0, fun _ => estr⟩ := o1
  refine meta_ok (he1.own h.st (by simp)) ?_
  rw [lk.term, lk.vote, hA.term, hA.vote]
  refine RlAt.stTerm (w := w1.drew) g1 fun w3 hs3 g3 he3 => g3.stVote fun w4 hs4 g4 he4 => ?_
  have hlz : w.heap.size ≤ l := by omega
  have E4 : Ext [] w w4 := he1.trans' ((Ext.drew [l] w1).trans (he3.trans he4)) (fun x hx hlt => by simp at hx; omega)
  refine snap_ok (E4.own h.st (by simp)) ?_
  rw [lk.sidx, lk.sterm, lk.snap, hA.base, hA.bterm, hA.snap]
  refine RlAt.stBase (w := w4.drew) g4 fun w6 hs6 g6 he6 => g6.stBterm fun w7 hs7 g7 he7 => g7.stSnap fun w8 hs8 g8 he8 => g8.ldI (o := 3) (by omega) rfl (g8.stLast fun w9 hs9 g9 he9 => ?_)
  have E9 : Ext [] w w9 := E4.trans' ((Ext.drew [l] w4).trans (he6.trans (he7.trans (he8.trans he9)))) (fun x hx hlt => by simp at hx; omega)
  unfold rlog_Open.L1
  refine ⟨fun m l' w' => ∃ (n : Nat) (X : RlR), n ≤ L.ents.length ∧ m = L.ents.length - n ∧ l = l' ∧ RlAt w' l X ∧ Mir X t (tkL n L) ∧ Ext [] w w', _,
    ⟨0, _, by omega, rfl, rfl, g9, ⟨rfl, rfl, rfl, rfl, rfl, rfl, by show L.base = L.base + _; simp [tkL], fun i e he => by simp [tkL] at he⟩, E9⟩, ?_⟩
  rintro m l' w' ⟨n, X, hnl, rfl, rfl, x1, x2, hE⟩
  have hs := h.ext0 hE
  have elast : X.last = L.base + (n : Int) := by
    rw [x2.last]
    unfold LogS.last tkL
    simp only [List.length_take]
    omega
  have fin : n = L.ents.length → ∀ w2, Ext [] w' w2 → rlog_Open.B1 l false w2 (fun l' w'' => ∃ m', m' < L.ents.length - n ∧ ∃ (n : Nat) (X : RlR), n ≤ L.ents.length ∧ m' = L.ents.length - n ∧ l = l' ∧ RlAt w'' l X ∧ Mir X t (tkL n L) ∧ Ext [] w w'') R := fun en w2 he2 => by
    unfold rlog_Open.B1
    rw [en, tkL_all] at x2
    have E2 := hE.trans he2
    refine Bm.neg rfl (sweep_ok (h.ext0 E2) (he2.own x1 (by simp)) x2 hp hl hA hk fun w3 D3 F3 A3 r3 p3 q3 z3 he3 hg3 => hR l w3 D3 F3 A3 hlz r3 p3 q3 z3 (E2.nil.trans he3) (fun k hk => ?_))
    rcases hg3 k hk with q | q
    · exact .inl q
    · exact .inr (by have := E2.size; omega)
  unfold rlog_Open.L1b
  have Ed : Ext [] w' w'.drew := Ext.drew [] w'
  refine RlAt.ldI (w := w'.drew) x1 (o := 6) (by omega) rfl (RlAt.ldI (w := w'.drew) x1 (o := 3) (by omega) rfl ?_)
  rw [elast, x2.base]
  have ebase : (tkL n L).base = L.base := rfl
  rw [ebase, w64 (by omega) (by omega)]
  refine Bm.ite (fun hc => ?_) fun hc => fin (by omega) _ Ed
  refine RlAt.ldI (w := w'.drew) x1 (o := 6) (by omega) rfl ?_
  rw [elast, w64 (by omega) (by omega), show L.base + (n : Int) + 1 = L.base + 1 + (n : Int) by omega]
  refine load_ok (hs.ext0 Ed) (l := l) (X := X) (Own.drew x1) x2.t (by omega) (fun hu hi w2 g2 he2 => ?_) fun hno w2 he2 => ?_
  · unfold rlog_Open.B1
    have hlt : n < L.ents.length := by
      rcases Nat.lt_or_ge n L.ents.length with q | q
      · exact q
      · have en : n = L.ents.length := by omega
        rw [en] at hu hi
        exact absurd hi (hA.next (by omega) hu)
    have hlv := hA.live n _ (getD_some' hlt)
    rw [hlv.2] at g2
    refine Bm.pos rfl (g2.ldI (o := 6) (by omega) rfl (g2.stLast fun w3 hs3 g3 he3 => ⟨L.ents.length - (n + 1), by omega, n + 1, _, by omega, rfl, rfl, g3, ⟨x2.t, x2.term, x2.vote, x2.base, x2.bterm, x2.snap, ?_, fun i e he => ?_⟩, hE.trans' (Ed.nil.trans (he2.trans he3)) (fun x hx hlt => by simp at hx; omega)⟩))
    · show IntKind.i64.wrap (X.last + 1) = _
      rw [elast, w64 (by omega) (by omega)]
      unfold LogS.last tkL
      simp only [List.length_take]
      omega
    · have he' : (L.ents.take (n + 1))[i]? = some e := he
      have hi' : i < n + 1 := by
        have := (List.getElem?_eq_some_iff.1 he').1
        rw [List.length_take] at this
        omega
      rw [List.getElem?_take, if_pos hi'] at he'
      show upd X.tf (sl (L.base + 1 + (n : Int))) (L.ents.getD n (0, estr)).1 (sl (L.base + 1 + (i : Int))) = e.1 ∧ upd X.df (sl (L.base + 1 + (n : Int))) (L.ents.getD n (0, estr)).2 (sl (L.base + 1 + (i : Int))) = e.2
      by_cases ei : i = n
      · subst ei
        rw [upd_eq, upd_eq]
        rw [getD_some' hlt] at he'
        cases he'
        exact ⟨rfl, rfl⟩
      · have hne : sl (L.base + 1 + (i : Int)) ≠ sl (L.base + 1 + (n : Int)) := fun q => ei (sl_ne (by omega) (by omega) q)
        rw [upd_ne _ _ hne, upd_ne _ _ hne]
        refine x2.ring i e ?_
        show (L.ents.take n)[i]? = some e
        rw [List.getElem?_take, if_pos (by omega)]
        exact he'
  · refine fin ?_ w2 (Ed.trans he2)
    rcases Nat.lt_or_ge n L.ents.length with q | q
    · have hlv := hA.live n _ (getD_some' q)
      exact absurd ⟨hlv.1, by rw [hlv.2]⟩ hno
    · omega
end
end Go.Proofs.Qxb6500430aGreat
