/-
  sock: the real side's List: an insertion sort.
-/
import Derived.Test.Qxb6500424aGreatSkM
set_option linter.unusedVariables false
set_option linter.unusedSimpArgs false
open Go.Vc
namespace Go.Proofs.Qxb6500424aGreat.Sk

abbrev AscI (L : List Int) : Prop := Asc (fun x : Int => x.toNat) L
theorem asc_sd {S : SkS} (hS : SkOk S) : AscI (S.E.map fun a => a.1.sd) := by
  show List.Pairwise _ _
  rw [List.pairwise_map]
  exact hS.asc
theorem Lri_succ (T : Tbl) (n : Nat) : Lri T (n + 1) = Lri T n ++ lvr (T.rows n) := by
  unfold Lri
  rw [List.range_succ, List.flatMap_append]
  simp
theorem ins_mid {A P Q : List Int} {x : Int} (hA : AscI A) (e : A = P ++ Q) (hP : ∀ y ∈ P, y < x) (hQ : ∀ y ∈ Q, x < y) (pos : ∀ y ∈ A, 1 ≤ y) (hx : 1 ≤ x) : AscI (P ++ x :: Q) := by
  subst e
  have h := List.pairwise_append.1 hA
  refine List.pairwise_append.2 ⟨h.1, List.pairwise_cons.2 ⟨fun y hy => ?_, h.2.1⟩, fun y hy z hz => ?_⟩
  · have := hQ y hy; have := pos y (List.mem_append.2 (.inr hy)); show x.toNat < y.toNat; omega
  · rcases List.mem_cons.1 hz with rfl | hz
    · have := hP y hy; have := pos y (List.mem_append.2 (.inl hy)); show y.toNat < z.toNat; omega
    · exact h.2.2 y hy z hz
section
variable {w : World} {b : Nat} {S : SkS}
theorem realList_ok {R : Option Addr → Nat → Nat → World → Prop} (h : RAt w b S) (hS : SkOk S)
    (hR : ∀ r w', w.heap.size ≤ r → IAt w' r (S.E.map fun a => a.1.sd) → Ext [] w w' → R (some ⟨r, 0, none⟩) S.E.length S.E.length w') : sock_Table_List.Call (some ⟨b, 0, none⟩) w R := by
  apply sock_Table_List.sound
  unfold sock_Table_List.B0 sock_Table_List.L1
  obtain ⟨T, F, C, occ, ht, hr⟩ := h
  have hlen : (Lr T).length = S.E.length := by have := hr.perm.length_eq; simpa using this
  have pos : ∀ e ∈ Lr T, 1 ≤ e.sd := fun e he => by
    have := hr.perm.subset he
    rw [List.mem_map] at this
    obtain ⟨a, ha, rfl⟩ := this
    exact (hS.ei.sd a ha).1
  refine ⟨fun m t n i w' => ∃ q : Nat, q ≤ 6 ∧ m = 6 - q ∧ some ⟨b, 0, none⟩ = t ∧ n = ((Lri T q).length : Int) ∧ i = (q : Int) ∧ w = w', _, ⟨0, by omega, rfl, rfl, rfl, rfl, rfl⟩, ?_⟩
  rintro m t n i w' ⟨q, hq, rfl, rfl, rfl, rfl, rfl⟩
  have hle := Lri_le T q
  unfold sock_Table_List.L1b
  refine Bm.ite (fun hlt => Pn.mk ⟨⟨by omega, by omega⟩, ht.ldUsed (by omega) ?_⟩) fun hge => ?_
  · unfold sock_Table_List.B1
    refine Bm.mk (fun hu => ⟨6 - (q + 1), by omega, q + 1, by omega, rfl, rfl, ?_, by rw [w64 (by omega) (by omega)]; omega, rfl⟩) fun hu => ⟨6 - (q + 1), by omega, q + 1, by omega, rfl, rfl, ?_, by rw [w64 (by omega) (by omega)]; omega, rfl⟩
    · rw [w64 (by omega) (by omega), Lri_succ, List.length_append]
      unfold lvr
      rw [if_pos hu]
      simp
    · rw [Lri_succ, List.length_append]
      unfold lvr
      rw [if_neg (by simp [hu])]
      simp
  · have e6 : q = 6 := by omega
    subst e6
    have hn6 : (Lri T 6).length = S.E.length := hlen
    rw [hn6]
    rw [hn6] at hle
    refine IAt.make (by omega) fun r w1 e1 s1 o1 he1 => ?_
    rw [Int.toNat_natCast]
    unfold sock_Table_List.L2
    have tot : ∀ q, q ≤ 6 → (Lri T q).length ≤ S.E.length := fun q hq => by
      rw [← hn6]
      obtain ⟨d, hd⟩ : ∃ d, 6 = q + d := ⟨6 - q, by omega⟩
      rw [hd]
      have : ∀ d, (Lri T q).length ≤ (Lri T (q + d)).length := fun d => by
        induction d with
        | zero => exact Nat.le_refl _
        | succ d ih => rw [← Nat.add_assoc, Lri_succ, List.length_append]; omega
      exact this d
    refine ⟨fun m t ob ol oc k i w' => ∃ (q : Nat) (A : List Int), q ≤ 6 ∧ m = 6 - q ∧ some ⟨b, 0, none⟩ = t ∧ some ⟨r, 0, none⟩ = ob ∧ S.E.length = ol ∧ S.E.length = oc ∧ k = (A.length : Int) ∧ i = (q : Int) ∧ AscI A ∧ A.Perm ((Lri T q).map (·.sd)) ∧ IAt w' r (A ++ List.replicate (S.E.length - A.length) 0) ∧ Ext [r] w1 w', _,
      ⟨0, [], by omega, rfl, rfl, rfl, rfl, rfl, rfl, rfl, List.Pairwise.nil, List.Perm.refl _, by simpa using o1, Ext.refl _ _⟩, ?_⟩
    rintro m t ob ol oc k i w' ⟨q, A, hq, rfl, rfl, rfl, rfl, rfl, rfl, rfl, hA, hp, o', he'⟩
    have hx : Ext [] w w' := he1.trans' he' (fun x hx hlt => by simp at hx; omega)
    have hAl : A.length = (Lri T q).length := by have := hp.length_eq; simpa using this
    have ht' := ht.ext0 hx
    unfold sock_Table_List.L2b
    refine Bm.ite (fun hlt => Pn.mk ⟨⟨by omega, by omega⟩, ht'.ldUsed (by omega) ?_⟩) fun hge => ?_
    · refine Bm.mk (fun hu => Pn.mk ⟨⟨by omega, by omega⟩, ht'.ldSd (by omega) ?_⟩) fun hu => ⟨6 - (q + 1), by omega, q + 1, A, by omega, rfl, rfl, rfl, rfl, rfl, rfl, by rw [w64 (by omega) (by omega)]; omega, hA, ?_, o', he'⟩
      · have hls : Lri T (q + 1) = Lri T q ++ [(T.rows q).e] := by
          rw [Lri_succ]; unfold lvr; rw [if_pos hu]
        have hkl : A.length + 1 ≤ S.E.length := by
          have := tot (q + 1) (by omega)
          rw [hls, List.length_append] at this
          simp at this
          omega
        have hL6 : ∀ e ∈ Lri T (q + 1), e ∈ Lr T := fun e he => by
          unfold Lri at he
          rw [List.mem_flatMap] at he
          obtain ⟨j, hj, hv⟩ := he
          unfold Lr Lri
          exact List.mem_flatMap.2 ⟨j, List.mem_range.2 (by have := List.mem_range.1 hj; omega), hv⟩
        have posA : ∀ y ∈ A, 1 ≤ y := fun y hy => by
          have := hp.subset hy
          rw [List.mem_map] at this
          obtain ⟨e, he, rfl⟩ := this
          exact pos e (hL6 e (by rw [hls]; exact List.mem_append.2 (.inl he)))
        have hx1 : 1 ≤ (T.rows q).e.sd := pos _ (hL6 _ (by rw [hls]; simp))
        have hnm : (T.rows q).e.sd ∉ A := fun hmem => by
          have h1 := hp.subset hmem
          rw [List.mem_map] at h1
          obtain ⟨e, he, ee⟩ := h1
          unfold Lri at he
          rw [List.mem_flatMap] at he
          obtain ⟨j, hj, hv⟩ := he
          have hj' := List.mem_range.1 hj
          unfold lvr at hv
          split at hv
          · rename_i huj
            rw [List.mem_singleton] at hv
            subst hv
            have := hr.uniq hS j q (by omega) (by omega) huj hu ee
            omega
          · cases hv
        generalize hxd : (T.rows q).e.sd = x at hx1 hnm
        refine Pn.mk ⟨⟨by omega, by omega⟩, o'.st (addr_k r A.length) (by simp; omega) fun w2 hs2 o2 he2 => ?_⟩
        rw [List.set_append_right _ _ (Nat.le_refl _), Nat.sub_self, show S.E.length - A.length = (S.E.length - (A.length + 1)) + 1 by omega, List.replicate_succ, List.set_cons_zero] at o2
        unfold sock_Table_List.L3
        refine ⟨fun m t ob ol oc k i j w' => ∃ (P Q : List Int), m = P.length ∧ some ⟨b, 0, none⟩ = t ∧ some ⟨r, 0, none⟩ = ob ∧ S.E.length = ol ∧ S.E.length = oc ∧ (A.length : Int) = k ∧ (q : Int) = i ∧ j = (P.length : Int) ∧ A = P ++ Q ∧ (∀ y ∈ Q, x < y) ∧ IAt w' r (P ++ (x :: Q ++ List.replicate (S.E.length - (A.length + 1)) 0)) ∧ Ext [r] w1 w', _,
          ⟨A, [], rfl, rfl, rfl, rfl, rfl, rfl, rfl, rfl, by simp, fun y hy => (by cases hy), by simpa using o2, he'.trans he2⟩, ?_⟩
        rintro m t ob ol oc k i j w3 ⟨P, Q, rfl, rfl, rfl, rfl, rfl, rfl, rfl, rfl, eA, hQ, o3, he3⟩
        have lA : A.length = P.length + Q.length := by rw [eA, List.length_append]
        have o3' : IAt w3.drew r (P ++ (x :: Q ++ List.replicate (S.E.length - (A.length + 1)) 0)) := o3
        have done : (∀ y ∈ P, y < x) → sock_Table_List.B2 (some ⟨b, 0, none⟩) (some ⟨r, 0, none⟩) S.E.length S.E.length (A.length : Int) (q : Int) (P.length : Int) false w3.drew (fun t' ob' ol' oc' k' i' w' => ∃ m', m' < 6 - q ∧ ∃ (q : Nat) (A : List Int), q ≤ 6 ∧ m' = 6 - q ∧ some ⟨b, 0, none⟩ = t' ∧ some ⟨r, 0, none⟩ = ob' ∧ S.E.length = ol' ∧ S.E.length = oc' ∧ k' = (A.length : Int) ∧ i' = (q : Int) ∧ AscI A ∧ A.Perm ((Lri T q).map (·.sd)) ∧ IAt w' r (A ++ List.replicate (S.E.length - A.length) 0) ∧ Ext [r] w1 w') (fun t' ob' ol' oc' k' i' j' w' => ∃ m', m' < P.length ∧ ∃ (P Q : List Int), m' = P.length ∧ some ⟨b, 0, none⟩ = t' ∧ some ⟨r, 0, none⟩ = ob' ∧ S.E.length = ol' ∧ S.E.length = oc' ∧ (A.length : Int) = k' ∧ (q : Int) = i' ∧ j' = (P.length : Int) ∧ A = P ++ Q ∧ (∀ y ∈ Q, x < y) ∧ IAt w' r (P ++ (x :: Q ++ List.replicate (S.E.length - (A.length + 1)) 0)) ∧ Ext [r] w1 w') R := fun hP => by
          unfold sock_Table_List.B2
          refine Bm.neg rfl ⟨6 - (q + 1), by omega, q + 1, P ++ x :: Q, by omega, rfl, rfl, rfl, rfl, rfl, ?_, by rw [w64 (by omega) (by omega)]; omega, ins_mid hA eA hP hQ posA hx1, ?_, ?_, he3.trans (Ext.drew _ _)⟩
          · rw [w64 (by omega) (by omega), List.length_append, List.length_cons]
            omega
          · rw [hls, List.map_append]
            refine List.perm_middle.trans ?_
            rw [← eA, ← hxd]
            exact (List.Perm.cons _ hp).trans (List.perm_append_singleton _ _).symm
          · rw [show (P ++ x :: Q).length = A.length + 1 by rw [List.length_append, List.length_cons]; omega, List.append_assoc]
            exact o3'
        unfold sock_Table_List.L3b
        refine Bm.ite (fun hj => ?_) fun hj => done fun y hy => ?_
        · obtain ⟨P', y, rfl⟩ : ∃ P' y, P = P' ++ [y] := by
            rcases List.eq_nil_or_concat P with rfl | ⟨P', y, rfl⟩
            · simp at hj
            · exact ⟨P', y, by simp⟩
          rw [List.length_append, List.length_singleton] at *
          rw [w64 (by omega) (by omega), show ((P'.length + 1 : Nat) : Int) - 1 = (P'.length : Int) by omega]
          have g1 : (P' ++ [y] ++ (x :: Q ++ List.replicate (S.E.length - (A.length + 1)) 0))[P'.length]? = some y := by simp
          have g2 : (P' ++ [y] ++ (x :: Q ++ List.replicate (S.E.length - (A.length + 1)) 0))[P'.length + 1]? = some x := by
            rw [List.getElem?_append_right (by simp)]
            simp
          refine Pn.mk ⟨⟨by omega, by omega⟩, o3'.ld (addr_k r P'.length) g1 (Pn.mk ⟨⟨by omega, by omega⟩, o3'.ld (addr_k r (P'.length + 1)) g2 ?_⟩)⟩
          by_cases hyx : y > x
          · rw [decide_eq_true hyx]
            unfold sock_Table_List.B2
            rw [w64 (by omega) (by omega), show ((P'.length + 1 : Nat) : Int) - 1 = (P'.length : Int) by omega]
            refine Bm.pos rfl (Pn.mk ⟨⟨by omega, by omega⟩, IAt.ld (w := w3.drew.drew) o3' (addr_k r (P'.length + 1)) g2 (Pn.mk ⟨⟨by omega, by omega⟩, IAt.ld (w := w3.drew.drew) o3' (addr_k r P'.length) g1 (Pn.mk ⟨⟨by omega, by omega⟩, IAt.st (w := w3.drew.drew) o3' (addr_k r P'.length) (by simp) fun w4 hs4 o4 he4 => Pn.mk ⟨⟨by omega, by omega⟩, o4.st (addr_k r (P'.length + 1)) (by simp) fun w5 hs5 o5 he5 => ?_⟩⟩)⟩)⟩)
            have e5 : ((P' ++ [y] ++ (x :: Q ++ List.replicate (S.E.length - (A.length + 1)) 0)).set P'.length x).set (P'.length + 1) y = P' ++ (x :: (y :: Q) ++ List.replicate (S.E.length - (A.length + 1)) 0) := by
              rw [List.append_assoc, List.set_append_right _ _ (Nat.le_refl _), Nat.sub_self, List.singleton_append, List.set_cons_zero, List.set_append_right _ _ (by omega), show P'.length + 1 - P'.length = 0 + 1 by omega, List.set_cons_succ]
              simp
            rw [e5] at o5
            refine ⟨P'.length, by omega, P', y :: Q, rfl, rfl, rfl, rfl, rfl, rfl, rfl, rfl, by rw [eA]; simp, fun z hz => ?_, o5, ((he3.trans ((Ext.drew _ _).trans (Ext.drew _ _))).trans he4).trans he5⟩
            rcases List.mem_cons.1 hz with rfl | hz
            · exact hyx
            · exact hQ z hz
          · rw [decide_eq_false hyx]
            have hd2 := done fun z hz => ?_
            · exact hd2
            · have hmem : ∀ z ∈ P' ++ [y], z ∈ A := fun z hz => by rw [eA]; exact List.mem_append.2 (.inl hz)
              have hyne : y ≠ x := fun e => hnm (by rw [← e]; exact hmem y (by simp))
              rcases List.mem_append.1 hz with hz' | hz'
              · have h1 := hA
                rw [eA] at h1
                have h2 := (List.pairwise_append.1 (List.pairwise_append.1 h1).1).2.2 z hz' y (by simp)
                have h3 := posA z (hmem z hz)
                have h2' : z.toNat < y.toNat := h2
                omega
              · simp at hz'
                omega
        · have : P = [] := List.eq_nil_of_length_eq_zero (by omega)
          subst this
          cases hy
      · rw [Lri_succ]
        unfold lvr
        rw [if_neg (by simp [hu]), List.append_nil]
        exact hp
    · have e6 : q = 6 := by omega
      subst e6
      have eA : A = S.E.map fun a => a.1.sd := asc_unique hA (asc_sd hS) (by
        have h1 : ((Lri T 6).map (·.sd)).Perm ((S.E.map (·.1)).map (·.sd)) := hr.perm.map _
        rw [List.map_map] at h1
        exact hp.trans h1)
      have el : A.length = S.E.length := by rw [eA]; simp
      rw [el, Nat.sub_self, List.replicate_zero, List.append_nil, eA] at o'
      exact hR r w' (by omega) o' hx
end
end Go.Proofs.Qxb6500424aGreat.Sk
