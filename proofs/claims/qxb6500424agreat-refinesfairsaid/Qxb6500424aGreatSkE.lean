/-
  sock: how the structures go when a row comes or goes.
-/
import Derived.Test.Qxb6500424aGreatSkD
set_option linter.unusedVariables false
open Go.Vc
namespace Go.Proofs.Qxb6500424aGreat.Sk

theorem nodup_len : ∀ (n : Nat) {L : List Nat}, L.Nodup → (∀ x ∈ L, x < n) → L.length ≤ n
  | 0, L, _, h => by
    cases L with
    | nil => simp
    | cons a L => exact absurd (h a (List.mem_cons_self ..)) (by omega)
  | n + 1, L, hn, h => by
    by_cases hm : n ∈ L
    · obtain ⟨s, u, rfl⟩ := List.append_of_mem hm
      have hp : (s ++ n :: u).Perm (n :: (s ++ u)) := List.perm_middle
      have hn' := (hp.nodup_iff.1 hn)
      have hc := List.nodup_cons.1 hn'
      have ih := nodup_len n hc.2 fun x hx => by
        have h1 := h x (hp.symm.subset (List.mem_cons_of_mem _ hx))
        have h2 : x ≠ n := fun e => hc.1 (e ▸ hx)
        omega
      rw [hp.length_eq, List.length_cons]
      omega
    · have ih := nodup_len n hn fun x hx => by
        have h1 := h x hx
        have h2 : x ≠ n := fun e => hm (e ▸ hx)
        omega
      omega
def updC (C : Nat → List Nat) (b : Nat) (L : List Nat) : Nat → List Nat := fun j => if j = b then L else C j
theorem updC_eq (C : Nat → List Nat) (b : Nat) (L : List Nat) : updC C b L b = L := by simp [updC]
theorem updC_ne {C : Nat → List Nat} {b j : Nat} {L : List Nat} (h : j ≠ b) : updC C b L j = C j := by simp [updC, h]
section
variable {T T' : Tbl} {F : List Nat} {C : Nat → List Nat} {occ : Nat → Bool} {i : Nat} {e : Ent}
theorem RS.clen (h : RS T F C occ) {b : Nat} (hb : b < 4) : (C b).length ≤ 6 := nodup_len 6 (h.cnd b hb) fun x hx => ((h.cmem b hb x).1 hx).1
/-- A SkConn row comes. -/
theorem RS.addConn (h : RS T (i :: F) C occ) (hk : e.kind = 2) {s : Nat} (hs : e.slot = (s : Int)) (hs4 : s < 4)
    (hr : ∀ j, j ≠ i → SameR (T.rows j) (T'.rows j)) (hi : (T'.rows i).used = true ∧ (T'.rows i).e = e ∧ (T'.rows i).next = T.bkt (hE e)) (h1 : T'.free = (T.rows i).next) (h2 : T'.bkt = updN T.bkt (hE e) (i : Int)) (h3 : T'.port = T.port) (h4 : T'.blk = blkOf (updB occ s true)) :
    RS T' F (updC C (hE e) (i :: C (hE e))) (updB occ s true) := by
  have hi6 := (h.fmem i).1 (List.mem_cons_self ..)
  have hF := List.nodup_cons.1 h.fnd
  have hx : ∀ x ∈ F, x ≠ i := fun x hx q => hF.1 (q ▸ hx)
  have hcx : ∀ b, b < 4 → ∀ x ∈ C b, x ≠ i := fun b hb x hx q => by
    have := ((h.cmem b hb x).1 hx).2.1
    rw [q, hi6.2] at this
    cases this
  have hh : ∀ j, j ≠ i → hE (T'.rows j).e = hE (T.rows j).e := fun j hj => by
    unfold hE
    rw [(hr j hj).lp, (hr j hj).rh, (hr j hj).rp]
  have hlt : hE e < 4 := hsh_lt _ _ _
  refine ⟨?_, hF.2, fun j => ?_, fun b hb => ?_, fun b hb => ?_, fun b hb j => ?_, by rw [h3]; exact h.p0, fun p p1 p2 => ?_, h4, fun q hq => ?_⟩
  · rw [h1]
    exact Lk.congr (fun x hx' => ((hr x (hx x hx')).next).symm) h.fr.2
  · constructor
    · intro hj
      have := (h.fmem j).1 (List.mem_cons_of_mem _ hj)
      exact ⟨this.1, by rw [(hr j (hx j hj)).used]; exact this.2⟩
    · rintro ⟨a, u⟩
      have hj : j ≠ i := fun q => by rw [q, hi.1] at u; cases u
      have := (h.fmem j).2 ⟨a, by rw [← (hr j hj).used]; exact u⟩
      rcases List.mem_cons.1 this with q | q
      · exact absurd q hj
      · exact q
  · rw [h2]
    by_cases eb : b = hE e
    · subst eb
      rw [updC_eq, updN_eq]
      refine ⟨rfl, ?_⟩
      show Lk (nx T') (T'.rows i).next _
      rw [hi.2.2]
      exact Lk.congr (fun x hx' => ((hr x (hcx _ hlt x hx')).next).symm) (h.ch _ hlt)
    · rw [updC_ne eb, updN_ne eb]
      exact Lk.congr (fun x hx' => ((hr x (hcx b hb x hx')).next).symm) (h.ch b hb)
  · by_cases eb : b = hE e
    · subst eb
      rw [updC_eq]
      exact List.nodup_cons.2 ⟨fun q => hcx _ hlt i q rfl, h.cnd _ hlt⟩
    · rw [updC_ne eb]
      exact h.cnd b hb
  · have old : j ≠ i → (j ∈ C b ↔ j < 6 ∧ (T'.rows j).used = true ∧ (T'.rows j).e.kind = 2 ∧ hE (T'.rows j).e = b) := fun hj => by
      rw [h.cmem b hb, (hr j hj).used, (hr j hj).kind, hh j hj]
    by_cases eb : b = hE e
    · subst eb
      rw [updC_eq]
      by_cases hj : j = i
      · subst hj
        exact ⟨fun _ => ⟨hi6.1, hi.1, by rw [hi.2.1]; exact hk, by rw [hi.2.1]⟩, fun _ => List.mem_cons_self ..⟩
      · rw [← old hj]
        exact ⟨fun q => (List.mem_cons.1 q).resolve_left hj, fun q => List.mem_cons_of_mem _ q⟩
    · rw [updC_ne eb]
      by_cases hj : j = i
      · subst hj
        exact ⟨fun q => absurd rfl (hcx b hb j q), fun q => absurd (by rw [← q.2.2.2, hi.2.1]) eb⟩
      · exact old hj
  · rw [h3]
    rcases h.prt p p1 p2 with ⟨q1, q2⟩ | ⟨j, hj, q1, q2, q3, q4⟩
    · refine .inl ⟨q1, fun j hj u k => ?_⟩
      by_cases hji : j = i
      · subst hji
        rw [hi.2.1, hk] at k
        omega
      · rw [(hr j hji).lp]
        exact q2 j hj (by rw [← (hr j hji).used]; exact u) (by rw [← (hr j hji).kind]; exact k)
    · have hji : j ≠ i := fun q => by rw [q, hi6.2] at q1; cases q1
      exact .inr ⟨j, hj, by rw [(hr j hji).used]; exact q1, by rw [(hr j hji).kind]; exact q2, by rw [(hr j hji).lp]; exact q3, q4⟩
  · have old : ∀ j, j ≠ i → ((T'.rows j).used = true ∧ (T'.rows j).e.kind = 2 ∧ (T'.rows j).e.slot = (q : Int) ↔ (T.rows j).used = true ∧ (T.rows j).e.kind = 2 ∧ (T.rows j).e.slot = (q : Int)) := fun j hj => by
      rw [(hr j hj).used, (hr j hj).kind, (hr j hj).slot]
    by_cases eq : q = s
    · subst eq
      rw [updB_eq]
      exact ⟨fun _ => ⟨i, hi6.1, hi.1, by rw [hi.2.1]; exact hk, by rw [hi.2.1]; exact hs⟩, fun _ => rfl⟩
    · rw [updB_ne eq, h.occ q hq]
      constructor
      · rintro ⟨j, a, u, k, sl⟩
        have hji : j ≠ i := fun z => by rw [z, hi6.2] at u; cases u
        exact ⟨j, a, (old j hji).2 ⟨u, k, sl⟩⟩
      · rintro ⟨j, a, u, k, sl⟩
        have hji : j ≠ i := fun z => by
          subst z
          rw [hi.2.1, hs] at sl
          omega
        exact ⟨j, a, (old j hji).1 ⟨u, k, sl⟩⟩
/-- A SkListen row comes. -/
theorem RS.addLis (h : RS T (i :: F) C occ) (hk : e.kind = 1) {p : Nat} (hp : e.lp = (p : Int)) (hp1 : 1 ≤ p) (hp8 : p < 8)
    (hr : ∀ j, j ≠ i → SameR (T.rows j) (T'.rows j)) (hi : (T'.rows i).used = true ∧ (T'.rows i).e = e) (h1 : T'.free = (T.rows i).next) (h2 : T'.bkt = T.bkt) (h3 : T'.port = updN T.port p (i : Int)) (h4 : T'.blk = T.blk) : RS T' F C occ := by
  have hi6 := (h.fmem i).1 (List.mem_cons_self ..)
  have hF := List.nodup_cons.1 h.fnd
  have hx : ∀ x ∈ F, x ≠ i := fun x hx q => hF.1 (q ▸ hx)
  have hcx : ∀ b, b < 4 → ∀ x ∈ C b, x ≠ i := fun b hb x hx q => by
    have := ((h.cmem b hb x).1 hx).2.1
    rw [q, hi6.2] at this
    cases this
  have hh : ∀ j, j ≠ i → hE (T'.rows j).e = hE (T.rows j).e := fun j hj => by
    unfold hE
    rw [(hr j hj).lp, (hr j hj).rh, (hr j hj).rp]
  refine ⟨?_, hF.2, fun j => ?_, fun b hb => ?_, h.cnd, fun b hb j => ?_, by rw [h3, updN_ne (by omega)]; exact h.p0, fun q q1 q2 => ?_, by rw [h4]; exact h.blk, fun q hq => ?_⟩
  · rw [h1]
    exact Lk.congr (fun x hx' => ((hr x (hx x hx')).next).symm) h.fr.2
  · constructor
    · intro hj
      have := (h.fmem j).1 (List.mem_cons_of_mem _ hj)
      exact ⟨this.1, by rw [(hr j (hx j hj)).used]; exact this.2⟩
    · rintro ⟨a, u⟩
      have hj : j ≠ i := fun q => by rw [q, hi.1] at u; cases u
      have := (h.fmem j).2 ⟨a, by rw [← (hr j hj).used]; exact u⟩
      rcases List.mem_cons.1 this with q | q
      · exact absurd q hj
      · exact q
  · rw [h2]
    exact Lk.congr (fun x hx' => ((hr x (hcx b hb x hx')).next).symm) (h.ch b hb)
  · by_cases hj : j = i
    · subst hj
      exact ⟨fun q => absurd rfl (hcx b hb j q), fun q => by have := q.2.2.1; rw [hi.2, hk] at this; omega⟩
    · rw [h.cmem b hb, (hr j hj).used, (hr j hj).kind, hh j hj]
  · rw [h3]
    by_cases eq : q = p
    · subst eq
      rw [updN_eq]
      exact .inr ⟨i, hi6.1, hi.1, by rw [hi.2]; exact hk, by rw [hi.2]; exact hp, rfl⟩
    · rw [updN_ne eq]
      rcases h.prt q q1 q2 with ⟨z1, z2⟩ | ⟨j, hj, z1, z2, z3, z4⟩
      · refine .inl ⟨z1, fun j hj u k => ?_⟩
        by_cases hji : j = i
        · subst hji
          rw [hi.2, hp]
          omega
        · rw [(hr j hji).lp]
          exact z2 j hj (by rw [← (hr j hji).used]; exact u) (by rw [← (hr j hji).kind]; exact k)
      · have hji : j ≠ i := fun q => by rw [q, hi6.2] at z1; cases z1
        exact .inr ⟨j, hj, by rw [(hr j hji).used]; exact z1, by rw [(hr j hji).kind]; exact z2, by rw [(hr j hji).lp]; exact z3, z4⟩
  · rw [h.occ q hq]
    constructor
    · rintro ⟨j, a, u, k, sl⟩
      have hji : j ≠ i := fun z => by rw [z, hi6.2] at u; cases u
      exact ⟨j, a, by rw [(hr j hji).used]; exact u, by rw [(hr j hji).kind]; exact k, by rw [(hr j hji).slot]; exact sl⟩
    · rintro ⟨j, a, u, k, sl⟩
      have hji : j ≠ i := fun z => by
        subst z
        rw [hi.2, hk] at k
        omega
      exact ⟨j, a, by rw [← (hr j hji).used]; exact u, by rw [← (hr j hji).kind]; exact k, by rw [← (hr j hji).slot]; exact sl⟩
theorem Lk.bend {f g : Nat → Int} {i j : Nat} {Q : List Nat} : ∀ {P : List Nat} {h : Int}, Lk f h (P ++ j :: i :: Q) → (∀ x ∈ P, g x = f x) → (∀ x ∈ Q, g x = f x) → g j = f i → Lk g h (P ++ j :: Q)
  | [], h, hl, _, hQ, hj => ⟨hl.1, by rw [hj]; exact Lk.congr (fun x hx => (hQ x hx).symm) hl.2.2⟩
  | p :: P, h, hl, hP, hQ, hj => ⟨hl.1, by rw [hP p (List.mem_cons_self ..)]; exact Lk.bend hl.2 (fun x hx => hP x (List.mem_cons_of_mem _ hx)) hQ hj⟩
/-- A SkConn row goes: off its chain, its bit cleared, wiped, first of the free. -/
theorem RS.delConn (h : RS T F C occ) (hi6 : i < 6) (hu : (T.rows i).used = true) (hk : (T.rows i).e.kind = 2) {s : Nat} (hs : (T.rows i).e.slot = (s : Int)) (hs4 : s < 4) (hsu : ∀ j, j < 6 → (T.rows j).used = true → (T.rows j).e.kind = 2 → (T.rows j).e.slot = (s : Int) → j = i) {P Q : List Nat} (hC : C (hE (T.rows i).e) = P ++ i :: Q)
    (hr : ∀ j, j < 6 → j ≠ i → (T'.rows j).used = (T.rows j).used ∧ (T'.rows j).e.kind = (T.rows j).e.kind ∧ (T'.rows j).e.lp = (T.rows j).e.lp ∧ (T'.rows j).e.rh = (T.rows j).e.rh ∧ (T'.rows j).e.rp = (T.rows j).e.rp ∧ (T'.rows j).e.slot = (T.rows j).e.slot)
    (hn : (P = [] ∧ (∀ j, j < 6 → j ≠ i → (T'.rows j).next = (T.rows j).next) ∧ T'.bkt = updN T.bkt (hE (T.rows i).e) (T.rows i).next) ∨ (∃ P' j0, P = P' ++ [j0] ∧ (∀ j, j < 6 → j ≠ i → j ≠ j0 → (T'.rows j).next = (T.rows j).next) ∧ (T'.rows j0).next = (T.rows i).next ∧ T'.bkt = T.bkt))
    (hi : (T'.rows i).used = false ∧ (T'.rows i).next = T.free) (h1 : T'.free = (i : Int)) (h3 : T'.port = T.port) (h4 : T'.blk = blkOf (updB occ s false)) :
    RS T' (i :: F) (updC C (hE (T.rows i).e) (P ++ Q)) (updB occ s false) := by
  have hlt : hE (T.rows i).e < 4 := hsh_lt _ _ _
  have hFx : ∀ x ∈ F, x ≠ i := fun x hx q => by
    have := ((h.fmem x).1 hx).2
    rw [q, hu] at this
    cases this
  have hCn := h.cnd _ hlt
  rw [hC] at hCn
  have hnd := List.nodup_append.1 hCn
  have hnQ := List.nodup_cons.1 hnd.2.1
  have hPi : ∀ x ∈ P, x ≠ i := fun x hx q => hnd.2.2 x hx i (List.mem_cons_self ..) q
  have hQi : ∀ x ∈ Q, x ≠ i := fun x hx q => hnQ.1 (q ▸ hx)
  have hcx : ∀ b, b < 4 → b ≠ hE (T.rows i).e → ∀ x ∈ C b, x ≠ i := fun b hb hbe x hx q => hbe (by rw [← q]; exact ((h.cmem b hb x).1 hx).2.2.2.symm)
  have hh : ∀ j, j < 6 → j ≠ i → hE (T'.rows j).e = hE (T.rows j).e := fun j h6 hj => by
    unfold hE
    rw [(hr j h6 hj).2.2.1, (hr j h6 hj).2.2.2.1, (hr j h6 hj).2.2.2.2.1]
  have c6 : ∀ x, x ∈ P ++ i :: Q → x < 6 := fun x hx => ((h.cmem _ hlt x).1 (by rw [hC]; exact hx)).1
  have hj0 : ∀ P' j0, P = P' ++ [j0] → j0 ∈ C (hE (T.rows i).e) := fun P' j0 e => by rw [hC, e]; simp
  have nxF : ∀ x ∈ F, (T'.rows x).next = (T.rows x).next := fun x hx => by
    rcases hn with ⟨_, q, _⟩ | ⟨P', j0, eP, q, _⟩
    · exact q x ((h.fmem x).1 hx).1 (hFx x hx)
    · refine q x ((h.fmem x).1 hx).1 (hFx x hx) fun z => ?_
      have := ((h.cmem _ hlt j0).1 (hj0 P' j0 eP)).2.1
      have h2 := ((h.fmem x).1 hx).2
      rw [z, this] at h2
      cases h2
  refine ⟨?_, List.nodup_cons.2 ⟨fun q => hFx i q rfl, h.fnd⟩, fun j => ?_, fun b hb => ?_, fun b hb => ?_, fun b hb j => ?_, by rw [h3]; exact h.p0, fun p p1 p2 => ?_, h4, fun q hq => ?_⟩
  · refine ⟨h1, ?_⟩
    show Lk (nx T') (T'.rows i).next F
    rw [hi.2]
    exact Lk.congr (fun x hx => (nxF x hx).symm) h.fr
  · by_cases hj : j = i
    · subst hj
      exact ⟨fun _ => ⟨hi6, hi.1⟩, fun _ => List.mem_cons_self ..⟩
    · constructor
      · intro q
        have q' := (h.fmem j).1 ((List.mem_cons.1 q).resolve_left hj)
        exact ⟨q'.1, by rw [(hr j q'.1 hj).1]; exact q'.2⟩
      · rintro ⟨a, v⟩
        exact List.mem_cons_of_mem _ ((h.fmem j).2 ⟨a, by rw [← (hr j a hj).1]; exact v⟩)
  · by_cases eb : b = hE (T.rows i).e
    · subst eb
      rw [updC_eq]
      have hl := h.ch _ hlt
      rw [hC] at hl
      rcases hn with ⟨rfl, q, hb'⟩ | ⟨P', j0, rfl, q1, q2, hb'⟩
      · rw [hb', updN_eq]
        exact Lk.congr (fun x hx => (q x (c6 x (List.mem_append.2 (.inr (List.mem_cons_of_mem _ hx)))) (hQi x hx)).symm) hl.2
      · rw [hb']
        rw [List.append_assoc] at hl ⊢
        have hn2 := List.nodup_append.1 hnd.1
        refine Lk.bend hl (fun x hx => ?_) (fun x hx => ?_) q2
        · exact q1 x (c6 x (List.mem_append.2 (.inl (List.mem_append.2 (.inl hx))))) (hPi x (by simp [hx])) fun z => hn2.2.2 x hx j0 (by simp) z
        · exact q1 x (c6 x (List.mem_append.2 (.inr (List.mem_cons_of_mem _ hx)))) (hQi x hx) fun z => hnd.2.2 j0 (by simp) x (List.mem_cons_of_mem _ hx) z.symm
    · rw [updC_ne eb]
      have hbk : T'.bkt b = T.bkt b := by
        rcases hn with ⟨_, _, z⟩ | ⟨_, _, _, _, _, z⟩
        · rw [z, updN_ne eb]
        · rw [z]
      rw [hbk]
      refine Lk.congr (fun x hx => ?_) (h.ch b hb)
      rcases hn with ⟨_, q, _⟩ | ⟨P', j0, eP, q, _⟩
      · exact (q x ((h.cmem b hb x).1 hx).1 (hcx b hb eb x hx)).symm
      · refine (q x ((h.cmem b hb x).1 hx).1 (hcx b hb eb x hx) fun z => ?_).symm
        have c1 := ((h.cmem _ hlt j0).1 (hj0 P' j0 eP)).2.2.2
        have c2 := ((h.cmem b hb x).1 hx).2.2.2
        rw [z] at c2
        exact eb (c2.symm.trans c1)
  · by_cases eb : b = hE (T.rows i).e
    · subst eb
      rw [updC_eq]
      exact List.nodup_append.2 ⟨hnd.1, hnQ.2, fun x hx y hy => hnd.2.2 x hx y (List.mem_cons_of_mem _ hy)⟩
    · rw [updC_ne eb]
      exact h.cnd b hb
  · have old : j ≠ i → (j ∈ C b ↔ j < 6 ∧ (T'.rows j).used = true ∧ (T'.rows j).e.kind = 2 ∧ hE (T'.rows j).e = b) := fun hj => by
      rw [h.cmem b hb]
      constructor
      · rintro ⟨a, v, k, z⟩
        exact ⟨a, by rw [(hr j a hj).1]; exact v, by rw [(hr j a hj).2.1]; exact k, by rw [hh j a hj]; exact z⟩
      · rintro ⟨a, v, k, z⟩
        exact ⟨a, by rw [← (hr j a hj).1]; exact v, by rw [← (hr j a hj).2.1]; exact k, by rw [← hh j a hj]; exact z⟩
    by_cases hj : j = i
    · subst hj
      refine ⟨fun q => ?_, fun q => by have := q.2.1; rw [hi.1] at this; cases this⟩
      by_cases eb : b = hE (T.rows j).e
      · subst eb
        rw [updC_eq] at q
        rcases List.mem_append.1 q with q | q
        · exact absurd rfl (hPi j q)
        · exact absurd rfl (hQi j q)
      · rw [updC_ne eb] at q
        exact absurd rfl (hcx b hb eb j q)
    · rw [← old hj]
      by_cases eb : b = hE (T.rows i).e
      · subst eb
        rw [updC_eq, hC]
        simp [hj]
      · rw [updC_ne eb]
  · rw [h3]
    rcases h.prt p p1 p2 with ⟨q1, q2⟩ | ⟨j, hj, q1, q2, q3, q4⟩
    · refine .inl ⟨q1, fun j hj u k => ?_⟩
      have hji : j ≠ i := fun q => by rw [q, hi.1] at u; cases u
      rw [(hr j hj hji).2.2.1]
      exact q2 j hj (by rw [← (hr j hj hji).1]; exact u) (by rw [← (hr j hj hji).2.1]; exact k)
    · have hji : j ≠ i := fun q => by rw [q, hk] at q2; omega
      exact .inr ⟨j, hj, by rw [(hr j hj hji).1]; exact q1, by rw [(hr j hj hji).2.1]; exact q2, by rw [(hr j hj hji).2.2.1]; exact q3, q4⟩
  · by_cases eq : q = s
    · subst eq
      rw [updB_eq]
      refine ⟨fun z => (by cases z), ?_⟩
      rintro ⟨j, a, u, k, sl⟩
      have hji : j ≠ i := fun z => by rw [z, hi.1] at u; cases u
      exact absurd (hsu j a (by rw [← (hr j a hji).1]; exact u) (by rw [← (hr j a hji).2.1]; exact k) (by rw [← (hr j a hji).2.2.2.2.2]; exact sl)) hji
    · rw [updB_ne eq, h.occ q hq]
      constructor
      · rintro ⟨j, a, u, k, sl⟩
        have hji : j ≠ i := fun z => by rw [z, hs] at sl; omega
        exact ⟨j, a, by rw [(hr j a hji).1]; exact u, by rw [(hr j a hji).2.1]; exact k, by rw [(hr j a hji).2.2.2.2.2]; exact sl⟩
      · rintro ⟨j, a, u, k, sl⟩
        have hji : j ≠ i := fun z => by rw [z, hi.1] at u; cases u
        exact ⟨j, a, by rw [← (hr j a hji).1]; exact u, by rw [← (hr j a hji).2.1]; exact k, by rw [← (hr j a hji).2.2.2.2.2]; exact sl⟩
/-- A SkListen row goes. -/
theorem RS.delLis (h : RS T F C occ) (hi6 : i < 6) (hu : (T.rows i).used = true) (hk : (T.rows i).e.kind = 1) {p : Nat} (hp : (T.rows i).e.lp = (p : Int)) (hp1 : 1 ≤ p) (hp8 : p < 8) (hpu : ∀ j, j < 6 → (T.rows j).used = true → (T.rows j).e.kind = 1 → (T.rows j).e.lp = (p : Int) → j = i)
    (hr : ∀ j, j < 6 → j ≠ i → SameR (T.rows j) (T'.rows j))
    (hi : (T'.rows i).used = false ∧ (T'.rows i).next = T.free) (h1 : T'.free = (i : Int)) (h2 : T'.bkt = T.bkt) (h3 : T'.port = updN T.port p (-1)) (h4 : T'.blk = T.blk) : RS T' (i :: F) C occ := by
  have hFx : ∀ x ∈ F, x ≠ i := fun x hx q => by
    have := ((h.fmem x).1 hx).2
    rw [q, hu] at this
    cases this
  have hcx : ∀ b, b < 4 → ∀ x ∈ C b, x ≠ i := fun b hb x hx q => by
    have := ((h.cmem b hb x).1 hx).2.2.1
    rw [q, hk] at this
    omega
  have hh : ∀ j, j < 6 → j ≠ i → hE (T'.rows j).e = hE (T.rows j).e := fun j h6 hj => by
    unfold hE
    rw [(hr j h6 hj).lp, (hr j h6 hj).rh, (hr j h6 hj).rp]
  refine ⟨?_, List.nodup_cons.2 ⟨fun q => hFx i q rfl, h.fnd⟩, fun j => ?_, fun b hb => ?_, h.cnd, fun b hb j => ?_, by rw [h3, updN_ne (by omega)]; exact h.p0, fun q q1 q2 => ?_, by rw [h4]; exact h.blk, fun q hq => ?_⟩
  · refine ⟨h1, ?_⟩
    show Lk (nx T') (T'.rows i).next F
    rw [hi.2]
    exact Lk.congr (fun x hx => ((hr x ((h.fmem x).1 hx).1 (hFx x hx)).next).symm) h.fr
  · by_cases hj : j = i
    · subst hj
      exact ⟨fun _ => ⟨hi6, hi.1⟩, fun _ => List.mem_cons_self ..⟩
    · constructor
      · intro q
        have := (h.fmem j).1 ((List.mem_cons.1 q).resolve_left hj)
        exact ⟨this.1, by rw [(hr j this.1 hj).used]; exact this.2⟩
      · rintro ⟨a, u⟩
        exact List.mem_cons_of_mem _ ((h.fmem j).2 ⟨a, by rw [← (hr j a hj).used]; exact u⟩)
  · rw [h2]
    exact Lk.congr (fun x hx => ((hr x ((h.cmem b hb x).1 hx).1 (hcx b hb x hx)).next).symm) (h.ch b hb)
  · by_cases hj : j = i
    · subst hj
      exact ⟨fun q => absurd rfl (hcx b hb j q), fun q => by have := q.2.1; rw [hi.1] at this; cases this⟩
    · rw [h.cmem b hb]
      constructor
      · rintro ⟨a, u, k, z⟩
        exact ⟨a, by rw [(hr j a hj).used]; exact u, by rw [(hr j a hj).kind]; exact k, by rw [hh j a hj]; exact z⟩
      · rintro ⟨a, u, k, z⟩
        exact ⟨a, by rw [← (hr j a hj).used]; exact u, by rw [← (hr j a hj).kind]; exact k, by rw [← hh j a hj]; exact z⟩
  · rw [h3]
    by_cases eq : q = p
    · subst eq
      rw [updN_eq]
      refine .inl ⟨rfl, fun j hj u k z => ?_⟩
      have hji : j ≠ i := fun y => by rw [y, hi.1] at u; cases u
      exact hji (hpu j hj (by rw [← (hr j hj hji).used]; exact u) (by rw [← (hr j hj hji).kind]; exact k) (by rw [← (hr j hj hji).lp]; exact z))
    · rw [updN_ne eq]
      rcases h.prt q q1 q2 with ⟨z1, z2⟩ | ⟨j, hj, z1, z2, z3, z4⟩
      · refine .inl ⟨z1, fun j hj u k => ?_⟩
        have hji : j ≠ i := fun y => by rw [y, hi.1] at u; cases u
        rw [(hr j hj hji).lp]
        exact z2 j hj (by rw [← (hr j hj hji).used]; exact u) (by rw [← (hr j hj hji).kind]; exact k)
      · have hji : j ≠ i := fun y => by rw [y, hp] at z3; omega
        exact .inr ⟨j, hj, by rw [(hr j hj hji).used]; exact z1, by rw [(hr j hj hji).kind]; exact z2, by rw [(hr j hj hji).lp]; exact z3, z4⟩
  · rw [h.occ q hq]
    constructor
    · rintro ⟨j, a, u, k, sl⟩
      have hji : j ≠ i := fun y => by rw [y, hk] at k; omega
      exact ⟨j, a, by rw [(hr j a hji).used]; exact u, by rw [(hr j a hji).kind]; exact k, by rw [(hr j a hji).slot]; exact sl⟩
    · rintro ⟨j, a, u, k, sl⟩
      have hji : j ≠ i := fun y => by rw [y, hi.1] at u; cases u
      exact ⟨j, a, by rw [← (hr j a hji).used]; exact u, by rw [← (hr j a hji).kind]; exact k, by rw [← (hr j a hji).slot]; exact sl⟩
end
end Go.Proofs.Qxb6500424aGreat.Sk
