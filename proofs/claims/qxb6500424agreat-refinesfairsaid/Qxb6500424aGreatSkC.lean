/-
  sock: the rows as a plain list, and what is always true of them.
-/
import Derived.Test.Qxb6500424aGreatSkB
set_option linter.unusedVariables false
open Go.Vc
namespace Go.Proofs.Qxb6500424aGreat.Sk

/-- A row of the model: the entry and its stamp. -/
abbrev AE := Ent × Nat
def EntOk (e : Ent) : Prop := (e.kind = 1 ∧ 1 ≤ e.lp ∧ e.lp < 8 ∧ e.rh = 0 ∧ e.rp = 0 ∧ e.slot = -1 ∧ e.par = 0 ∧ e.rdy = false) ∨ (e.kind = 2 ∧ 1 ≤ e.lp ∧ e.lp ≤ 15 ∧ 1 ≤ e.rh ∧ e.rh ≤ 255 ∧ 1 ≤ e.rp ∧ e.rp ≤ 15 ∧ 0 ≤ e.slot ∧ e.slot < 4 ∧ (e.par = 0 → e.rdy = false))
theorem EntOk.kind {e : Ent} (h : EntOk e) : e.kind = 1 ∨ e.kind = 2 := by
  rcases h with h | h
  · exact .inl h.1
  · exact .inr h.1
theorem EntOk.lis {e : Ent} (h : EntOk e) (hk : e.kind = 1) : 1 ≤ e.lp ∧ e.lp < 8 ∧ e.rh = 0 ∧ e.rp = 0 ∧ e.slot = -1 ∧ e.par = 0 ∧ e.rdy = false := by
  rcases h with h | h
  · exact h.2
  · have := h.1; omega
theorem EntOk.con {e : Ent} (h : EntOk e) (hk : e.kind = 2) : 1 ≤ e.lp ∧ e.lp ≤ 15 ∧ 1 ≤ e.rh ∧ e.rh ≤ 255 ∧ 1 ≤ e.rp ∧ e.rp ≤ 15 ∧ 0 ≤ e.slot ∧ e.slot < 4 ∧ (e.par = 0 → e.rdy = false) := by
  rcases h with h | h
  · have := h.1; omega
  · exact h.2
def isL (a : AE) : Bool := decide (a.1.kind = 1)
def kidOf (l : Int) (a : AE) : Bool := decide (a.1.par = l)
def rdyOf (l : Int) (a : AE) : Bool := decide (a.1.par = l) && a.1.rdy
structure EI (E : List AE) (nsd : Int) (tick : Nat) : Prop where
  sd : ∀ a ∈ E, 1 ≤ a.1.sd ∧ a.1.sd < nsd
  nd : E.Pairwise fun a b => a.1.sd ≠ b.1.sd
  ok : ∀ a ∈ E, EntOk a.1
  par : ∀ a ∈ E, a.1.par ≠ 0 → ∃ l ∈ E, l.1.kind = 1 ∧ l.1.sd = a.1.par ∧ l.1.lp = a.1.lp
  tup : ∀ a ∈ E, ∀ b ∈ E, a.1.kind = 2 → b.1.kind = 2 → a.1.lp = b.1.lp → a.1.rh = b.1.rh → a.1.rp = b.1.rp → a.1.sd = b.1.sd
  prt : ∀ a ∈ E, ∀ b ∈ E, a.1.kind = 1 → b.1.kind = 1 → a.1.lp = b.1.lp → a.1.sd = b.1.sd
  slt : ∀ a ∈ E, ∀ b ∈ E, a.1.kind = 2 → b.1.kind = 2 → a.1.slot = b.1.slot → a.1.sd = b.1.sd
  lis : (E.filter isL).length ≤ 2
  kid : ∀ l, l ≠ 0 → (E.filter (kidOf l)).length ≤ 2
  stm : ∀ a ∈ E, ∀ b ∈ E, a.1.rdy = true → b.1.rdy = true → a.1.par = b.1.par → a.2 = b.2 → a.1.sd = b.1.sd
  tck : ∀ a ∈ E, a.1.rdy = true → 1 ≤ a.2 ∧ a.2 ≤ tick
theorem EI.perm {E E' : List AE} {nsd : Int} {tick : Nat} (h : EI E nsd tick) (hp : E.Perm E') : EI E' nsd tick := by
  have m : ∀ {a}, a ∈ E' → a ∈ E := fun ha => hp.symm.subset ha
  refine ⟨fun a ha => h.sd a (m ha), ?_, fun a ha => h.ok a (m ha), fun a ha hn => ?_, fun a ha b hb => h.tup a (m ha) b (m hb), fun a ha b hb => h.prt a (m ha) b (m hb), fun a ha b hb => h.slt a (m ha) b (m hb), ?_, fun l hl => ?_, fun a ha b hb => h.stm a (m ha) b (m hb), fun a ha => h.tck a (m ha)⟩
  · exact hp.pairwise h.nd (fun hab e => hab e.symm)
  · obtain ⟨l, hl, q⟩ := h.par a (m ha) hn
    exact ⟨l, hp.subset hl, q⟩
  · rw [← (hp.filter isL).length_eq]; exact h.lis
  · rw [← (hp.filter (kidOf l)).length_eq]; exact h.kid l hl
theorem EI.uniq {E : List AE} {nsd : Int} {tick : Nat} (h : EI E nsd tick) {a b : AE} (ha : a ∈ E) (hb : b ∈ E) (he : a.1.sd = b.1.sd) : a = b := by
  apply Classical.byContradiction
  intro hne
  have := h.nd
  obtain ⟨i, hi⟩ := List.getElem?_of_mem ha
  obtain ⟨j, hj⟩ := List.getElem?_of_mem hb
  obtain ⟨li, ei⟩ := List.getElem?_eq_some_iff.1 hi
  obtain ⟨lj, ej⟩ := List.getElem?_eq_some_iff.1 hj
  have hp := List.pairwise_iff_getElem.1 this
  rcases Nat.lt_trichotomy i j with c | c | c
  · exact hp i j li lj c (by rw [ei, ej]; exact he)
  · subst c
    rw [hi] at hj
    exact hne (Option.some.inj hj)
  · exact hp j i lj li c (by rw [ei, ej]; exact he.symm)
/-- A new row. -/
theorem EI.add {E : List AE} {nsd : Int} {tick : Nat} (h : EI E nsd tick) (hn : 1 ≤ nsd) {e : Ent} (hsd : e.sd = nsd) (hok : EntOk e) (hr : e.rdy = false)
    (hpar : e.par ≠ 0 → (∃ l ∈ E, l.1.kind = 1 ∧ l.1.sd = e.par ∧ l.1.lp = e.lp) ∧ (E.filter (kidOf e.par)).length ≤ 1)
    (htup : e.kind = 2 → ∀ b ∈ E, b.1.kind = 2 → ¬ (b.1.lp = e.lp ∧ b.1.rh = e.rh ∧ b.1.rp = e.rp)) (hprt : e.kind = 1 → (∀ b ∈ E, b.1.kind = 1 → b.1.lp ≠ e.lp) ∧ (E.filter isL).length ≤ 1)
    (hslt : e.kind = 2 → ∀ b ∈ E, b.1.kind = 2 → b.1.slot ≠ e.slot) : EI ((e, 0) :: E) (nsd + 1) tick := by
  refine ⟨fun a ha => ?_, ?_, fun a ha => ?_, fun a ha hp => ?_, fun a ha b hb => ?_, fun a ha b hb => ?_, fun a ha b hb => ?_, ?_, fun l hl => ?_, fun a ha b hb => ?_, fun a ha hrd => ?_⟩
  · rcases List.mem_cons.1 ha with rfl | ha
    · exact ⟨by simp only; omega, by simp only; omega⟩
    · have := h.sd a ha; omega
  · refine List.pairwise_cons.2 ⟨fun b hb e => ?_, h.nd⟩
    have := h.sd b hb
    simp only at e
    omega
  · rcases List.mem_cons.1 ha with rfl | ha
    · exact hok
    · exact h.ok a ha
  · rcases List.mem_cons.1 ha with rfl | ha
    · obtain ⟨⟨l, hl, q⟩, _⟩ := hpar hp
      exact ⟨l, List.mem_cons_of_mem _ hl, q⟩
    · obtain ⟨l, hl, q⟩ := h.par a ha hp
      exact ⟨l, List.mem_cons_of_mem _ hl, q⟩
  · rcases List.mem_cons.1 ha with rfl | ha <;> rcases List.mem_cons.1 hb with rfl | hb
    · intros; rfl
    · intro k1 k2 e1 e2 e3
      exact absurd ⟨e1.symm, e2.symm, e3.symm⟩ (htup k1 b hb k2)
    · intro k1 k2 e1 e2 e3
      exact absurd ⟨e1, e2, e3⟩ (htup k2 a ha k1)
    · exact h.tup a ha b hb
  · rcases List.mem_cons.1 ha with rfl | ha <;> rcases List.mem_cons.1 hb with rfl | hb
    · intros; rfl
    · intro k1 k2 e1
      exact absurd e1.symm ((hprt k1).1 b hb k2)
    · intro k1 k2 e1
      exact absurd e1 ((hprt k2).1 a ha k1)
    · exact h.prt a ha b hb
  · rcases List.mem_cons.1 ha with rfl | ha <;> rcases List.mem_cons.1 hb with rfl | hb
    · intros; rfl
    · intro k1 k2 e1
      exact absurd e1.symm (hslt k1 b hb k2)
    · intro k1 k2 e1
      exact absurd e1 (hslt k2 a ha k1)
    · exact h.slt a ha b hb
  · by_cases hk : e.kind = 1
    · rw [List.filter_cons_of_pos (by simp [isL, hk]), List.length_cons]
      have := (hprt hk).2
      omega
    · rw [List.filter_cons_of_neg (by simp [isL, hk])]
      exact h.lis
  · by_cases hk : e.par = l
    · rw [List.filter_cons_of_pos (by simp [kidOf, hk]), List.length_cons]
      have := (hpar (by rw [hk]; exact hl)).2
      rw [hk] at this
      omega
    · rw [List.filter_cons_of_neg (by simp [kidOf, hk])]
      exact h.kid l hl
  · rcases List.mem_cons.1 ha with rfl | ha <;> rcases List.mem_cons.1 hb with rfl | hb
    · intros; rfl
    · intro k1
      rw [hr] at k1; cases k1
    · intro _ k1
      rw [hr] at k1; cases k1
    · exact h.stm a ha b hb
  · rcases List.mem_cons.1 ha with rfl | ha
    · rw [hr] at hrd; cases hrd
    · exact h.tck a ha hrd
/-- The same but for parent and readiness. -/
structure Alike (e e' : Ent) : Prop where
  sd : e'.sd = e.sd
  kind : e'.kind = e.kind
  lp : e'.lp = e.lp
  rh : e'.rh = e.rh
  rp : e'.rp = e.rp
  slot : e'.slot = e.slot
theorem EI.turn {a a' : AE} {X : List AE} {nsd : Int} {t t' : Nat} (h : EI (a :: X) nsd t) (ht : t ≤ t') (hl : Alike a.1 a'.1) (hk : a.1.kind = 2) (hpar : a'.1.par = a.1.par ∨ a'.1.par = 0) (hr : a'.1.rdy = true → a'.1.par = a.1.par ∧ a.1.par ≠ 0 ∧ a'.2 = t' ∧ t' = t + 1) (h0 : a'.1.par = 0 → a'.1.rdy = false) : EI (a' :: X) nsd t' := by
  have hd := List.pairwise_cons.1 h.nd
  have m : ∀ {b}, b ∈ X → b ∈ a :: X := fun hb => List.mem_cons_of_mem _ hb
  have ma : a ∈ a :: X := List.mem_cons_self ..
  refine ⟨fun b hb => ?_, ?_, fun b hb => ?_, fun b hb hp => ?_, fun b hb c hc => ?_, fun b hb c hc => ?_, fun b hb c hc => ?_, ?_, fun l hl0 => ?_, fun b hb c hc => ?_, fun b hb hrd => ?_⟩
  · rcases List.mem_cons.1 hb with rfl | hb
    · rw [hl.sd]; exact h.sd a ma
    · exact h.sd b (m hb)
  · exact List.pairwise_cons.2 ⟨fun b hb => by rw [hl.sd]; exact hd.1 b hb, hd.2⟩
  · rcases List.mem_cons.1 hb with rfl | hb
    · have := (h.ok a ma).con hk
      refine .inr ⟨by rw [hl.kind]; exact hk, by rw [hl.lp]; exact this.1, by rw [hl.lp]; exact this.2.1, by rw [hl.rh]; exact this.2.2.1, by rw [hl.rh]; exact this.2.2.2.1, by rw [hl.rp]; exact this.2.2.2.2.1, by rw [hl.rp]; exact this.2.2.2.2.2.1, by rw [hl.slot]; exact this.2.2.2.2.2.2.1, by rw [hl.slot]; exact this.2.2.2.2.2.2.2.1, h0⟩
    · exact h.ok b (m hb)
  · have key : ∀ q : AE, q ∈ a :: X → q.1.kind = 1 → q ∈ a' :: X := fun q hq hq1 => by
      rcases List.mem_cons.1 hq with rfl | hq
      · omega
      · exact List.mem_cons_of_mem _ hq
    rcases List.mem_cons.1 hb with rfl | hb
    · rcases hpar with e | e
      · obtain ⟨l, q1, q2, q3, q4⟩ := h.par a ma (by rw [← e]; exact hp)
        exact ⟨l, key l q1 q2, q2, by rw [e]; exact q3, by rw [hl.lp]; exact q4⟩
      · exact absurd e hp
    · obtain ⟨l, q1, q2, q3, q4⟩ := h.par b (m hb) hp
      exact ⟨l, key l q1 q2, q2, q3, q4⟩
  · rcases List.mem_cons.1 hb with rfl | hb1 <;> rcases List.mem_cons.1 hc with rfl | hc1
    · intros; rfl
    · rw [hl.kind, hl.lp, hl.rh, hl.rp, hl.sd]; exact h.tup a ma c (m hc1)
    · rw [hl.kind, hl.lp, hl.rh, hl.rp, hl.sd]; exact h.tup b (m hb1) a ma
    · exact h.tup b (m hb1) c (m hc1)
  · rcases List.mem_cons.1 hb with rfl | hb1 <;> rcases List.mem_cons.1 hc with rfl | hc1
    · intros; rfl
    · rw [hl.kind, hl.lp, hl.sd]; exact h.prt a ma c (m hc1)
    · rw [hl.kind, hl.lp, hl.sd]; exact h.prt b (m hb1) a ma
    · exact h.prt b (m hb1) c (m hc1)
  · rcases List.mem_cons.1 hb with rfl | hb1 <;> rcases List.mem_cons.1 hc with rfl | hc1
    · intros; rfl
    · rw [hl.kind, hl.slot, hl.sd]; exact h.slt a ma c (m hc1)
    · rw [hl.kind, hl.slot, hl.sd]; exact h.slt b (m hb1) a ma
    · exact h.slt b (m hb1) c (m hc1)
  · have := h.lis
    rw [List.filter_cons_of_neg (by simp [isL, hk])] at this
    rw [List.filter_cons_of_neg (by simp [isL, hl.kind, hk])]
    exact this
  · have := h.kid l hl0
    by_cases e : a'.1.par = l
    · have e2 : a.1.par = l := by
        rcases hpar with q | q
        · rw [← q]; exact e
        · rw [q] at e; exact absurd e.symm hl0
      rw [List.filter_cons_of_pos (by simp [kidOf, e2])] at this
      rw [List.filter_cons_of_pos (by simp [kidOf, e])]
      exact this
    · rw [List.filter_cons_of_neg (by simp [kidOf, e])]
      have hle : (X.filter (kidOf l)).length ≤ ((a :: X).filter (kidOf l)).length := by
        rw [List.filter_cons]
        split <;> simp
      omega
  · rcases List.mem_cons.1 hb with rfl | hb1 <;> rcases List.mem_cons.1 hc with rfl | hc1
    · intros; rfl
    · intro r1 r2 _ e
      have q := hr r1
      have := h.tck c (m hc1) r2
      omega
    · intro r1 r2 _ e
      have q := hr r2
      have := h.tck b (m hb1) r1
      omega
    · exact h.stm b (m hb1) c (m hc1)
  · rcases List.mem_cons.1 hb with rfl | hb
    · have q := hr hrd; omega
    · have := h.tck b (m hb) hrd
      omega
theorem EI.del {a : AE} {X : List AE} {nsd : Int} {t : Nat} (h : EI (a :: X) nsd t) (hk : a.1.kind = 2) : EI X nsd t := by
  have hd := List.pairwise_cons.1 h.nd
  have m : ∀ {b}, b ∈ X → b ∈ a :: X := fun hb => List.mem_cons_of_mem _ hb
  refine ⟨fun b hb => h.sd b (m hb), hd.2, fun b hb => h.ok b (m hb), fun b hb hp => ?_, fun b hb c hc => h.tup b (m hb) c (m hc), fun b hb c hc => h.prt b (m hb) c (m hc), fun b hb c hc => h.slt b (m hb) c (m hc), ?_, fun l hl => ?_, fun b hb c hc => h.stm b (m hb) c (m hc), fun b hb => h.tck b (m hb)⟩
  · obtain ⟨l, q1, q2⟩ := h.par b (m hb) hp
    rcases List.mem_cons.1 q1 with rfl | q1
    · have := q2.1; omega
    · exact ⟨l, q1, q2⟩
  · have := h.lis
    rw [List.filter_cons_of_neg (by simp [isL, hk])] at this
    exact this
  · have := h.kid l hl
    have hle : (X.filter (kidOf l)).length ≤ ((a :: X).filter (kidOf l)).length := by
      rw [List.filter_cons]
      split <;> simp
    omega
/-- Its children set free. -/
def orp (sd : Int) (a : AE) : AE := if a.1.par = sd then ({ a.1 with par := 0, rdy := false }, a.2) else a
theorem orp_alike (sd : Int) (a : AE) : Alike a.1 (orp sd a).1 := by
  unfold orp
  split <;> exact ⟨rfl, rfl, rfl, rfl, rfl, rfl⟩
theorem orp_par (sd : Int) (a : AE) : (orp sd a).1.par = if a.1.par = sd then 0 else a.1.par := by
  unfold orp
  split <;> rfl
theorem orp_rdy (sd : Int) (a : AE) : (orp sd a).1.rdy = if a.1.par = sd then false else a.1.rdy := by
  unfold orp
  split <;> rfl
theorem orp_stamp (sd : Int) (a : AE) : (orp sd a).2 = a.2 := by
  unfold orp
  split <;> rfl
theorem filter_orp {sd l : Int} (hl : l ≠ sd) (h0 : l ≠ 0) : ∀ X : List AE, (X.map (orp sd)).filter (kidOf l) = X.filter (kidOf l) ∧ (X.map (orp sd)).filter (rdyOf l) = X.filter (rdyOf l)
  | [] => ⟨rfl, rfl⟩
  | a :: X => by
    have ih := filter_orp hl h0 X
    rw [List.map_cons]
    by_cases e : a.1.par = sd
    · have k1 : kidOf l (orp sd a) = false := by simp [kidOf, orp_par, e]; omega
      have k2 : kidOf l a = false := by simp [kidOf, e]; omega
      have r1 : rdyOf l (orp sd a) = false := by simp [rdyOf, orp_par, orp_rdy, e]
      have r2 : rdyOf l a = false := by simp [rdyOf, e]; omega
      rw [List.filter_cons_of_neg (by simp [k1]), List.filter_cons_of_neg (by simp [k2]), List.filter_cons_of_neg (by simp [r1]), List.filter_cons_of_neg (by simp [r2])]
      exact ih
    · have eo : orp sd a = a := by unfold orp; rw [if_neg e]
      rw [eo]
      simp only [List.filter_cons]
      rw [ih.1, ih.2]
      exact ⟨rfl, rfl⟩
theorem filter_isL (sd : Int) : ∀ X : List AE, ((X.map (orp sd)).filter isL).length = (X.filter isL).length
  | [] => rfl
  | a :: X => by
    have ih := filter_isL sd X
    rw [List.map_cons]
    have e : isL (orp sd a) = isL a := by simp [isL, (orp_alike sd a).kind]
    simp only [List.filter_cons, e]
    split
    · simp [ih]
    · exact ih
theorem EI.delL {a : AE} {X : List AE} {nsd : Int} {t : Nat} (h : EI (a :: X) nsd t) (hk : a.1.kind = 1) : EI (X.map (orp a.1.sd)) nsd t := by
  have hd := List.pairwise_cons.1 h.nd
  have m : ∀ {b}, b ∈ X → b ∈ a :: X := fun hb => List.mem_cons_of_mem _ hb
  have un : ∀ {b : AE}, b ∈ X.map (orp a.1.sd) → ∃ c ∈ X, b = orp a.1.sd c := fun hb => by
    obtain ⟨c, hc, e⟩ := List.mem_map.1 hb
    exact ⟨c, hc, e.symm⟩
  refine ⟨fun b hb => ?_, ?_, fun b hb => ?_, fun b hb hp => ?_, fun b hb c hc => ?_, fun b hb c hc => ?_, fun b hb c hc => ?_, ?_, fun l hl => ?_, fun b hb c hc => ?_, fun b hb hr => ?_⟩
  · obtain ⟨c, hc, rfl⟩ := un hb
    rw [(orp_alike _ c).sd]; exact h.sd c (m hc)
  · rw [List.pairwise_map]
    exact hd.2.imp fun {x y} hxy => by rw [(orp_alike _ x).sd, (orp_alike _ y).sd]; exact hxy
  · obtain ⟨c, hc, rfl⟩ := un hb
    have al := orp_alike a.1.sd c
    rcases h.ok c (m hc) with q | q
    · refine .inl ⟨by rw [al.kind]; exact q.1, by rw [al.lp]; exact q.2.1, by rw [al.lp]; exact q.2.2.1, by rw [al.rh]; exact q.2.2.2.1, by rw [al.rp]; exact q.2.2.2.2.1, by rw [al.slot]; exact q.2.2.2.2.2.1, ?_, ?_⟩
      · rw [orp_par, q.2.2.2.2.2.2.1]; split <;> rfl
      · rw [orp_rdy, q.2.2.2.2.2.2.2]; split <;> rfl
    · refine .inr ⟨by rw [al.kind]; exact q.1, by rw [al.lp]; exact q.2.1, by rw [al.lp]; exact q.2.2.1, by rw [al.rh]; exact q.2.2.2.1, by rw [al.rh]; exact q.2.2.2.2.1, by rw [al.rp]; exact q.2.2.2.2.2.1, by rw [al.rp]; exact q.2.2.2.2.2.2.1, by rw [al.slot]; exact q.2.2.2.2.2.2.2.1, by rw [al.slot]; exact q.2.2.2.2.2.2.2.2.1, ?_⟩
      rw [orp_par, orp_rdy]
      split
      · intro _; rfl
      · exact q.2.2.2.2.2.2.2.2.2
  · obtain ⟨c, hc, rfl⟩ := un hb
    rw [orp_par] at hp ⊢
    split at hp
    · exact absurd rfl hp
    · rename_i hne
      rw [if_neg hne]
      obtain ⟨l, q1, q2, q3, q4⟩ := h.par c (m hc) hp
      rcases List.mem_cons.1 q1 with rfl | q1
      · exact absurd q3.symm hne
      · refine ⟨orp a.1.sd l, List.mem_map.2 ⟨l, q1, rfl⟩, ?_⟩
        have al := orp_alike a.1.sd l
        rw [al.kind, al.sd, al.lp, (orp_alike a.1.sd c).lp]
        exact ⟨q2, q3, q4⟩
  · obtain ⟨b', hb', rfl⟩ := un hb
    obtain ⟨c', hc', rfl⟩ := un hc
    have l1 := orp_alike a.1.sd b'
    have l2 := orp_alike a.1.sd c'
    rw [l1.kind, l2.kind, l1.lp, l2.lp, l1.rh, l2.rh, l1.rp, l2.rp, l1.sd, l2.sd]
    exact h.tup b' (m hb') c' (m hc')
  · obtain ⟨b', hb', rfl⟩ := un hb
    obtain ⟨c', hc', rfl⟩ := un hc
    have l1 := orp_alike a.1.sd b'
    have l2 := orp_alike a.1.sd c'
    rw [l1.kind, l2.kind, l1.lp, l2.lp, l1.sd, l2.sd]
    exact h.prt b' (m hb') c' (m hc')
  · obtain ⟨b', hb', rfl⟩ := un hb
    obtain ⟨c', hc', rfl⟩ := un hc
    have l1 := orp_alike a.1.sd b'
    have l2 := orp_alike a.1.sd c'
    rw [l1.kind, l2.kind, l1.slot, l2.slot, l1.sd, l2.sd]
    exact h.slt b' (m hb') c' (m hc')
  · rw [filter_isL]
    have := h.lis
    rw [List.filter_cons_of_pos (by simp [isL, hk]), List.length_cons] at this
    omega
  · by_cases e : l = a.1.sd
    · have : (X.map (orp a.1.sd)).filter (kidOf l) = [] := by
        rw [List.filter_eq_nil_iff]
        intro b hb
        obtain ⟨c, hc, rfl⟩ := un hb
        simp only [kidOf, orp_par, decide_eq_true_eq]
        split
        · omega
        · omega
      rw [this]
      simp
    · rw [(filter_orp e hl X).1]
      have := h.kid l hl
      have hle : (X.filter (kidOf l)).length ≤ ((a :: X).filter (kidOf l)).length := by
        rw [List.filter_cons]
        split <;> simp
      omega
  · obtain ⟨b', hb', rfl⟩ := un hb
    obtain ⟨c', hc', rfl⟩ := un hc
    rw [orp_rdy, orp_rdy, orp_par, orp_par, orp_stamp, orp_stamp, (orp_alike _ b').sd, (orp_alike _ c').sd]
    by_cases e1 : b'.1.par = a.1.sd
    · rw [if_pos e1]; intro q; cases q
    · by_cases e2 : c'.1.par = a.1.sd
      · rw [if_pos e2]; intro _ q; cases q
      · rw [if_neg e1, if_neg e2, if_neg e1, if_neg e2]
        exact h.stm b' (m hb') c' (m hc')
  · obtain ⟨b', hb', rfl⟩ := un hb
    rw [orp_rdy] at hr
    rw [orp_stamp]
    split at hr
    · cases hr
    · exact h.tck b' (m hb') hr
end Go.Proofs.Qxb6500424aGreat.Sk
