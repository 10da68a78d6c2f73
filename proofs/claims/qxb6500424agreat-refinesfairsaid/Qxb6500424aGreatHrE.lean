/-
  host: who waits to be accepted: the law's list and the table's stamps.
-/
import Derived.Test.Qxb6500424aGreatHrD
set_option linter.unusedVariables false
set_option linter.unusedSimpArgs false
namespace Go.Proofs.Qxb6500424aGreat
/-- host, descriptor, parent. -/
abbrev Wt := Nat × Int × Int
structure RdyOk (c : Nat) (E : List Sk.AE) (R : List Wt) : Prop where
  sound : ∀ r ∈ R, r.1 = c → ∃ a ∈ E, a.1.sd = r.2.1 ∧ a.1.par = r.2.2 ∧ a.1.rdy = true
  full : ∀ a ∈ E, a.1.par ≠ 0 → a.1.rdy = true → (c, a.1.sd, a.1.par) ∈ R
  ord : R.Pairwise fun r s => r.1 = c → s.1 = c → ∀ a ∈ E, ∀ b ∈ E, a.1.sd = r.2.1 → b.1.sd = s.2.1 → a.2 < b.2
def waitB (c : Nat) (sd : Int) (R : List Wt) : Bool := R.any fun r => decide (r.1 = c ∧ r.2.1 = sd)
theorem waitB_iff {c : Nat} {sd : Int} {R : List Wt} : waitB c sd R = true ↔ ∃ r ∈ R, r.1 = c ∧ r.2.1 = sd := by
  unfold waitB
  rw [List.any_eq_true]
  exact ⟨fun ⟨r, h1, h2⟩ => ⟨r, h1, by simpa using h2⟩, fun ⟨r, h1, h2⟩ => ⟨r, h1, by simpa using h2⟩⟩
def look1R (c : Nat) (a : Sk.AE) (R : List Wt) : List Wt := if a.1.kind = 2 ∧ a.1.par ≠ 0 ∧ a.1.rdy = true ∧ waitB c a.1.sd R = false then R ++ [(c, a.1.sd, a.1.par)] else R
def lookR (c : Nat) : List Sk.AE → List Wt → List Wt
  | [], R => R
  | a :: E, R => lookR c E (look1R c a R)
def validB (E : Nat → List Sk.AE) (r : Wt) : Bool := match Sk.getE (E r.1) r.2.1 with
  | none => false
  | some a => a.1.rdy && decide (a.1.par = r.2.2)
def sweepR (E : Nat → List Sk.AE) (R : List Wt) : List Wt := R.filter (validB E)
section
variable {c : Nat} {E : List Sk.AE} {R : List Wt}
/-- What looking at rows adds. -/
structure LkR (c : Nat) (E : List Sk.AE) (R R' : List Wt) : Prop where
  ex : ∃ L, R' = R ++ L ∧ (∀ r ∈ L, r.1 = c ∧ waitB c r.2.1 R = false ∧ ∃ a ∈ E, a.1.sd = r.2.1 ∧ a.1.par = r.2.2 ∧ a.1.par ≠ 0 ∧ a.1.rdy = true ∧ a.1.kind = 2) ∧ L.Pairwise fun r s => r.2.1 ≠ s.2.1
  full : ∀ a ∈ E, a.1.kind = 2 → a.1.par ≠ 0 → a.1.rdy = true → waitB c a.1.sd R' = true
theorem waitB_app {sd : Int} {L : List Wt} : waitB c sd (R ++ L) = (waitB c sd R || waitB c sd L) := by unfold waitB; rw [List.any_append]
theorem lookR_spec : ∀ (E : List Sk.AE) (R : List Wt), LkR c E R (lookR c E R)
  | [], R => ⟨⟨[], by simp [lookR], fun r hr => (by cases hr), List.Pairwise.nil⟩, fun a ha => (by cases ha)⟩
  | a :: E, R => by
    obtain ⟨⟨L, e, h1, h2⟩, h3⟩ := lookR_spec E (look1R c a R)
    show LkR c (a :: E) R (lookR c E (look1R c a R))
    by_cases q : a.1.kind = 2 ∧ a.1.par ≠ 0 ∧ a.1.rdy = true ∧ waitB c a.1.sd R = false
    · have e1 : look1R c a R = R ++ [(c, a.1.sd, a.1.par)] := by unfold look1R; rw [if_pos q]
      rw [e1] at e h1 h3 ⊢
      refine ⟨⟨(c, a.1.sd, a.1.par) :: L, by rw [e, List.append_assoc]; rfl, fun r hr => ?_, List.pairwise_cons.2 ⟨fun r hr => ?_, h2⟩⟩, fun b hb k p r => ?_⟩
      · rcases List.mem_cons.1 hr with rfl | hr
        · exact ⟨rfl, q.2.2.2, a, List.mem_cons_self .., rfl, rfl, q.2.1, q.2.2.1, q.1⟩
        · obtain ⟨z1, z2, b, hb, z3⟩ := h1 r hr
          rw [waitB_app] at z2
          exact ⟨z1, (Bool.or_eq_false_iff.1 z2).1, b, List.mem_cons_of_mem _ hb, z3⟩
      · have := (h1 r hr).2.1
        rw [waitB_app] at this
        intro z
        have z' : a.1.sd = r.2.1 := z
        have w : waitB c r.2.1 [(c, a.1.sd, a.1.par)] = true := waitB_iff.2 ⟨_, List.mem_singleton.2 rfl, rfl, z'⟩
        rw [w, Bool.or_true] at this
        cases this
      · rcases List.mem_cons.1 hb with rfl | hb
        · exact waitB_iff.2 ⟨(c, b.1.sd, b.1.par), by rw [e]; simp, rfl, rfl⟩
        · exact h3 b hb k p r
    · have e1 : look1R c a R = R := by unfold look1R; rw [if_neg q]
      rw [e1] at e h1 h3 ⊢
      refine ⟨⟨L, e, fun r hr => ?_, h2⟩, fun b hb k p r => ?_⟩
      · obtain ⟨z1, z2, b, hb, z3⟩ := h1 r hr
        exact ⟨z1, z2, b, List.mem_cons_of_mem _ hb, z3⟩
      · rcases List.mem_cons.1 hb with rfl | hb
        · have w : waitB c b.1.sd R = true := by
            cases z : waitB c b.1.sd R with
            | true => rfl
            | false => exact absurd ⟨k, p, r, z⟩ q
          rw [e, waitB_app, w]; rfl
        · exact h3 b hb k p r
theorem lookR_len : ∀ (E : List Sk.AE) (R : List Wt), (lookR c E R).length ≤ R.length + E.length
  | [], R => Nat.le_refl _
  | a :: E, R => by
    have := lookR_len E (look1R c a R)
    have h1 : (look1R c a R).length ≤ R.length + 1 := by unfold look1R; split <;> simp
    show (lookR c E (look1R c a R)).length ≤ _
    simp
    omega
/-- The law's list after a look. -/
theorem ready_look {K K' : Nat → Sk.SkS} (hK : ∀ c, c < 3 → Sk.SkOk (K c)) (hK' : ∀ c, c < 3 → Sk.SkOk (K' c)) (hs : ∀ c, c < 3 → ∃ s, KStep s (K c) (K' c)) (hr : ∀ c, c < 3 → RdyOk c (K c).E R) (hh : ∀ r ∈ R, r.1 < 3) :
    (∀ c, c < 3 → RdyOk c (K' c).E (sweepR (fun c => (K' c).E) (lookR 2 (K' 2).E (lookR 1 (K' 1).E (lookR 0 (K' 0).E R))))) ∧ ∀ r ∈ sweepR (fun c => (K' c).E) (lookR 2 (K' 2).E (lookR 1 (K' 1).E (lookR 0 (K' 0).E R))), r.1 < 3 := by
  obtain ⟨⟨L0, e0, a0, p0⟩, f0⟩ := lookR_spec (c := 0) (K' 0).E R
  obtain ⟨⟨L1, e1, a1, p1⟩, f1⟩ := lookR_spec (c := 1) (K' 1).E (lookR 0 (K' 0).E R)
  obtain ⟨⟨L2, e2, a2, p2⟩, f2⟩ := lookR_spec (c := 2) (K' 2).E (lookR 1 (K' 1).E (lookR 0 (K' 0).E R))
  have eF : lookR 2 (K' 2).E (lookR 1 (K' 1).E (lookR 0 (K' 0).E R)) = R ++ (L0 ++ (L1 ++ L2)) := by rw [e2, e1, e0]; simp
  rw [e0] at a1 a2 e1 f1 f2 e2
  rw [e1] at a2 f2 e2
  have hL : ∀ r ∈ L0 ++ (L1 ++ L2), ∃ c, c < 3 ∧ r.1 = c ∧ waitB c r.2.1 R = false ∧ ∃ a ∈ (K' c).E, a.1.sd = r.2.1 ∧ a.1.par = r.2.2 ∧ a.1.par ≠ 0 ∧ a.1.rdy = true ∧ a.1.kind = 2 := fun r hr' => by
    rcases List.mem_append.1 hr' with q | q
    · obtain ⟨z1, z2, z3⟩ := a0 r q; exact ⟨0, by omega, z1, z2, z3⟩
    rcases List.mem_append.1 q with q | q
    · obtain ⟨z1, z2, z3⟩ := a1 r q
      rw [waitB_app] at z2
      exact ⟨1, by omega, z1, (Bool.or_eq_false_iff.1 z2).1, z3⟩
    · obtain ⟨z1, z2, z3⟩ := a2 r q
      rw [waitB_app, waitB_app] at z2
      exact ⟨2, by omega, z1, (Bool.or_eq_false_iff.1 (Bool.or_eq_false_iff.1 z2).1).1, z3⟩
  have hP : (L0 ++ (L1 ++ L2)).Pairwise fun r s => r.1 = s.1 → r.2.1 ≠ s.2.1 := by
    refine List.pairwise_append.2 ⟨p0.imp fun {r s} h (_ : r.1 = s.1) => h, List.pairwise_append.2 ⟨p1.imp fun {r s} h (_ : r.1 = s.1) => h, p2.imp fun {r s} h (_ : r.1 = s.1) => h, fun r h1 s h2 q => ?_⟩, fun r h1 s h2 q => ?_⟩
    · have := (a1 r h1).1
      have := (a2 s h2).1
      omega
    · have := (a0 r h1).1
      rcases List.mem_append.1 h2 with z | z
      · have := (a1 s z).1; omega
      · have := (a2 s z).1; omega
  have full : ∀ c, c < 3 → ∀ a ∈ (K' c).E, a.1.kind = 2 → a.1.par ≠ 0 → a.1.rdy = true → waitB c a.1.sd (R ++ (L0 ++ (L1 ++ L2))) = true := fun c hc a ha k p r => by
    match c, hc with
    | 0, _ => have := f0 a ha k p r; rw [e0] at this; rw [waitB_app] at this ⊢; rw [waitB_app]; rcases Bool.or_eq_true_iff.1 this with q | q <;> simp [q]
    | 1, _ => have := f1 a ha k p r; rw [e1] at this; rw [waitB_app, waitB_app] at this; rw [waitB_app, waitB_app, waitB_app]; rcases Bool.or_eq_true_iff.1 this with q | q
              · rcases Bool.or_eq_true_iff.1 q with q | q <;> simp [q]
              · simp [q]
    | 2, _ => have := f2 a ha k p r; rw [e2] at this; rw [waitB_app, waitB_app, waitB_app] at this; rw [waitB_app, waitB_app, waitB_app]; rcases Bool.or_eq_true_iff.1 this with q | q
              · rcases Bool.or_eq_true_iff.1 q with q | q
                · rcases Bool.or_eq_true_iff.1 q with q | q <;> simp [q]
                · simp [q]
              · simp [q]
  rw [eF]
  generalize L0 ++ (L1 ++ L2) = L at hL hP full
  have valid : ∀ r : Wt, r.1 < 3 → (validB (fun c => (K' c).E) r = true ↔ ∃ a ∈ (K' r.1).E, a.1.sd = r.2.1 ∧ a.1.par = r.2.2 ∧ a.1.rdy = true) := fun r hr3 => by
    unfold validB
    constructor
    · intro h
      cases hg : Sk.getE (K' r.1).E r.2.1 with
      | none => rw [hg] at h; cases h
      | some a =>
        rw [hg] at h
        have h' : (a.1.rdy && decide (a.1.par = r.2.2)) = true := h
        simp only [Bool.and_eq_true, decide_eq_true_eq] at h'
        exact ⟨a, List.mem_of_find?_eq_some hg, by have := List.find?_some hg; simpa using this, h'.2, h'.1⟩
    · rintro ⟨a, ha, s1, s2, s3⟩
      rw [← s1, Sk.getE_some (hK' r.1 hr3).ei ha]
      show (a.1.rdy && decide (a.1.par = r.2.2)) = true
      simp [s2, s3]
  have h3 : ∀ r ∈ R ++ L, r.1 < 3 := fun r hr' => by
    rcases List.mem_append.1 hr' with q | q
    · exact hh r q
    · obtain ⟨c, hc, e, _⟩ := hL r q; omega
  refine ⟨fun c hc => ?_, fun r hr' => h3 r (List.mem_filter.1 hr').1⟩
  obtain ⟨s, ks⟩ := hs c hc
  have rc := hr c hc
  refine ⟨fun r hr' hrc => ?_, fun a ha hp hy => ?_, ?_⟩
  · obtain ⟨q1, q2⟩ := List.mem_filter.1 hr'
    have := (valid r (h3 r q1)).1 q2
    rw [hrc] at this
    exact this
  · have hk : a.1.kind = 2 := by
      rcases ((hK' c hc).ei.ok a ha).kind with z | z
      · have := ((hK' c hc).ei.ok a ha).lis z
        omega
      · exact z
    have hmem : ∃ r ∈ R ++ L, r.1 = c ∧ r.2.1 = a.1.sd ∧ r.2.2 = a.1.par := by
      obtain ⟨r, h1, h2, h3'⟩ := waitB_iff.1 (full c hc a ha hk hp hy)
      rcases List.mem_append.1 h1 with q | q
      · -- it waited before
        obtain ⟨b, hb, b1, b2, b3⟩ := rc.sound r q h2
        by_cases z : a.1.sd = s
        · have := ks.old b hb (by rw [b1, h3', z])
          rw [b3] at this
          cases this
        · have := ks.rdy a ha hy z
          have e := (hK c hc).ei.uniq hb this (by rw [b1, h3'])
          exact ⟨r, h1, h2, h3', by rw [← b2, e]⟩
      · obtain ⟨c', hc', e', _, b, hb, b1, b2, _⟩ := hL r q
        have ec : c' = c := by omega
        subst ec
        have e := (hK' c' hc).ei.uniq hb ha (by rw [b1, h3'])
        exact ⟨r, h1, h2, h3', by rw [← b2, e]⟩
    obtain ⟨r, h1, h2, h4, h5⟩ := hmem
    have er : r = (c, a.1.sd, a.1.par) := by
      obtain ⟨x, y, z⟩ := r
      simp only at h2 h4 h5
      rw [h2, h4, h5]
    rw [← er]
    refine List.mem_filter.2 ⟨h1, (valid r (h3 r h1)).2 ?_⟩
    rw [h2]
    exact ⟨a, ha, h4.symm, h5.symm, hy⟩
  · -- the order
    have hv : ∀ r ∈ R ++ L, validB (fun c => (K' c).E) r = true → r.1 = c → ∀ a ∈ (K' c).E, a.1.sd = r.2.1 → a.1.rdy = true := fun r h1 hvr hrc a ha e => by
      obtain ⟨b, hb, b1, b2, b3⟩ := (valid r (h3 r h1)).1 hvr
      rw [hrc] at hb
      rw [(hK' c hc).ei.uniq ha hb (by rw [e, b1])]
      exact b3
    have oldne : ∀ r ∈ R, r.1 = c → r.2.1 ≠ s := fun r h1 hrc e => by
      obtain ⟨b, hb, b1, _, b3⟩ := rc.sound r h1 hrc
      have := ks.old b hb (by rw [b1, e])
      rw [b3] at this
      cases this
    have news : ∀ r ∈ L, r.1 = c → r.2.1 = s := fun r h1 hrc => by
      obtain ⟨c', hc', e', w, b, hb, b1, b2, b4, b3, _⟩ := hL r h1
      have ec : c' = c := by omega
      subst ec
      apply Classical.byContradiction
      intro z
      have hb0 := ks.rdy b hb b3 (by rw [b1]; exact z)
      have := rc.full b hb0 b4 b3
      have : waitB c' r.2.1 R = true := waitB_iff.2 ⟨_, this, rfl, b1⟩
      rw [w] at this
      cases this
    have base : ((R ++ L).filter (validB fun c => (K' c).E)).Pairwise fun r s => (r.1 = c → s.1 = c → ∀ a ∈ (K' c).E, ∀ b ∈ (K' c).E, a.1.sd = r.2.1 → b.1.sd = s.2.1 → a.1.rdy = true → b.1.rdy = true → a.2 < b.2) := by
      refine List.Pairwise.filter _ ?_
      refine List.pairwise_append.2 ⟨rc.ord.imp_of_mem fun {r s'} h1 h2 ho e1 e2 a ha b hb q1 q2 y1 y2 => ?_, hP.imp_of_mem fun {r s'} h1 h2 ho e1 e2 => ?_, fun r h1 s' h2 e1 e2 a ha b hb q1 q2 y1 y2 => ?_⟩
      · have a1 := ks.rdy a ha y1 (by rw [q1]; exact oldne r h1 e1)
        have b1 := ks.rdy b hb y2 (by rw [q2]; exact oldne s' h2 e2)
        exact ho e1 e2 a a1 b b1 q1 q2
      · exact absurd (by rw [news r h1 e1, news s' h2 e2]) (ho (by rw [e1, e2]))
      · exact ks.top b hb y2 (by rw [q2]; exact news s' h2 e2) a ha y1 (by rw [q1]; exact oldne r h1 e1)
    exact base.imp_of_mem fun {r s'} h1 h2 ho e1 e2 a ha b hb q1 q2 => by
      obtain ⟨m1, v1⟩ := List.mem_filter.1 h1
      obtain ⟨m2, v2⟩ := List.mem_filter.1 h2
      exact ho e1 e2 a ha b hb q1 q2 (hv r m1 v1 e1 a ha q1) (hv s' m2 v2 e2 b hb q2)
/-- Accept hands out whom the law saw first. -/
theorem ready_accept {K : Sk.SkS} {lsd : Int} (hK : Sk.SkOk K) (hr : RdyOk c K.E R) (hl : lsd ≠ 0) :
    (R.find? (fun r => decide (r.1 = c ∧ r.2.2 = lsd)) = none → Sk.qE K.E lsd = []) ∧ (∀ r, R.find? (fun r => decide (r.1 = c ∧ r.2.2 = lsd)) = some r → ∃ q L, Sk.qE K.E lsd = q :: L ∧ q.1.sd = r.2.1) := by
  obtain ⟨asc, perm⟩ := Sk.qE_spec hK.ei lsd
  have mem : ∀ a, a ∈ Sk.qE K.E lsd ↔ a ∈ K.E ∧ a.1.par = lsd ∧ a.1.rdy = true := fun a => by
    rw [perm.mem_iff, List.mem_filter, Sk.rdyOf_iff]
  refine ⟨fun hn => ?_, fun r hf => ?_⟩
  · cases e : Sk.qE K.E lsd with
    | nil => rfl
    | cons q L =>
      obtain ⟨h1, h2, h3⟩ := (mem q).1 (by rw [e]; exact List.mem_cons_self ..)
      have := hr.full q h1 (by rw [h2]; exact hl) h3
      have z := List.find?_eq_none.1 hn _ this
      simp [h2] at z
  · obtain ⟨hp, P, Q, eR, hno⟩ := List.find?_eq_some_iff_append.1 hf
    simp only [decide_eq_true_eq] at hp
    have hmem : r ∈ R := by rw [eR]; simp
    obtain ⟨a, ha, a1, a2, a3⟩ := hr.sound r hmem hp.1
    have haq := (mem a).2 ⟨ha, by rw [a2]; exact hp.2, a3⟩
    cases e : Sk.qE K.E lsd with
    | nil => rw [e] at haq; cases haq
    | cons q L =>
      refine ⟨q, L, rfl, ?_⟩
      obtain ⟨h1, h2, h3⟩ := (mem q).1 (by rw [e]; exact List.mem_cons_self ..)
      have hq := hr.full q h1 (by rw [h2]; exact hl) h3
      apply Classical.byContradiction
      intro hne
      have hqa : q ≠ a := fun z => hne (by rw [z, a1])
      -- the table's head has the least stamp
      have l1 : q.2 < a.2 := by
        rw [e] at haq asc
        rcases List.mem_cons.1 haq with z | z
        · exact absurd z.symm hqa
        · exact (List.pairwise_cons.1 asc).1 a z
      -- but in the law's list it stands behind
      rw [eR] at hq
      have hq' : (c, q.1.sd, q.1.par) ∈ Q := by
        rcases List.mem_append.1 hq with z | z
        · have := hno _ z
          simp [h2] at this
        · rcases List.mem_cons.1 z with z | z
          · exfalso; apply hne; rw [← z]
          · exact z
      have ho := hr.ord
      rw [eR] at ho
      have ho2 := (List.pairwise_cons.1 (List.pairwise_append.1 ho).2.1).1 _ hq' hp.1 rfl a ha q h1 a1 rfl
      omega
end
end Go.Proofs.Qxb6500424aGreat
