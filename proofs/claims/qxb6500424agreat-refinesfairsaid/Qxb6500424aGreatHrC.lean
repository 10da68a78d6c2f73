/-
  host: the look: every row is seen, every end that went is unlisted; then the abstract network is at rest.
-/
import Derived.Test.Qxb6500424aGreatHrB
set_option linter.unusedVariables false
set_option linter.unusedSimpArgs false
namespace Go.Proofs.Qxb6500424aGreat
/-- A child that has just been born and is not yet among the ends. -/
structure Fresh (G : List GE) (X : Nat → CS) (del : Nat → Int) (n : Nat) (y : GE) (p : Nat) : Prop where
  at_ : G[n]? = some y
  cl : y.cl = false
  pr : y.pr = some p
  pn : p < n
  z : Zero y
  ot : y.ot = none
  gone : y.gone = false
  st : (X n).st = 2
  why : (X n).why = 0
  A : (X n).B.A = []
  del : del y.h ≠ 0
  of : ∃ q, G[p]? = some q ∧ q.cl = true ∧ q.h < 3 ∧ Mirror q y ∧ ∀ (k : Nat) z, k < n → G[k]? = some z → SameT q z → k ≤ p
structure LookI (G : List GE) (X : Nat → CS) (del : Nat → Int) (N : List PE) : Prop where
  net : NetI G X del N
  len : N.length = G.length ∨ (N.length + 1 = G.length ∧ ∃ y p, Fresh G X del N.length y p)
  hpl : ∀ (i : Nat) g j, i < N.length → G[i]? = some g → g.pr = some j → j < N.length
def DoneAt (G : List GE) (X : Nat → CS) (N : List PE) (i : Nat) : Prop := ∃ E g, N[i]? = some E ∧ G[i]? = some g ∧ Done G X i E g
structure SeeNew (N : List PE) (del : Int) (c : Nat) (a : Sk.Ent) (x : CS) (p : Nat) : Prop where
  no : ∀ (k : Nat) E, N[k]? = some E → ¬ (E.h = c ∧ E.sd = a.sd)
  rh : 1 ≤ a.rh ∧ a.rh ≤ 3
  del : del ≠ 0
  st : x.st = 2
  par : a.par ≠ 0
  rdy : a.rdy = false
  lat : ∃ Ep, LatestN N (a.rh - 1) a.rp ((c : Int) + 1) a.lp true p Ep
def bornE (c : Nat) (a : Sk.Ent) (p : Nat) : PE := ⟨c, a.sd, a.lp, a.rh, a.rp, false, (p : Int), [], [], 0, 2, 0, false, false, false, false⟩
section
variable {T : Int} {t : Nat → TC} {G G' : List GE} {X X' : Nat → CS} {Lg : List LE} {N N1 : List PE} {del : Nat → Int} {i c : Nat} {E : PE} {g g2 : GE} {a : Sk.AE}
theorem NetI.set {E2 : PE} (h : NetI G X del N) (hi : i < N.length) (hg : G[i]? = some g) (hE : Pend G X del i E2 g) : NetI G X del (N.set i E2) := by
  refine ⟨by rw [List.length_set]; exact h.le, fun k F y hF hy => ?_⟩
  by_cases q : k = i
  · subst q
    rw [List.getElem?_set_self hi] at hF
    cases hF
    rw [hg] at hy
    cases hy
    exact hE
  · rw [List.getElem?_set_ne (fun z => q z.symm)] at hF
    exact h.end_ k F y hF hy
theorem LookI.set {E2 : PE} (h : LookI G X del N) (hi : i < N.length) (hg : G[i]? = some g) (hE : Pend G X del i E2 g) : LookI G X del (N.set i E2) :=
  ⟨h.net.set hi hg hE, by rw [List.length_set]; exact h.len, by rw [List.length_set]; exact h.hpl⟩
theorem DoneAt.set {k : Nat} {E2 : PE} (h : DoneAt G X N k) (hg : G[i]? = some g) (hE : Done G X i E2 g) (hi : i < N.length) : DoneAt G X (N.set i E2) k := by
  by_cases q : k = i
  · subst q
    exact ⟨E2, g, List.getElem?_set_self hi, hg, hE⟩
  · obtain ⟨F, y, h1, h2, h3⟩ := h
    exact ⟨F, y, by rw [List.getElem?_set_ne (fun z => q z.symm)]; exact h1, h2, h3⟩
theorem DoneAt.push {k : Nat} {E2 : PE} (h : DoneAt G X N k) : DoneAt G X (N ++ [E2]) k := by
  obtain ⟨F, y, h1, h2, h3⟩ := h
  exact ⟨F, y, by rw [List.getElem?_append_left (List.getElem?_eq_some_iff.1 h1).1]; exact h1, h2, h3⟩
/-- A row is seen: of an end that the network knows, or of a child that was just born. -/
theorem LookI.row (hs : Sys T t G X Lg) (h : LookI G X del N) (hc : c < 3) (r : RowOk c (t c) G X a i g) :
    (∃ E pe', N[i]? = some E ∧ (∀ (k : Nat) F, N[k]? = some F → F.h = c → F.sd = a.1.sd → k = i) ∧ E.h = c ∧ E.sd = a.1.sd ∧ SeeOld N (del c) i E a.1.par a.1.rdy (X i) pe' ∧ LookI G X del (N.set i (seenE E pe' (X i))) ∧ Done G X i (seenE E pe' (X i)) g) ∨
    (∃ p, i = N.length ∧ SeeNew N (del c) c a.1 (X i) p ∧ LookI G X del (N ++ [bornE c a.1 p]) ∧ Done G X i (bornE c a.1 p) g) := by
  have tb := hs.tab c hc
  have lv := hs.inv.live i g r.at_ r.gone
  have hlt := (List.getElem?_eq_some_iff.1 r.at_).1
  have uniq : ∀ (k : Nat) F, N[k]? = some F → F.h = c → F.sd = a.1.sd → k = i := fun k F hF e1 e2 => by
    obtain ⟨z, hz, pz⟩ := h.net.at hF
    obtain ⟨gz, xz, qz⟩ := pz.pre
    exact tb.uniq k i z g hz r.at_ (by rw [← qz.h]; exact e1) r.h (by rw [← qz.sd, e2, r.sd])
  by_cases hi : i < N.length
  · left
    have hE : N[i]? = some N[i] := List.getElem?_eq_getElem hi
    generalize N[i] = E at hE
    obtain ⟨g0, x0, p0⟩ := (h.net.end_ i E g hE r.at_).pre
    obtain ⟨pe', so, dn⟩ := see_old hs.inv.ends hs.inv.zero h.net hE r.at_ r.gone lv r.rdy (fun j hj => h.hpl i g j hi r.at_ hj)
    rw [r.h] at so
    exact ⟨E, pe', hE, uniq, by rw [p0.h]; exact r.h, by rw [p0.sd]; exact r.sd, so, h.set hi r.at_ dn.pend, dn⟩
  · right
    rcases h.len with q | ⟨q, y, p, f⟩
    · omega
    have ei : i = N.length := by omega
    have ey : y = g := by have := f.at_; rw [← ei, r.at_] at this; cases this; rfl
    subst ey
    obtain ⟨q0, hq0, qcl, qh, mir, mx⟩ := f.of
    obtain ⟨Ep, hEp⟩ : ∃ Ep, N[p]? = some Ep := ⟨_, List.getElem?_eq_getElem f.pn⟩
    obtain ⟨gp, xp, pp⟩ := (h.net.end_ p Ep q0 hEp hq0).pre
    have m1 := mir.rh
    have m2 := mir.rh2
    have m3 := mir.lp
    have m4 := mir.rp
    have rh := r.rh
    have hh := r.h
    have hst : (X i).st = 2 := by rw [ei]; exact f.st
    have hpar := r.s2 hst
    have dn : Done G X i (bornE c a.1 p) y := by
      have hA : (X i).B.A = [] := by rw [ei]; exact f.A
      refine ⟨r.h.symm, r.sd.symm, r.lp.symm, r.rh.symm, r.rp.symm, f.cl.symm, f.z.S.symm, f.z.R.symm, fun q => ?_, fun q => (by cases q), by rw [f.pr]; rfl, fun _ => rfl, fun _ => ⟨hst.symm, by rw [ei]; exact f.why.symm⟩, fun q => (by rw [f.gone] at q; cases q), by rw [f.ot]; rfl, f.gone.symm, Int.le_refl _, Int.le_refl _, fun _ => ?_, fun q => (by cases q), fun _ q => ?_, fun _ q => (by rw [hst] at q; cases q), fun _ _ => ⟨rfl, rfl⟩, fun _ q => (by rw [hst] at q; cases q), fun q => (by rw [f.gone] at q; cases q), fun q => (by rw [f.gone] at q; cases q)⟩
      · have := f.z.f.2.2.2; rw [q] at this; cases this
      · rw [f.z.R, hA]; exact Int.le_refl _
      · have := (lv.ok.opening (.inr hst)).2.2.2.2
        rw [q] at this
        cases this
    refine ⟨p, ei, ⟨fun k F hF e => ?_, by omega, by rw [← hh]; exact f.del, hst, hpar, ?_, Ep, hEp, ⟨by rw [pp.h]; omega, by rw [pp.lp]; rw [m3]; exact r.rp, by rw [pp.rh]; omega, by rw [pp.rp]; rw [m4]; exact r.lp, by rw [pp.cl]; exact qcl⟩, fun k F hF hk e => ?_⟩, ?_, dn⟩
    · have := uniq k F hF e.1 e.2
      have := (List.getElem?_eq_some_iff.1 hF).1
      omega
    · cases e : a.1.rdy with
      | false => rfl
      | true => have := (r.rdy hpar).1 e; rw [f.ot] at this; cases this
    · have hkl := (List.getElem?_eq_some_iff.1 hF).1
      obtain ⟨z, hz, pz⟩ := h.net.at hF
      obtain ⟨gz, xz, qz⟩ := pz.pre
      have := mx k z hkl hz ⟨by have := e.1; rw [qz.h] at this; omega, by have := e.2.1; rw [qz.lp] at this; rw [m3, this]; exact r.rp, by have := e.2.2.1; rw [qz.rh] at this; omega, by have := e.2.2.2.1; rw [qz.rp] at this; rw [m4, this]; exact r.lp⟩
      omega
    · refine ⟨⟨by simp; omega, fun k F z hF hz => ?_⟩, .inl (by simp; omega), fun k z j hk hz hj => ?_⟩
      · rcases Nat.lt_or_ge k N.length with w | w
        · rw [List.getElem?_append_left w] at hF
          exact h.net.end_ k F z hF hz
        · have hk := (List.getElem?_eq_some_iff.1 hF).1
          rw [List.length_append] at hk
          have ek : k = N.length := by simp at hk; omega
          rw [ek] at hF hz
          simp at hF
          subst hF
          rw [f.at_] at hz
          cases hz
          rw [ek, ← ei]
          exact dn.pend
      · rw [List.length_append] at hk ⊢
        rcases Nat.lt_or_ge k N.length with w | w
        · have := h.hpl k z j w hz hj
          omega
        · have ek : k = N.length := by simp at hk; omega
          rw [ek, f.at_] at hz
          cases hz
          rw [f.pr] at hj
          cases hj
          have := f.pn
          omega
/-- An end that is listed no more. -/
theorem LookI.unlist (hs : Sys T t G X Lg) (h : LookI G X del N) (hc : c < 3) (hi : N[i]? = some E) (hh : E.h = c) (hg : E.gone = false) (hn : E.sd ∉ sdsE (t c).K.E) :
    E.st = 4 ∧ ∃ g, G[i]? = some g ∧ Done G X i { E with gone := true } g ∧ LookI G X del (N.set i { E with gone := true }) := by
  obtain ⟨g2, hg2, pd⟩ := h.net.at hi
  have hlt := (List.getElem?_eq_some_iff.1 hi).1
  have fin : ∀ (g : GE) (x : CS), EPre G E g g2 x (X i) → g2.gone = true → g2.pr = g.pr → g2.ot = g.ot → E.st = 4 → (E.why = 0 → g2.fa = true ∧ g2.pf = true ∧ E.pf = true ∧ (g2.rc : Int) ≤ E.off) → Done G X i { E with gone := true } g2 := fun g x p gn e1 e2 s4 good =>
    ⟨p.h, p.sd, p.lp, p.rh, p.rp, p.cl, p.S, p.R, p.clo1, fun _ q => (by rw [gn] at q; cases q), by rw [e1]; exact p.pe, fun _ => rfl, fun q => (by rw [gn] at q; cases q), fun _ => s4, by rw [e2]; exact p.was, gn.symm, p.off0, p.offR, fun q => (by rw [gn] at q; cases q), by rw [e1]; exact p.off, fun q => (by rw [gn] at q; cases q), fun q => (by rw [gn] at q; cases q), fun q => (by rw [gn] at q; cases q), fun q => (by rw [gn] at q; cases q), fun _ q => good q, fun _ => ⟨rfl, rfl, rfl⟩⟩
  rcases pd with ⟨g, x, p, a, b, _⟩ | ⟨g, x, p, a, b, x4, e1, e2⟩ | ⟨g, x, p, a, b, _⟩
  · rw [p.gone, a] at hg; cases hg
  · have s4 : E.st = 4 := by rw [(p.st a).1]; exact x4
    have dn := fin g x p b e1 e2 s4 (fun q => by
      obtain ⟨z1, z2, z3⟩ := p.fz b
      rw [z1, z2, z3]
      exact p.qgd a x4 (by rw [← (p.st a).2]; exact q))
    exact ⟨s4, g2, hg2, dn, h.set hlt hg2 dn.pend⟩
  · exfalso
    obtain ⟨b', hb, hkb, hsb⟩ := (hs.tab c hc).end_ i g2 hg2 (by rw [← p.h]; exact hh) b
    exact hn (List.mem_map.2 ⟨b', hb, by rw [hsb, p.sd]⟩)
/-- An end of a host whose rows have all been seen. -/
theorem LookI.left (hs : Sys T t G X Lg) (h : LookI G X del N) (hc : c < 3) (hi : N[i]? = some E) (hh : E.h = c) (hd : ∀ (k : Nat) g, G[k]? = some g → g.h = c → g.gone = false → DoneAt G X N k) (hg : E.gone = true ∨ E.sd ∈ sdsE (t c).K.E) : DoneAt G X N i := by
  obtain ⟨g2, hg2, pd⟩ := h.net.at hi
  rcases pd with ⟨g, x, p, a, b, e1, e2⟩ | ⟨g, x, p, a, b, x4, e1, e2⟩ | ⟨g, x, p, a, b, _⟩
  · exact ⟨E, g2, hi, hg2, p.h, p.sd, p.lp, p.rh, p.rp, p.cl, p.S, p.R, p.clo1, fun _ q => (by rw [b] at q; cases q), by rw [e1]; exact p.pe, fun _ => rfl, fun q => (by rw [b] at q; cases q), fun _ => p.st4 a, by rw [e2]; exact p.was, by rw [p.gone, a, b], p.off0, p.offR, fun q => (by rw [b] at q; cases q), by rw [e1]; exact p.off, fun q => (by rw [b] at q; cases q), fun q => (by rw [b] at q; cases q), fun q => (by rw [b] at q; cases q), fun q => (by rw [b] at q; cases q), fun _ q => (by obtain ⟨z1, z2, z3⟩ := p.fz b; rw [z1, z2, z3]; exact p.ggd a q), fun _ => ⟨rfl, rfl, rfl⟩⟩
  · exfalso
    rcases hg with q | q
    · rw [p.gone, a] at q; cases q
    · obtain ⟨b', hb, hsb⟩ := List.mem_map.1 q
      have tb := hs.tab c hc
      by_cases hk : b'.1.kind = 2
      · obtain ⟨k, y, r⟩ := tb.row b' hb hk
        have := tb.uniq k i y g2 r.at_ hg2 r.h (by rw [← p.h]; exact hh) (by rw [r.sd, hsb, p.sd])
        subst this
        have := r.at_
        rw [hg2] at this
        cases this
        have := r.gone
        rw [b] at this
        cases this
      · have k1 : b'.1.kind = 1 := by
          rcases (tb.sk.ei.ok b' hb).kind with z | z
          · exact z
          · exact absurd z hk
        exact tb.lis b' hb k1 i g2 hg2 (by rw [← p.h]; exact hh) (by rw [← p.sd, hsb])
  · exact hd i g2 hg2 (by rw [← p.h]; exact hh) b
end
end Go.Proofs.Qxb6500424aGreat
