/-
  host: from a step of the hosts to what the abstract network waits for.
-/
import Derived.Test.Qxb6500424aGreatHrA
set_option linter.unusedVariables false
set_option linter.unusedSimpArgs false
namespace Go.Proofs.Qxb6500424aGreat
/-- At rest: every end has been seen. -/
structure Rest (G : List GE) (X : Nat → CS) (N : List PE) : Prop where
  len : N.length = G.length
  end_ : ∀ (i : Nat) E g, N[i]? = some E → G[i]? = some g → Done G X i E g
/-- What the calls have told the abstract network ahead of the look. -/
structure Told (g g2 : GE) (x x2 : CS) (E E1 : PE) : Prop where
  eq : E1 = { E with S := g2.S, R := g2.R, clo := E1.clo }
  clo1 : g2.wc = true → E1.clo = true
  clo2 : E1.clo = true → g2.gone = false → g2.wc = true ∨ x2.st = 4
  R : g2.R.length ≤ g.R.length + x.B.A.length
  S : g.S.length ≤ g2.S.length
section
variable {T : Int} {t : Nat → TC} {G G' : List GE} {X X' : Nat → CS} {Lg : List LE} {N N1 : List PE} {del : Nat → Int} {i : Nat} {E : PE} {g g2 : GE}
theorem May.st4 {x x' : CS} (h : May x x') (q : x.st = 4) : x'.st = 4 := by
  rcases h.1 with z | ⟨z, _⟩ | ⟨z, _⟩
  · omega
  · omega
  · omega
/-- A step that told nothing. -/
theorem Told.same {x x2 : CS} {E : PE} (h : EPre G E g g x x) (hg : g.gone = false) (sr : g2.S = g.S ∧ g2.R = g.R ∧ g2.wc = g.wc) (may : g2.gone = false → May x x2) : Told g g2 x x2 E E :=
  ⟨by rw [sr.1, sr.2.1, ← h.S, ← h.R], fun q => h.clo1 (by rw [← sr.2.2]; exact q), fun q hl => by
    rcases h.clo2 q hg with z | z
    · exact .inl (by rw [sr.2.2]; exact z)
    · exact .inr ((may hl).st4 z), by rw [sr.2.1]; omega, by rw [sr.1]; omega⟩
theorem net_step {T0 : Int} (hs : Sys T0 t G X Lg) (hE : Ends T G') (hr : Rest G X N) (tr : TrAll T G X G' X')
    (hop : ∀ (i : Nat) g g2, G[i]? = some g → G'[i]? = some g2 → g.gone = false → g2.gone = false → (X i).st ≠ 3 → (X' i).st = 3 → del g2.h ≠ 0 ∧ G'.length = G.length ∧ ∀ k, k ≠ i → X' k = X k)
    (hlen : N1.length = N.length)
    (htold : ∀ (i : Nat) E E1 g g2, N[i]? = some E → N1[i]? = some E1 → G[i]? = some g → G'[i]? = some g2 → (g.gone = true → E1 = E) ∧ (g.gone = false → Told g g2 (X i) (X' i) E E1)) :
    NetI G' X' del N1 := by
  have lenGG : G.length ≤ G'.length := by
    rcases Nat.lt_or_ge G'.length G.length with q | q
    · exfalso
      obtain ⟨g2, h2, _⟩ := tr G'.length G[G'.length] (List.getElem?_eq_getElem q)
      rw [List.getElem?_eq_none (Nat.le_refl _)] at h2
      cases h2
    · exact q
  have hSle : ∀ (j : Nat) y y2, G[j]? = some y → G'[j]? = some y2 → y.S.length ≤ y2.S.length := fun j y y2 hy hy2 => by
    have hj := (List.getElem?_eq_some_iff.1 hy).1
    have hj1 : j < N.length := by rw [hr.len]; exact hj
    obtain ⟨a, b⟩ := htold j N[j] (N1[j]'(by omega)) y y2 (List.getElem?_eq_getElem hj1) (List.getElem?_eq_getElem _) hy hy2
    cases q : y.gone with
    | false => exact (b q).S
    | true =>
      obtain ⟨z, hz, w⟩ := tr j y hy
      rw [hz] at hy2
      cases hy2
      rcases w with ⟨_, rfl⟩ | ⟨w, _⟩
      · exact Nat.le_refl _
      · rw [q] at w; cases w
  refine ⟨by rw [hlen, hr.len]; exact lenGG, fun i E1 g2 hi hg2 => ?_⟩
  have hi1 := (List.getElem?_eq_some_iff.1 hi).1
  have hiN : i < N.length := by omega
  have hiG : i < G.length := by rw [← hr.len]; exact hiN
  have hE0 : N[i]? = some N[i] := List.getElem?_eq_getElem hiN
  have hg : G[i]? = some G[i] := List.getElem?_eq_getElem hiG
  generalize N[i] = E at hE0
  generalize G[i] = g at hg
  have d := hr.end_ i E g hE0 hg
  obtain ⟨z, hz, w⟩ := tr i g hg
  rw [hg2] at hz
  cases hz
  obtain ⟨td, tl⟩ := htold i E E1 g g2 hE0 hi hg hg2
  have offs : 0 < E.off → ∃ (j : Nat) (y : GE), g.pr = some j ∧ G'[j]? = some y ∧ E.off ≤ (y.S.length : Int) := fun q => by
    obtain ⟨j, y, h1, h2, h3⟩ := d.off q
    obtain ⟨y2, hy2, _⟩ := tr j y h2
    have := hSle j y y2 h2 hy2
    exact ⟨j, y2, h1, hy2, by omega⟩
  rcases w with ⟨gg, rfl⟩ | ⟨gg, w⟩
  · have e := td gg
    subst e
    exact .dead g2 (X i) ⟨d.h, d.sd, d.lp, d.rh, d.rp, d.cl, d.S, d.R, d.clo1, fun _ q => (by rw [gg] at q; cases q), d.pe, d.pk, d.st, d.st4, d.was, d.gone, d.off0, d.offR, d.offA, offs, d.pf1, d.pf2, d.pf3, d.qgd, d.ggd, fun _ => ⟨rfl, rfl, rfl⟩⟩ gg gg rfl rfl
  have tl := tl gg
  have kp := w.kp
  have lv := hs.inv.live i g hg gg
  have prk : g2.cl = false → g.pr = g2.pr := fun q => by
    rcases w.how with ⟨e, _⟩ | ⟨s1, _⟩ | ⟨_, e, _⟩
    · exact e.symm
    · have := lv.s1 s1
      rw [kp.cl, this] at q
      cases q
    · exact e.symm
  have pre : EPre G' E1 g g2 (X i) (X' i) := by
    have eq := tl.eq
    have f1 : E1.h = E.h := by rw [eq]
    have f2 : E1.sd = E.sd := by rw [eq]
    have f3 : E1.lp = E.lp := by rw [eq]
    have f4 : E1.rh = E.rh := by rw [eq]
    have f5 : E1.rp = E.rp := by rw [eq]
    have f6 : E1.cl = E.cl := by rw [eq]
    have f7 : E1.S = g2.S := by rw [eq]
    have f8 : E1.R = g2.R := by rw [eq]
    have f9 : E1.peer = E.peer := by rw [eq]
    have f10 : E1.st = E.st := by rw [eq]
    have f11 : E1.why = E.why := by rw [eq]
    have f12 : E1.was = E.was := by rw [eq]
    have f13 : E1.gone = E.gone := by rw [eq]
    have f14 : E1.off = E.off := by rw [eq]
    have f15 : E1.pf = E.pf := by rw [eq]
    refine ⟨by rw [f1, d.h, kp.h], by rw [f2, d.sd, kp.sd], by rw [f3, d.lp, kp.lp], by rw [f4, d.rh, kp.rh], by rw [f5, d.rp, kp.rp], by rw [f6, d.cl, kp.cl], f7, f8, tl.clo1, tl.clo2, by rw [f9]; exact d.pe, prk, by rw [f10, f11]; exact d.st, by rw [f10]; exact d.st4, by rw [f12]; exact d.was, by rw [f13]; exact d.gone, by rw [f14]; exact d.off0, ?_, by rw [f14]; exact d.offA, by rw [f14]; exact offs, by rw [f15]; exact d.pf1, by rw [f14, f15]; exact d.pf2, by rw [f14, f15]; exact d.pf3, by rw [f14, f15]; exact d.qgd, by rw [f11, f14, f15]; exact d.ggd, fun q => w.frz (.inl q)⟩
    rw [f8, f14]
    have := d.offA gg
    have := tl.R
    omega
  cases gn : g2.gone with
  | true =>
    have x4 := (w.go gn).1
    rcases w.how with ⟨e1, e2, _⟩ | ⟨s1, _⟩ | ⟨s1, _⟩
    · exact .goes g (X i) pre gg gn x4 e1 e2
    · omega
    · omega
  | false =>
    refine .lives g (X i) pre gg gn (w.may gn) ?_ (fun a b => (hop i g g2 hg hg2 gg gn a b).1) (fun a b => ⟨w.pfm a b, w.rcm a b⟩)
    rcases w.how with ⟨e1, e2, e3⟩ | ⟨s1, s3, eo, j, y, epr, hy, hne, ypr, ycl, mir, mx⟩ | ⟨s2, epr, eo, s3⟩
    · exact .same e1 e2 (e3 gn)
    · obtain ⟨_, hl, hone⟩ := hop i g g2 hg hg2 gg gn (by omega) s3
      have hgo : g.ot = none := (lv.op (.inl s1)).2.2.1
      have gcl := lv.s1 s1
      have gpr : g.pr = none := by
        cases q : g.pr with
        | none => rfl
        | some j2 =>
          obtain ⟨y3, _, es⟩ := hs.inv.ends.est i g hg gcl j2 q
          obtain ⟨o, ho, _⟩ := es.ot
          rw [hgo] at ho
          cases ho
      have yot : y.ot = none := by
        cases q : y.ot with
        | none => rfl
        | some o =>
          obtain ⟨i2, x2, hx2, es⟩ := hs.inv.ends.kot j y hy ycl o q
          have e := es.pr2
          rw [ypr] at e
          cases e
          rw [hg] at hx2
          cases hx2
          obtain ⟨o2, ho2, _⟩ := es.ot
          rw [hgo] at ho2
          cases ho2
      obtain ⟨y2, hy2, wy⟩ := tr j y hy
      have hX := hone j hne
      have fy : y2.pr = y.pr ∧ y2.ot = y.ot ∧ Kp y y2 := by
        rcases wy with ⟨_, rfl⟩ | ⟨yg, wy⟩
        · exact ⟨rfl, rfl, Kp.refl _⟩
        · refine ⟨?_, ?_, wy.kp⟩
          · rcases wy.how with ⟨e1, _⟩ | ⟨z1, z2, _⟩ | ⟨z1, z2, z3, z4⟩
            · exact e1
            · rw [hX] at z2; omega
            · exact z2
          · rcases wy.how with ⟨_, e1, _⟩ | ⟨z1, z2, _⟩ | ⟨z1, z2, z3, z4⟩
            · exact e1
            · rw [hX] at z2; omega
            · rw [hX] at z4; omega
      obtain ⟨p1, p2, ky⟩ := fy
      refine .client j y2 s1 s3 (by rw [eo]; rfl) epr hy2 (by rw [p1]; exact ypr) (by rw [ky.cl]; exact ycl) ⟨by rw [kp.rh, ky.h]; exact mir.rh, by rw [ky.rh, kp.h]; exact mir.rh2, by rw [kp.lp, ky.rp]; exact mir.lp, by rw [kp.rp, ky.lp]; exact mir.rp⟩ (fun k z hz st => ?_) (by rw [kp.cl]; exact gcl) gpr (by rw [p2]; exact yot)
      have hk := (List.getElem?_eq_some_iff.1 hz).1
      rw [hl] at hk
      have hz0 : G[k]? = some G[k] := List.getElem?_eq_getElem hk
      generalize G[k] = z0 at hz0
      obtain ⟨z2, hz2, wz⟩ := tr k z0 hz0
      rw [hz] at hz2
      cases hz2
      have kz : Kp z0 z := by
        rcases wz with ⟨_, rfl⟩ | ⟨_, wz⟩
        · exact Kp.refl _
        · exact wz.kp
      exact mx k z0 hz0 ⟨by rw [← ky.h, st.h, kz.h], by rw [← ky.lp, st.lp, kz.lp], by rw [← ky.rh, st.rh, kz.rh], by rw [← ky.rp, st.rp, kz.rp]⟩
    · exact .child s2 s3 (by rw [eo]; rfl) epr (by rw [kp.cl]; exact (lv.s2 s2).1)
/-- A step that opens nothing. -/
theorem hop_calm (tr : TrAll T G X G' X') (hc : Calm G' X X') : ∀ (i : Nat) g g2, G[i]? = some g → G'[i]? = some g2 → g.gone = false → g2.gone = false → (X i).st ≠ 3 → (X' i).st = 3 → del g2.h ≠ 0 ∧ G'.length = G.length ∧ ∀ k, k ≠ i → X' k = X k :=
  fun i g g2 hg hg2 _ gn a b => absurd (hc i g2 hg2 gn b) a
/-- A segment at host c: whoever opens is of host c. -/
theorem hop_seg {c : Nat} (hs : Sys T t G X Lg) (tr : TrAll T G X G' X') (ho : One c G X X') (hl : G'.length = G.length ∨ ∃ y, G' = G ++ [y]) (hd : del c ≠ 0) : ∀ (i : Nat) g g2, G[i]? = some g → G'[i]? = some g2 → g.gone = false → g2.gone = false → (X i).st ≠ 3 → (X' i).st = 3 → del g2.h ≠ 0 ∧ G'.length = G.length ∧ ∀ k, k ≠ i → X' k = X k :=
  fun i g g2 hg hg2 gg gn a b => by
    obtain ⟨i0, h1, h2⟩ := ho
    have e : i = i0 := by
      apply Classical.byContradiction
      intro q
      rw [h1 i q] at b
      exact a b
    subst e
    obtain ⟨z, hz, w⟩ := tr i g hg
    rw [hg2] at hz
    cases hz
    have kp : Kp g g2 := by
      rcases w with ⟨_, rfl⟩ | ⟨_, w⟩
      · exact Kp.refl _
      · exact w.kp
    refine ⟨by rw [kp.h, h2 g hg]; exact hd, ?_, h1⟩
    rcases hl with q | ⟨y, rfl⟩
    · exact q
    · exfalso
      rw [get_app hg] at hg2
      cases hg2
      rcases w with ⟨q, _⟩ | ⟨_, w⟩
      · rw [gg] at q; cases q
      · have lv := hs.inv.live i g hg gg
        rcases w.how with ⟨_, _, q⟩ | ⟨s1, _, q, _⟩ | ⟨s1, _, q, _⟩
        · exact a (q gn b)
        · have := (lv.op (.inl s1)).2.2.1; rw [this] at q; cases q
        · have := (lv.op (.inr s1)).2.2.1; rw [this] at q; cases q
theorem told_same (hr : Rest G X N) (tr : TrAll T G X G' X') (sr : SameSR G G') : ∀ (i : Nat) E E1 g g2, N[i]? = some E → N[i]? = some E1 → G[i]? = some g → G'[i]? = some g2 → (g.gone = true → E1 = E) ∧ (g.gone = false → Told g g2 (X i) (X' i) E E1) :=
  fun i E E1 g g2 h1 h2 hg hg2 => by
    rw [h1] at h2
    cases h2
    refine ⟨fun _ => rfl, fun gg => ?_⟩
    obtain ⟨z, hz, w⟩ := tr i g hg
    rw [hg2] at hz
    cases hz
    rcases w with ⟨q, _⟩ | ⟨_, w⟩
    · rw [gg] at q; cases q
    · exact Told.same (hr.end_ i E g h1 hg) gg (sr i g g2 hg hg2) w.may
end
end Go.Proofs.Qxb6500424aGreat
