/-
  host: the abstract network, plain; what one look at a row wants, and that it holds.
-/
import Derived.Test.Qxb6500424aGreatHpQ
set_option linter.unusedVariables false
set_option linter.unusedSimpArgs false
namespace Go.Proofs.Qxb6500424aGreat
/-- hostm.End. -/
structure PE where
  h : Nat
  sd : Int
  lp : Int
  rh : Int
  rp : Int
  cl : Bool
  peer : Int
  S : List Int
  R : List Int
  off : Int
  st : Int
  why : Int
  clo : Bool
  pf : Bool
  was : Bool
  gone : Bool
def peerI : Option Nat → Int
  | none => -1
  | some j => (j : Int)
/-- An end of the abstract network, last seen at (g, x); since then what the caller did has been told. -/
structure EPre (G : List GE) (E : PE) (g g2 : GE) (x x2 : CS) : Prop where
  h : E.h = g2.h
  sd : E.sd = g2.sd
  lp : E.lp = g2.lp
  rh : E.rh = g2.rh
  rp : E.rp = g2.rp
  cl : E.cl = g2.cl
  S : E.S = g2.S
  R : E.R = g2.R
  clo1 : g2.wc = true → E.clo = true
  clo2 : E.clo = true → g2.gone = false → g2.wc = true ∨ x2.st = 4
  pe : E.peer = peerI g.pr
  pk : g2.cl = false → g.pr = g2.pr
  st : g.gone = false → E.st = x.st ∧ E.why = x.why
  st4 : g.gone = true → E.st = 4
  was : E.was = g.ot.isSome
  gone : E.gone = g.gone
  off0 : 0 ≤ E.off
  offR : (E.R.length : Int) ≤ E.off
  offA : g.gone = false → (g.R.length : Int) + (x.B.A.length : Int) ≤ E.off
  off : 0 < E.off → ∃ (j : Nat) (y : GE), g.pr = some j ∧ G[j]? = some y ∧ E.off ≤ (y.S.length : Int)
  pf1 : g.gone = false → x.pf = true → E.pf = true
  pf2 : g.gone = false → x.st = 3 → (E.pf = true → x.pf = true) ∧ E.off ≤ (g.R.length : Int) + (x.B.A.length : Int)
  pf3 : g.gone = false → x.st = 1 ∨ x.st = 2 → E.pf = false ∧ E.off = 0
  qgd : g.gone = false → x.st = 4 → x.why = 0 → g.fa = true ∧ g.pf = true ∧ E.pf = true ∧ (g.rc : Int) ≤ E.off
  ggd : g.gone = true → E.why = 0 → g.fa = true ∧ g.pf = true ∧ E.pf = true ∧ (g.rc : Int) ≤ E.off
  fz : g2.gone = true → g2.rc = g.rc ∧ g2.fa = g.fa ∧ g2.pf = g.pf
def How (G : List GE) (i : Nat) (g g2 : GE) (x x' : CS) : Prop :=
  (g2.pr = g.pr ∧ g2.ot = g.ot ∧ (x'.st = 3 → x.st = 3)) ∨
  (∃ j : Nat, ∃ y : GE, x.st = 1 ∧ x'.st = 3 ∧ g2.ot.isSome = true ∧ g2.pr = some j ∧ G[j]? = some y ∧ y.pr = some i ∧ y.cl = false ∧ Mirror g2 y ∧ (∀ (k : Nat) z, G[k]? = some z → SameT y z → k ≤ j) ∧ g2.cl = true ∧ g.pr = none ∧ y.ot = none) ∨
  (x.st = 2 ∧ x'.st = 3 ∧ g2.ot.isSome = true ∧ g2.pr = g.pr ∧ g2.cl = false)
theorem How.same {G : List GE} {i : Nat} {g g2 : GE} {x x' : CS}  (q0 : g2.pr = g.pr) (q1 : g2.ot = g.ot) (q2 : (x'.st = 3 → x.st = 3)) : How G i g g2 x x' :=
  Or.inl ⟨q0, q1, q2⟩
theorem How.client {G : List GE} {i : Nat} {g g2 : GE} {x x' : CS} (j : Nat) (y : GE) (q0 : x.st = 1) (q1 : x'.st = 3) (q2 : g2.ot.isSome = true) (q3 : g2.pr = some j) (q4 : G[j]? = some y) (q5 : y.pr = some i) (q6 : y.cl = false) (q7 : Mirror g2 y) (q8 : (∀ (k : Nat) z, G[k]? = some z → SameT y z → k ≤ j)) (q9 : g2.cl = true) (q10 : g.pr = none) (q11 : y.ot = none) : How G i g g2 x x' :=
  Or.inr (Or.inl ⟨j, y, q0, q1, q2, q3, q4, q5, q6, q7, q8, q9, q10, q11⟩)
theorem How.child {G : List GE} {i : Nat} {g g2 : GE} {x x' : CS}  (q0 : x.st = 2) (q1 : x'.st = 3) (q2 : g2.ot.isSome = true) (q3 : g2.pr = g.pr) (q4 : g2.cl = false) : How G i g g2 x x' :=
  Or.inr (Or.inr (⟨q0, q1, q2, q3, q4⟩))
/-- An end that waits to be seen. -/
def Pend (G : List GE) (X : Nat → CS) (del : Nat → Int) (i : Nat) (E : PE) (g2 : GE) : Prop :=
  (∃ g : GE, ∃ x : CS, EPre G E g g2 x (X i) ∧ g.gone = true ∧ g2.gone = true ∧ g2.pr = g.pr ∧ g2.ot = g.ot) ∨
  (∃ g : GE, ∃ x : CS, EPre G E g g2 x (X i) ∧ g.gone = false ∧ g2.gone = true ∧ x.st = 4 ∧ g2.pr = g.pr ∧ g2.ot = g.ot) ∨
  (∃ g : GE, ∃ x : CS, EPre G E g g2 x (X i) ∧ g.gone = false ∧ g2.gone = false ∧ May x (X i) ∧ How G i g g2 x (X i) ∧ (x.st ≠ 3 → (X i).st = 3 → del g2.h ≠ 0) ∧ (x.st = 3 → (X i).st = 3 → (x.pf = true → (X i).pf = true) ∧ g.R.length + x.B.A.length ≤ g2.R.length + (X i).B.A.length))
theorem Pend.dead {G : List GE} {X : Nat → CS} {del : Nat → Int} {i : Nat} {E : PE} {g2 : GE} (g : GE) (x : CS) (q0 : EPre G E g g2 x (X i)) (q1 : g.gone = true) (q2 : g2.gone = true) (q3 : g2.pr = g.pr) (q4 : g2.ot = g.ot) : Pend G X del i E g2 :=
  Or.inl ⟨g, x, q0, q1, q2, q3, q4⟩
theorem Pend.goes {G : List GE} {X : Nat → CS} {del : Nat → Int} {i : Nat} {E : PE} {g2 : GE} (g : GE) (x : CS) (q0 : EPre G E g g2 x (X i)) (q1 : g.gone = false) (q2 : g2.gone = true) (q3 : x.st = 4) (q4 : g2.pr = g.pr) (q5 : g2.ot = g.ot) : Pend G X del i E g2 :=
  Or.inr (Or.inl ⟨g, x, q0, q1, q2, q3, q4, q5⟩)
theorem Pend.lives {G : List GE} {X : Nat → CS} {del : Nat → Int} {i : Nat} {E : PE} {g2 : GE} (g : GE) (x : CS) (q0 : EPre G E g g2 x (X i)) (q1 : g.gone = false) (q2 : g2.gone = false) (q3 : May x (X i)) (q4 : How G i g g2 x (X i)) (q5 : (x.st ≠ 3 → (X i).st = 3 → del g2.h ≠ 0)) (q6 : x.st = 3 → (X i).st = 3 → (x.pf = true → (X i).pf = true) ∧ g.R.length + x.B.A.length ≤ g2.R.length + (X i).B.A.length) : Pend G X del i E g2 :=
  Or.inr (Or.inr (⟨g, x, q0, q1, q2, q3, q4, q5, q6⟩))
abbrev Done (G : List GE) (X : Nat → CS) (i : Nat) (E : PE) (g2 : GE) : Prop := EPre G E g2 g2 (X i) (X i)
theorem Done.pend {G : List GE} {X : Nat → CS} {del : Nat → Int} {i : Nat} {E : PE} {g2 : GE} (h : Done G X i E g2) : Pend G X del i E g2 := by
  cases q : g2.gone with
  | true => exact .dead g2 (X i) h q q rfl rfl
  | false => exact .lives g2 (X i) h q q (May.refl _) (.same rfl rfl (fun z => z)) (fun a b => absurd b a) (fun _ _ => ⟨fun z => z, Nat.le_refl _⟩)
/-- Which end latest answers. -/
structure LatestN (N : List PE) (h lp rh rp : Int) (cl : Bool) (p : Nat) (Ep : PE) : Prop where
  at_ : N[p]? = some Ep
  eq : (Ep.h : Int) = h ∧ Ep.lp = lp ∧ Ep.rh = rh ∧ Ep.rp = rp ∧ Ep.cl = cl
  max : ∀ (k : Nat) E, N[k]? = some E → p < k → ¬ ((E.h : Int) = h ∧ E.lp = lp ∧ E.rh = rh ∧ E.rp = rp ∧ E.cl = cl)
def mayB (a b : Int) : Prop := a = b ∨ ((a = 1 ∨ a = 2) ∧ (b = 3 ∨ b = 4)) ∨ (a = 3 ∧ b = 4)
def offN (E : PE) (x : CS) : Int := if E.off < (E.R.length : Int) + (x.B.A.length : Int) then (E.R.length : Int) + (x.B.A.length : Int) else E.off
structure SeeOld (N : List PE) (del : Int) (i : Nat) (E : PE) (par : Int) (rdy : Bool) (x : CS) (pe' : Int) : Prop where
  gone : E.gone = false
  may : mayB E.st x.st
  why : E.st = 4 → E.why = x.why ∨ (E.why = 0 ∧ x.why = 20)
  del : E.st ≠ 3 → x.st = 3 → del ≠ 0
  opc : E.st ≠ 3 → x.st = 3 → E.cl = true → ∃ (p : Nat) (Ep : PE), LatestN N (E.rh - 1) E.rp ((E.h : Int) + 1) E.lp false p Ep ∧ Ep.peer = (i : Int) ∧ pe' = (p : Int)
  opk : E.st ≠ 3 → x.st = 3 → E.cl = false → ∃ (p : Nat) (Ep : PE), E.peer = (p : Int) ∧ N[p]? = some Ep ∧ Ep.peer = (i : Int) ∧ pe' = E.peer
  opn : E.st = 3 ∨ x.st ≠ 3 → pe' = E.peer
  rdy : par ≠ 0 → rdy = (E.was || decide (x.st = 3))
  off : 0 < offN E x → ∃ (p : Nat) (Ep : PE), pe' = (p : Int) ∧ N[p]? = some Ep ∧ offN E x ≤ (Ep.S.length : Int)
  pf : x.pf = true → E.pf = false → ∃ (p : Nat) (Ep : PE), pe' = (p : Int) ∧ N[p]? = some Ep ∧ Ep.clo = true ∧ offN E x = (Ep.S.length : Int)
def seenE (E : PE) (pe' : Int) (x : CS) : PE := { E with peer := pe', st := x.st, why := x.why, was := E.was || decide (x.st = 3), off := offN E x, pf := E.pf || x.pf }
/-- All ends of the abstract network wait or have been seen; at most the youngest of the world is not yet among them. -/
structure NetI (G : List GE) (X : Nat → CS) (del : Nat → Int) (N : List PE) : Prop where
  le : N.length ≤ G.length
  end_ : ∀ (i : Nat) E g2, N[i]? = some E → G[i]? = some g2 → Pend G X del i E g2
section
variable {T : Int} {t : Nat → TC} {G : List GE} {X : Nat → CS} {Lg : List LE} {N : List PE} {del : Nat → Int} {i : Nat} {E : PE} {g2 : GE}
theorem Pend.pre (h : Pend G X del i E g2) : ∃ g x, EPre G E g g2 x (X i) := by
  rcases h with ⟨g, x, p, _⟩ | ⟨g, x, p, _⟩ | ⟨g, x, p, _⟩
  · exact ⟨g, x, p⟩
  · exact ⟨g, x, p⟩
  · exact ⟨g, x, p⟩
theorem NetI.at (h : NetI G X del N) (hi : N[i]? = some E) : ∃ g2, G[i]? = some g2 ∧ Pend G X del i E g2 := by
  have := (List.getElem?_eq_some_iff.1 hi).1
  have hl := h.le
  exact ⟨G[i]'(by omega), List.getElem?_eq_getElem _, h.end_ i E _ hi (List.getElem?_eq_getElem _)⟩
/-- The peer's end, with its bytes. -/
theorem NetI.peer {g g2 y : GE} {j : Nat} (h : NetI G X del N) (hy : G[j]? = some y) (hlt : j < N.length) : ∃ Ep, N[j]? = some Ep ∧ Ep.S = y.S ∧ (y.wc = true → Ep.clo = true) := by
  refine ⟨N[j], List.getElem?_eq_getElem hlt, ?_⟩
  obtain ⟨g, x, p⟩ := (h.end_ j N[j] y (List.getElem?_eq_getElem hlt) hy).pre
  exact ⟨p.S, p.clo1⟩
theorem fail_A {x : CS} (h : CsOk x) (h4 : x.st = 4) (hw : x.why ≠ 0) : x.B.A = [] ∧ x.pf = false := by
  rw [h.bad h4 hw]
  exact ⟨rfl, rfl⟩
theorem open_A {τ : Int} {g : GE} {x : CS} (h : Live τ G i g x) (h1 : x.st = 1 ∨ x.st = 2) : x.B.A = [] ∧ x.pf = false := by
  refine ⟨?_, (h.ok.opening h1).2.2.2.2⟩
  rcases h1 with q | q
  · rw [h.ok.syn q]; rfl
  · obtain ⟨_, p, q0, _, _, hB⟩ := h.s2 q
    rw [hB]; rfl
theorem st12 {s : Int} (h : 0 ≤ s ∧ s ≤ 4) (h0 : s ≠ 0) (h4 : s ≠ 4) (h3 : s ≠ 3) : s = 1 ∨ s = 2 := by omega
/-- A row is seen. -/
theorem see_old {τ : Int} {par : Int} {rdy : Bool} (hE : Ends T G) (hz : ∀ (i : Nat) g, G[i]? = some g → g.ot = none → Zero g) (hn : NetI G X del N) (hi : N[i]? = some E) (hg : G[i]? = some g2) (hl : g2.gone = false) (lv : Live τ G i g2 (X i)) (hrdy : par ≠ 0 → (rdy = true ↔ g2.ot.isSome = true))
    (hpl : ∀ (j : Nat), g2.pr = some j → j < N.length) :
    ∃ pe', SeeOld N (del g2.h) i E par rdy (X i) pe' ∧ Done G X i (seenE E pe' (X i)) g2 := by
  rcases hn.end_ i E g2 hi hg with ⟨g, x, p, a, b, _⟩ | ⟨g, x, p, a, b, _⟩ | ⟨g, x, p, ga, gb, may, how, dl, mono⟩
  · rw [hl] at b; cases b
  · rw [hl] at b; cases b
  obtain ⟨st, wy⟩ := p.st ga
  have hst := lv.ok.st
  have hnz := lv.nz
  have pe2 : ∀ {j : Nat}, g2.pr = some j → peerI g2.pr = (j : Int) := fun {j} q => by rw [q]; rfl
  -- the bytes
  have hoff : ∃ m : Int, offN E (X i) = m ∧ 0 ≤ m ∧ (E.R.length : Int) ≤ m ∧ (g2.R.length : Int) + ((X i).B.A.length : Int) ≤ m ∧ (0 < m → ∃ (j : Nat) (y : GE), g2.pr = some j ∧ G[j]? = some y ∧ m ≤ (y.S.length : Int)) := by
    refine ⟨_, rfl, ?_, ?_, ?_, ?_⟩
    · unfold offN; have := p.off0; split <;> omega
    · unfold offN; have := p.offR; split <;> omega
    · rw [← p.R]; unfold offN; split <;> omega
    · have old : E.off > 0 → ∃ (j : Nat) (y : GE), g2.pr = some j ∧ G[j]? = some y ∧ E.off ≤ (y.S.length : Int) := fun q => by
        obtain ⟨j, y, h1, h2, h3⟩ := p.off q
        refine ⟨j, y, ?_, h2, h3⟩
        rcases how with ⟨e, _, _⟩ | ⟨_, _, _, _, _, _, _, _, _, _, _, _, e, _⟩ | ⟨_, _, _, e, _⟩
        · rw [e]; exact h1
        · rw [e] at h1; cases h1
        · rw [e]; exact h1
      unfold offN
      by_cases c : E.off < (E.R.length : Int) + ((X i).B.A.length : Int)
      · rw [if_pos c]
        intro hpos
        by_cases o3 : (X i).st = 3 ∨ ((X i).st = 4 ∧ (X i).why = 0)
        · obtain ⟨j, y, hy, pr, oo, _⟩ := lv.s3 o3
          have hA := congrArg List.length oo.A
          rw [List.length_append, List.length_take] at hA
          refine ⟨j, y, ?_, hy, ?_⟩
          · rcases pr with ⟨_, es⟩ | ⟨_, es⟩
            · exact es.pr
            · exact es.pr2
          · rw [p.R]; omega
        · have hA : (X i).B.A = [] := by
            by_cases c4 : (X i).st = 4
            · exact (fail_A lv.ok c4 (fun q => o3 (.inr ⟨c4, q⟩))).1
            · exact (open_A lv (st12 hst hnz c4 (fun q => o3 (.inl q)))).1
          rw [hA] at c
          have := p.offR
          simp at c
          omega
      · rw [if_neg c]
        exact old
  obtain ⟨m, em, m0, mR, mA, mj⟩ := hoff
  have wasN : (E.was || decide ((X i).st = 3)) = g2.ot.isSome := by
    by_cases c3 : (X i).st = 3
    · obtain ⟨_, _, _, _, _, o, ho⟩ := lv.s3 (.inl c3)
      rw [ho, decide_eq_true c3, Bool.or_true]; rfl
    · rw [decide_eq_false c3, Bool.or_false, p.was]
      rcases how with ⟨_, e, _⟩ | ⟨_, _, _, e, _⟩ | ⟨_, e, _⟩
      · rw [e]
      · exact absurd e c3
      · exact absurd e c3
  refine ⟨peerI g2.pr, ⟨by rw [p.gone]; exact ga, ?_, ?_, ?_, ?_, ?_, ?_, ?_, ?_, ?_⟩, ?_⟩
  · rw [st]
    rcases may.1 with q | q | q
    · exact .inl q.symm
    · exact .inr (.inl q)
    · exact .inr (.inr q)
  · rw [st, wy]
    intro q
    rcases may.2 q with z | z
    · exact .inl z.symm
    · exact .inr z
  · rw [st]; exact dl
  · -- a client opens
    intro n3 i3 hc
    rw [st] at n3
    rw [p.cl] at hc
    rcases how with ⟨_, _, z⟩ | ⟨j, y, s1, _, _, epr, hy, ypr, ycl, mir, mx, _, _, _⟩ | ⟨_, _, _, _, z⟩
    · exact absurd (z i3) n3
    · obtain ⟨Ep, hEp, _⟩ := hn.peer (g := g2) (g2 := g2) hy (hpl j epr)
      obtain ⟨gp, xp, pp⟩ := (hn.end_ j Ep y hEp hy).pre
      have m1 := mir.rh
      have m2 := mir.rh2
      refine ⟨j, Ep, ⟨hEp, ⟨by rw [pp.h, p.rh]; omega, by rw [pp.lp, p.rp, mir.rp], by rw [pp.rh, p.h]; exact m2, by rw [pp.rp, p.lp, mir.lp], by rw [pp.cl]; exact ycl⟩, fun k F hF hk hh => ?_⟩, ?_, pe2 epr⟩
      · obtain ⟨z, hz, pz⟩ := hn.at hF
        obtain ⟨gz, xz, qz⟩ := pz.pre
        have := mx k z hz ⟨by have := hh.1; rw [qz.h, p.rh] at this; omega, by have := hh.2.1; rw [qz.lp, p.rp] at this; rw [this, mir.rp], by have := hh.2.2.1; rw [qz.rh, p.h] at this; omega, by have := hh.2.2.2.1; rw [qz.rp, p.lp] at this; rw [this, mir.lp]⟩
        omega
      · rw [pp.pe, pp.pk ycl, ypr]; rfl
    · rw [hc] at z; cases z
  · -- a child opens
    intro n3 i3 hc
    rw [st] at n3
    rw [p.cl] at hc
    obtain ⟨j, y, hy, pr, oo, _⟩ := lv.s3 (.inl i3)
    have es : Est y g2 j i := by
      rcases pr with ⟨z, _⟩ | ⟨_, es⟩
      · rw [hc] at z; cases z
      · exact es
    have e1 : E.peer = peerI g2.pr := by rw [p.pe, p.pk hc]
    obtain ⟨Ep, hEp, _⟩ := hn.peer (g := g2) (g2 := g2) hy (hpl j es.pr2)
    refine ⟨j, Ep, by rw [e1]; exact pe2 es.pr2, hEp, ?_, e1.symm⟩
    rcases hn.end_ j Ep y hEp hy with ⟨gp, xp, pp, _, _, e2, _⟩ | ⟨gp, xp, pp, _, _, _, e2, _⟩ | ⟨gp, xp, pp, _, _, _, how2, _⟩
    · rw [pp.pe, ← e2, es.pr]; rfl
    · rw [pp.pe, ← e2, es.pr]; rfl
    · rcases how2 with ⟨e2, _⟩ | ⟨j2, y2, z1, z2, _, e3, hy2, e4, e5, _, _, _, _, e6⟩ | ⟨_, _, _, e2, z⟩
      · rw [pp.pe, ← e2, es.pr]; rfl
      · -- the client opens in the same step: but then its child is not yet open
        exfalso
        rw [es.pr] at e3
        cases e3
        rw [hg] at hy2
        cases hy2
        obtain ⟨_, _, _, _, _, o, ho⟩ := lv.s3 (.inl i3)
        rw [ho] at e6
        cases e6
      · have := es.cl
        rw [z] at this
        cases this
  · rintro (q | q)
    · rw [p.pe]
      rw [st] at q
      rcases how with ⟨e, _, _⟩ | ⟨_, _, z, _⟩ | ⟨z, _⟩
      · rw [e]
      · omega
      · omega
    · rw [p.pe]
      rcases how with ⟨e, _, _⟩ | ⟨_, _, _, z, _⟩ | ⟨_, z, _⟩
      · rw [e]
      · exact absurd z q
      · exact absurd z q
  · intro q
    rw [wasN]
    have := hrdy q
    cases h1 : rdy with
    | true => rw [this.1 h1]
    | false =>
      cases h2 : g2.ot.isSome with
      | false => rfl
      | true => rw [this.2 h2] at h1; cases h1
  · rw [em]
    intro q
    obtain ⟨j, y, h1, h2, h3⟩ := mj q
    obtain ⟨Ep, hEp, hS, _⟩ := hn.peer (g := g2) (g2 := g2) h2 (hpl j h1)
    exact ⟨j, Ep, pe2 h1, hEp, by rw [hS]; exact h3⟩
  · rw [em]
    intro hpf _
    have o3 : (X i).st = 3 ∨ ((X i).st = 4 ∧ (X i).why = 0) := by
      apply Classical.byContradiction
      intro o3
      have : (X i).pf = false := by
        by_cases c4 : (X i).st = 4
        · exact (fail_A lv.ok c4 (fun q => o3 (.inr ⟨c4, q⟩))).2
        · exact (open_A lv (st12 hst hnz c4 (fun q => o3 (.inl q)))).2
      rw [hpf] at this
      cases this
    obtain ⟨j, y, hy, pr, oo, _⟩ := lv.s3 o3
    have hpr : g2.pr = some j := by
      rcases pr with ⟨_, es⟩ | ⟨_, es⟩
      · exact es.pr
      · exact es.pr2
    have dd : Dir y g2 := by
      rcases pr with ⟨_, es⟩ | ⟨_, es⟩
      · exact es.d2
      · exact es.d1
    obtain ⟨f1, f2⟩ := dd.pf (by rw [← oo.pf]; exact hpf)
    obtain ⟨Ep, hEp, hS, hclo⟩ := hn.peer (g := g2) (g2 := g2) hy (hpl j hpr)
    refine ⟨j, Ep, pe2 hpr, hEp, hclo (dd.fs f1).2, ?_⟩
    rw [hS]
    have hA := congrArg List.length oo.A
    rw [List.length_append, List.length_take, f2] at hA
    have hle : m ≤ (y.S.length : Int) := by
      by_cases q : 0 < m
      · obtain ⟨j2, y2, h1, h2, h3⟩ := mj q
        rw [hpr] at h1
        cases h1
        rw [hy] at h2
        cases h2
        exact h3
      · omega
    omega
  · refine ⟨p.h, p.sd, p.lp, p.rh, p.rp, p.cl, p.S, p.R, p.clo1, p.clo2, rfl, fun _ => rfl, fun _ => ⟨rfl, rfl⟩, fun q => (by rw [hl] at q; cases q), wasN, by show E.gone = _; rw [p.gone, ga, hl], ?_, ?_, ?_, ?_, fun _ q => (by show (E.pf || (X i).pf) = true; rw [q, Bool.or_true]), fun _ q3 => ?_, fun _ q3 => ?_, fun _ q4 qw => ?_, fun q => (by rw [hl] at q; cases q), fun q => (by rw [hl] at q; cases q)⟩
    · show 0 ≤ offN E (X i); rw [em]; exact m0
    · show _ ≤ offN E (X i); rw [em]; exact mR
    · intro _; show _ ≤ offN E (X i); rw [em]; exact mA
    · show 0 < offN E (X i) → ∃ (j : Nat) (y : GE), g2.pr = some j ∧ G[j]? = some y ∧ offN E (X i) ≤ (y.S.length : Int); rw [em]; exact mj
    · have key : (E.pf = true → (X i).pf = true) ∧ E.off ≤ (g2.R.length : Int) + ((X i).B.A.length : Int) := by
        have x12 : x.st = 3 ∨ x.st = 1 ∨ x.st = 2 := by
          rcases may.1 with z | ⟨z, _⟩ | ⟨z, _⟩
          · exact .inl (by rw [← z]; exact q3)
          · exact .inr z
          · exact .inl z
        rcases x12 with z | z
        · obtain ⟨a1, a2⟩ := p.pf2 ga z
          obtain ⟨b1, b2⟩ := mono z q3
          exact ⟨fun q => b1 (a1 q), by omega⟩
        · obtain ⟨a1, a2⟩ := p.pf3 ga z
          exact ⟨fun q => (by rw [a1] at q; cases q), by omega⟩
      refine ⟨fun q => ?_, ?_⟩
      · have q' : (E.pf || (X i).pf) = true := q
        cases e : (X i).pf with
        | true => rfl
        | false =>
          rw [e, Bool.or_false] at q'
          rw [← e]
          exact key.1 q'
      · show offN E (X i) ≤ _
        unfold offN
        rw [p.R]
        have := key.2
        split <;> omega
    · have x12 : x.st = 1 ∨ x.st = 2 := by
        rcases may.1 with z | ⟨_, z⟩ | ⟨_, z⟩ <;> omega
      obtain ⟨a1, a2⟩ := p.pf3 ga x12
      obtain ⟨b1, b2⟩ := open_A lv q3
      refine ⟨by show (E.pf || (X i).pf) = false; rw [a1, b2]; rfl, ?_⟩
      show offN E (X i) = 0
      unfold offN
      rw [b1]
      have := p.offR
      simp
      omega
    · obtain ⟨j, y, hy, pr, oo, _⟩ := lv.s3 (.inr ⟨q4, qw⟩)
      obtain ⟨_, _, k1, k2, _⟩ := lv.ok.good q4 qw
      have dd : Dir y g2 := by
        rcases pr with ⟨_, es⟩ | ⟨_, es⟩
        · exact es.d2
        · exact es.d1
      refine ⟨by rw [← oo.fa]; exact k1, by rw [← oo.pf]; exact k2, by show (E.pf || (X i).pf) = true; rw [k2, Bool.or_true], ?_⟩
      show _ ≤ offN E (X i)
      rw [em]
      have hA := congrArg List.length oo.A
      rw [List.length_append, List.length_take] at hA
      have := dd.rc
      have := dd.un
      omega
end
end Go.Proofs.Qxb6500424aGreat
