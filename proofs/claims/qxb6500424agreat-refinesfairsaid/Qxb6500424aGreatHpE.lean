/-
  host: the plain law of the network: a row whose connection is open moves on.
-/
import Derived.Test.Qxb6500424aGreatHpD
set_option linter.unusedVariables false
set_option linter.unusedSimpArgs false
namespace Go.Proofs.Qxb6500424aGreat
def stampE (T : Int) (g : GE) (i : Nat) (s : SegV) : LE := ⟨T, g.h, g.rh, ({ s.1 with sp := g.lp, dp := g.rp }, s.2), i⟩
/-- What has gone out of what an end wanted to send. -/
def Out (T : Int) (g : GE) (i : Nat) (L : List SegV) (N : List LE) : Prop := ∀ e ∈ N, ∃ s ∈ L, e = stampE T g i s
section
variable {T dp : Int} {tk tk' : Nat → Bool} {G : List GE} {X : Nat → CS} {Lg N : List LE} {i j : Nat} {g y g' : GE} {x x' : CS} {L : List SegV}
theorem tau_ge (T : Int) (tk : Nat → Bool) (k : Nat) : T - 1 ≤ tau T tk k ∧ tau T tk k ≤ T := by unfold tau; split <;> omega
theorem stamp_from (T : Int) (g : GE) (i : Nat) (s : SegV) : From g (stampE T g i s) := ⟨rfl, rfl, rfl, rfl⟩
theorem AS.inv {s : SegV} (h : AS g' y s) (hi : G[i]? = some g') (hj : G[j]? = some y) (hp : Pair i j g' y) (htk : tk' i = true) (hq : NotB g' T ∨ (NotB y (T - 4) ∧ s.1.fl = 2 ∧ s.2 = [])) : SegInv (tau T tk') G (stampE T g' i s) := by
  obtain ⟨o, a, k⟩ := h
  have ti : tau T tk' i = T := by unfold tau; rw [if_pos htk]
  have tj := tau_ge T tk' j
  refine .inr (.inr (.inr ⟨g', y, j, o, a, k.fl, hi, stamp_from _ _ _ _, hj, hp, k.sq, k.ak, fun hd => ?_, k.fin, k.rc, ?_, ?_, k.len, k.isB⟩))
  · obtain ⟨d1, d2, d3⟩ := k.dat hd
    refine ⟨d1, d2, ?_, ?_⟩
    · show g'.pot ≤ (o : Int) + 41 + 12 * (tau T tk' i - T)
      rw [ti]; omega
    · rcases hq with q | ⟨_, q2, q3⟩
      · exact q
      · exfalso
        rcases hd with z | z
        · have z' : 0 < s.2.length := z
          rw [q3] at z'
          simp at z'
        · have z' : s.1.fl = 6 := z
          rw [q2] at z'
          cases z'
  · show y.pot ≤ (a : Int) + 41 + 12 * (tau T tk' j - T)
    have := k.pot
    omega
  · rcases hq with q | q
    · exact .inl q
    · exact .inr q.1
theorem Out.inv (ho : Out T g i L N) (hs : ∀ s ∈ L, SegInv (tau T tk') G (stampE T g i s)) : ∀ e ∈ N, e.t = T ∧ SegInv (tau T tk') G e := fun e he => by
  obtain ⟨s, hs', rfl⟩ := ho e he
  exact ⟨rfl, hs s hs'⟩
/-- The fields by which an end is told stay. -/
theorem stampE_same (h1 : g'.h = g.h) (h2 : g'.lp = g.lp) (h3 : g'.rp = g.rp) (h4 : g'.rh = g.rh) (s : SegV) : stampE T g i s = stampE T g' i s := by unfold stampE; rw [h1, h2, h3, h4]
theorem Pair.dir (h : Pair i j g y) : Dir g y ∧ Dir y g := by
  rcases h with ⟨_, e⟩ | ⟨_, e⟩
  · exact ⟨e.d1, e.d2⟩
  · exact ⟨e.d2, e.d1⟩
theorem Pair.uniq {j2 : Nat} {y2 : GE} (h : Pair i j g y) (h2 : Pair i j2 g y2) : j2 = j := by
  rcases h with ⟨c, e⟩ | ⟨c, e⟩ <;> rcases h2 with ⟨c2, e2⟩ | ⟨c2, e2⟩
  · have a := e.pr; have b := e2.pr; rw [a] at b; cases b; rfl
  · rw [c] at c2; cases c2
  · rw [c] at c2; cases c2
  · have a := e.pr2; have b := e2.pr2; rw [a] at b; cases b; rfl
theorem iss_bd (h : TimeOk T g) : 0 ≤ g.iss ∧ g.iss < 256 := by have := h.iss; omega
/-- An open row and its peer. -/
theorem Inv.cn (h : Inv T tk G X Lg) (hi : G[i]? = some g) (hl : g.gone = false) (h3 : (X i).st = 3) : ∃ j y, G[j]? = some y ∧ Pair i j g y ∧ Cn g y (X i) ∧ ∃ o, g.ot = some o := by
  have lv := h.live i g hi hl
  obtain ⟨j, y, hj, hp, oo, ho⟩ := lv.s3 (.inl h3)
  exact ⟨j, y, hj, hp, ⟨lv.ok.toCsW, h3, oo, hp.dir.1, hp.dir.2, iss_bd (h.ends.time i g hi), iss_bd (h.ends.time j y hj)⟩, ho⟩
/-- After a stroke the row is open (it was, or has just become so), or has just ended well. -/
theorem Inv.openStep {p o1 : Int} (h : Inv T tk G X Lg) (hi : G[i]? = some g) (hl : g.gone = false) (het : g.et = none) (hb : g.ot = some o1 ∨ (g.ot = none ∧ o1 = T)) (hj : G[j]? = some y) (hp : Pair i j g y) (hpp : p ≤ g.pot + dp) (hdp : dp = 12 * (tau T tk' i - tau T tk i)) (htk : ∀ k, k ≠ i → tk' k = tk k) (hti : tk' i = true)
    (cn : Cn g' y x) (mv : Mv { g with pot := p, ot := some o1 } g') (seg : ∀ s ∈ L, AS g' y s) (hx' : (x' = x ∧ CsOk x) ∨ (x' = { x with st := 4, qt := 10, tm := 0, rt := 0, cr := 0, pw := 0 } ∧ CsOk x' ∧ x.why = 0)) (ho : Out T g i L N) :
    ∃ g2, Inv T tk' (G.set i g2) (updX X i x') (Lg ++ N) ∧ g2 = { g' with et := g2.et } := by
  have htm := h.ends.time i g hi
  have e' := mv.eq
  have het' : g'.et = none := by rw [e']; exact het
  have hot' : g'.ot = some o1 := by rw [e']
  have hgn' : g'.gone = false := by rw [e']; exact hl
  have hji : j ≠ i := fun q => hp.ne hi hj q.symm
  let t2 : Option Int := if x'.st = 4 then some T else none
  let g2 : GE := { g' with et := t2 }
  have hx3 : x.st = 3 := cn.st
  have t2n : NotB g2 T := fun e he => by
    have he' : t2 = some e := he
    by_cases c : x'.st = 4
    · rw [show t2 = some T from if_pos c] at he'; cases he'; omega
    · rw [show t2 = none from if_neg c] at he'; cases he'
  have hpr' : g'.pr = g.pr := by rw [e']
  have ev : Evo T dp g g2 := by
    refine ⟨by show g'.h = _; rw [e'], by show g'.sd = _; rw [e'], by show g'.lp = _; rw [e'], by show g'.rh = _; rw [e'], by show g'.rp = _; rw [e'], by show g'.cl = _; rw [e'], by show g'.iss = _; rw [e'], by show g'.bt = _; rw [e'], fun k hk => by show g'.pr = _; rw [hpr']; exact hk, mv.S, mv.nx, mv.rc, mv.fs, fun e he => (by rw [het] at he; cases he), fun _ e he => t2n e he, fun o ho => ?_, fun hn o ho => ?_, by show g'.pot ≤ _; rw [mv.pot]; exact hpp, hl⟩
    · show g'.ot = some o
      rw [hot']
      rcases hb with q | q
      · rw [q] at ho; exact ho
      · rw [q.1] at ho; cases ho
    · have ho' : g'.ot = some o := ho
      rw [hot'] at ho'
      cases ho'
      rcases hb with q | q
      · rw [hn] at q; cases q
      · omega
  have dd1 : Dir g2 y := ⟨cn.d1.un, cn.d1.fs, cn.d1.fa, cn.d1.rc, cn.d1.pf, cn.d1.pot⟩
  have dd2 : Dir y g2 := ⟨cn.d2.un, cn.d2.fs, cn.d2.fa, cn.d2.rc, cn.d2.pf, cn.d2.pot⟩
  have hpr : g2.pr = g.pr := hpr'
  have hpair2 : Pair i j g2 y := by
    rcases hp with ⟨c, es⟩ | ⟨c, es⟩
    · obtain ⟨o, ho, h1, h2⟩ := es.ot
      exact .inl ⟨by rw [ev.cl]; exact c, ⟨by rw [ev.cl]; exact es.cl, es.cl2, by rw [hpr]; exact es.pr, es.pr2, ev.mir es.mir, dd1, dd2, o, ev.ot o ho, h1, h2⟩⟩
    · obtain ⟨o, ho, h1, h2⟩ := es.ot
      have := (h.ends.time j y hj).ot o ho
      exact .inr ⟨by rw [ev.cl]; exact c, ⟨es.cl, by rw [ev.cl]; exact es.cl2, es.pr, by rw [hpr]; exact es.pr2, ev.mir2 es.mir, dd2, dd1, o, ho, by rw [ev.bt]; exact h1, ev.notB h2 (by omega)⟩⟩
  have hj' : (G.set i g2)[j]? = some y := by rw [set_ne hji]; exact hj
  have ti : tau T tk' i = T := by unfold tau; rw [if_pos hti]
  refine ⟨g2, h.step (dp := dp) hi ev hdp htk ⟨by rw [ev.bt]; exact htm.bt, by rw [ev.iss, ev.bt]; exact htm.iss, fun e he => ?_, fun o ho => ?_, fun q => ?_⟩ (fun q => ?_) (fun _ => ?_) (fun k z hz hpz => ?_) (.inl hpr) (fun c o ho => ?_) (fun c hn o ho => ?_) (ho.inv fun s hs => ?_), rfl⟩
  · have := t2n e he
    have b := htm.bt
    have he' : t2 = some e := he
    have : e = T := by
      by_cases c : x'.st = 4
      · rw [show t2 = some T from if_pos c] at he'; cases he'; rfl
      · rw [show t2 = none from if_neg c] at he'; cases he'
    rw [ev.bt]
    omega
  · have ho' : g'.ot = some o := ho
    rw [hot'] at ho'
    cases ho'
    rcases hb with q | ⟨q1, q2⟩
    · have := htm.ot o1 q
      exact ⟨by rw [ev.bt]; exact this.1, this.2.1, ev.notB this.2.2 this.2.1⟩
    · have := htm.bt
      exact ⟨by rw [ev.bt]; omega, by omega, by rw [q2]; exact t2n⟩
  · have q' : g'.gone = true := q
    rw [hgn'] at q'
    cases q'
  · have q' : g'.ot = none := q
    rw [hot'] at q'
    cases q'
  · -- the row
    rw [ti]
    rcases hx' with ⟨rfl, hok⟩ | ⟨hxe, hok, hw⟩
    · have c4 : ¬ x'.st = 4 := by omega
      refine ⟨hok, by omega, fun q => absurd q c4, fun _ => if_neg c4, fun q => by omega, fun q => by omega, fun q => by omega, fun _ => ⟨j, y, hj', hpair2, ?_, o1, hot'⟩⟩
      exact ⟨cn.oo.una, cn.oo.D, cn.oo.sent, cn.oo.fs, cn.oo.fa, cn.oo.pf, cn.oo.wc, cn.oo.nxt, cn.oo.A, cn.oo.hv, cn.oo.cr⟩
    · have c4 : x'.st = 4 := by rw [hxe]
      refine ⟨hok, by omega, fun _ => ⟨T, if_pos c4, by rw [hxe]; show (10 : Int) ≤ 10 + (T - T); omega⟩, fun q => absurd c4 q, fun q => by omega, fun q => by omega, fun q => by omega, fun _ => ⟨j, y, hj', hpair2, ?_, o1, hot'⟩⟩
      rw [hxe]
      exact ⟨cn.oo.una, cn.oo.D, cn.oo.sent, cn.oo.fs, cn.oo.fa, cn.oo.pf, cn.oo.wc, cn.oo.nxt, cn.oo.A, cn.oo.hv, fun q => by cases q⟩
  · have ek := hp.uniq hpz
    subst ek
    rw [hj] at hz
    cases hz
    exact ⟨dd1, dd2⟩
  · rcases hp with ⟨c2, es⟩ | ⟨c2, es⟩
    · exact ⟨j, by rw [hpr]; exact es.pr⟩
    · rw [c] at c2; cases c2
  · rcases hp with ⟨c2, es⟩ | ⟨c2, es⟩
    · rw [c] at c2; cases c2
    · exact ⟨j, y, hj, es⟩
  · have es : stampE T g i s = stampE T g2 i s := stampE_same ev.h ev.lp ev.rp ev.rh s
    rw [es]
    have as2 : AS g2 y s := by
      obtain ⟨o, a, k⟩ := seg s hs
      exact ⟨o, a, k.fl, k.sq, k.ak, k.dat, k.fin, k.rc, k.pot, k.len, k.isB, k.wn⟩
    exact as2.inv (set_at hi) hj' hpair2 hti (.inl t2n)
end
end Go.Proofs.Qxb6500424aGreat
