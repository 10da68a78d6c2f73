/-
  host: the plain law of the network: blocks, segments under way; one end moves on.
-/
import Derived.Test.Qxb6500424aGreatHpA
set_option linter.unusedVariables false
set_option linter.unusedSimpArgs false
namespace Go.Proofs.Qxb6500424aGreat
structure Zero (g : GE) : Prop where
  S : g.S = []
  R : g.R = []
  n : g.ua = 0 ∧ g.nx = 0 ∧ g.rc = 0
  f : g.fs = false ∧ g.fa = false ∧ g.pf = false ∧ g.wc = false
  pot : 0 ≤ g.pot ∧ g.pot ≤ 12
def el (x : CS) : Int := 4 * 2 ^ x.rt.toNat - 2 - x.tm
/-- An open block, or one that ended well, and its end. -/
structure OpenOk (g y : GE) (x : CS) : Prop where
  una : x.S.una = (g.iss + 1 + (g.ua : Int)) % 256
  D : x.S.D = g.S.drop g.ua
  sent : g.ua + x.S.sent = g.nx
  fs : x.fs = g.fs
  fa : x.fa = g.fa
  pf : x.pf = g.pf
  wc : x.wc = g.wc
  nxt : x.B.nxt = (y.iss + 1 + (g.rc : Int)) % 256
  A : g.R ++ x.B.A = y.S.take g.rc
  hv : ∀ d v, x.B.hv d = some v → y.S[g.rc + d]? = some v ∧ g.rc + d < y.nx
  cr : x.st = 3 → g.pot = (g.nx : Int) + b2i g.fs + x.cr
structure Live (τ : Int) (G : List GE) (i : Nat) (g : GE) (x : CS) : Prop where
  ok : CsOk x
  nz : x.st ≠ 0
  e4 : x.st = 4 → ∃ e, g.et = some e ∧ 10 ≤ x.qt + (τ - e)
  ne4 : x.st ≠ 4 → g.et = none
  op : x.st = 1 ∨ x.st = 2 → x.iss = g.iss ∧ τ - g.bt = el x ∧ g.ot = none ∧ g.pot = x.cr ∧ x.wc = false
  s1 : x.st = 1 → g.cl = true
  s2 : x.st = 2 → g.cl = false ∧ ∃ p q, g.pr = some p ∧ G[p]? = some q ∧ x.B = resetR (sqAdd q.iss 1)
  s3 : x.st = 3 ∨ (x.st = 4 ∧ x.why = 0) → ∃ j y, G[j]? = some y ∧ Pair i j g y ∧ OpenOk g y x ∧ ∃ o, g.ot = some o
/-- A segment that was sent: when, by which host, whither, by which end. -/
structure LE where
  t : Int
  c : Nat
  d : Int
  s : SegV
  o : Nat
structure From (g : GE) (e : LE) : Prop where
  h : g.h = e.c
  lp : g.lp = e.s.1.sp
  rp : g.rp = e.s.1.dp
  rh : g.rh = e.d
def SegRst (e : LE) : Prop := e.s.1.fl = 8 ∨ e.s.1.fl = 10
structure SegSyn (G : List GE) (e : LE) (g : GE) : Prop where
  fl : e.s.1.fl = 1
  D : e.s.2 = []
  at_ : G[e.o]? = some g
  cl : g.cl = true
  src : From g e
  sq : e.s.1.sq = g.iss
  bt : g.bt ≤ e.t ∧ e.t ≤ g.bt + 29
  et : NotB g e.t
  ot : ∀ o, g.ot = some o → e.t ≤ o
structure SegSA (G : List GE) (e : LE) (y g : GE) (p : Nat) : Prop where
  fl : e.s.1.fl = 3
  D : e.s.2 = []
  at_ : G[e.o]? = some y
  cl : y.cl = false
  src : From y e
  pr : y.pr = some p
  ap : G[p]? = some g
  sq : e.s.1.sq = y.iss
  ak : e.s.1.ak = sqAdd g.iss 1
  bt : y.bt ≤ e.t ∧ e.t ≤ y.bt + 29
  et : NotB y e.t
structure SegA (τ : Nat → Int) (G : List GE) (e : LE) (x y : GE) (j : Nat) (o a : Nat) : Prop where
  fl : e.s.1.fl = 2 ∨ (e.s.1.fl = 6 ∧ e.s.2 = [])
  at_ : G[e.o]? = some x
  src : From x e
  aj : G[j]? = some y
  pair : Pair e.o j x y
  sq : e.s.1.sq = (x.iss + 1 + (o : Int)) % 256
  ak : e.s.1.ak = (y.iss + 1 + (a : Int)) % 256
  dat : 0 < e.s.2.length ∨ e.s.1.fl = 6 → o + e.s.2.length ≤ x.nx ∧ e.s.2 = (x.S.drop o).take e.s.2.length ∧ x.pot ≤ (o : Int) + 41 + 12 * (τ e.o - e.t) ∧ NotB x e.t
  fin : e.s.1.fl = 6 → x.fs = true ∧ o = x.nx
  rc : (a : Int) ≤ (x.rc : Int) + b2i x.pf
  pot : y.pot ≤ (a : Int) + 41 + 12 * (τ j - e.t)
  q : NotB x e.t ∨ NotB y (e.t - 4)
  len : e.s.2.length ≤ 12
  isB : IsB e.s.2
def SegInv (τ : Nat → Int) (G : List GE) (e : LE) : Prop := SegRst e ∨ (∃ g, SegSyn G e g) ∨ (∃ y g p, SegSA G e y g p) ∨ ∃ x y j o a, SegA τ G e x y j o a
def tau (T : Int) (tk : Nat → Bool) (i : Nat) : Int := if tk i = true then T else T - 1
structure Inv (T : Int) (tk : Nat → Bool) (G : List GE) (X : Nat → CS) (Lg : List LE) : Prop where
  ends : Ends T G
  zero : ∀ (i : Nat) g, G[i]? = some g → g.ot = none → Zero g
  live : ∀ (i : Nat) g, G[i]? = some g → g.gone = false → Live (tau T tk i) G i g (X i)
  seg : ∀ e ∈ Lg, T - 4 ≤ e.t → e.t ≤ T ∧ SegInv (tau T tk) G e
def updX (X : Nat → CS) (i : Nat) (x : CS) : Nat → CS := fun k => if k = i then x else X k
def updT (tk : Nat → Bool) (i : Nat) (b : Bool) : Nat → Bool := fun k => if k = i then b else tk k
/-- An end moves on. -/
structure Evo (T dp : Int) (g g' : GE) : Prop where
  h : g'.h = g.h
  sd : g'.sd = g.sd
  lp : g'.lp = g.lp
  rh : g'.rh = g.rh
  rp : g'.rp = g.rp
  cl : g'.cl = g.cl
  iss : g'.iss = g.iss
  bt : g'.bt = g.bt
  pr : ∀ j, g.pr = some j → g'.pr = some j
  S : ∃ E, g'.S = g.S ++ E
  nx : g.nx ≤ g'.nx
  rc : (g.rc : Int) + b2i g.pf ≤ (g'.rc : Int) + b2i g'.pf
  fs : g.fs = true → g'.fs = true ∧ g'.nx = g.nx
  et : ∀ e, g.et = some e → g'.et = some e
  et2 : g.et = none → ∀ e, g'.et = some e → T ≤ e
  ot : ∀ o, g.ot = some o → g'.ot = some o
  ot2 : g.ot = none → ∀ o, g'.ot = some o → T ≤ o
  pot : g'.pot ≤ g.pot + dp
  gone : g.gone = false
section
variable {T dp : Int} {tk : Nat → Bool} {G : List GE} {X : Nat → CS} {Lg : List LE} {i : Nat} {g g' : GE} {x' : CS}
theorem Evo.notB (ev : Evo T dp g g') {t : Int} (h : NotB g t) (ht : t ≤ T) : NotB g' t := by
  intro e he
  cases hg : g.et with
  | none => have := ev.et2 hg e he; omega
  | some e0 =>
    have := ev.et e0 hg
    rw [he] at this
    cases this
    exact h e hg
theorem Evo.mir {y : GE} (ev : Evo T dp g g') (h : Mirror g y) : Mirror g' y := by
  have e1 := ev.h; have e2 := ev.lp; have e3 := ev.rh; have e4 := ev.rp
  exact ⟨by rw [e3]; exact h.rh, by rw [e1]; exact h.rh2, by rw [e2]; exact h.lp, by rw [e4]; exact h.rp⟩
theorem Evo.mir2 {y : GE} (ev : Evo T dp g g') (h : Mirror y g) : Mirror y g' := (ev.mir h.symm).symm
theorem Evo.src {e : LE} (ev : Evo T dp g g') (h : From g e) : From g' e := ⟨by rw [ev.h]; exact h.h, by rw [ev.lp]; exact h.lp, by rw [ev.rp]; exact h.rp, by rw [ev.rh]; exact h.rh⟩
theorem set_cases {k : Nat} {y : GE} (hi : G[i]? = some g) (h : (G.set i g')[k]? = some y) : (k = i ∧ y = g') ∨ (k ≠ i ∧ G[k]? = some y) := by
  by_cases q : k = i
  · subst q
    rw [List.getElem?_set_self (List.getElem?_eq_some_iff.1 hi).1] at h
    cases h
    exact .inl ⟨rfl, rfl⟩
  · rw [List.getElem?_set_ne (fun q' => q q'.symm)] at h
    exact .inr ⟨q, h⟩
theorem set_at (hi : G[i]? = some g) : (G.set i g')[i]? = some g' := List.getElem?_set_self (List.getElem?_eq_some_iff.1 hi).1
theorem set_ne {k : Nat} (h : k ≠ i) : (G.set i g')[k]? = G[k]? := List.getElem?_set_ne (fun q => h q.symm)
/-- Whoever was found is found again, moved on or as it was. -/
theorem set_find {k : Nat} {y : GE} (hi : G[i]? = some g) (hy : G[k]? = some y) : ∃ y', (G.set i g')[k]? = some y' ∧ ((k = i ∧ y = g ∧ y' = g') ∨ (k ≠ i ∧ y' = y)) := by
  by_cases q : k = i
  · subst q
    rw [hi] at hy
    cases hy
    exact ⟨g', set_at hi, .inl ⟨rfl, rfl, rfl⟩⟩
  · exact ⟨y, by rw [set_ne q]; exact hy, .inr ⟨q, rfl⟩⟩
theorem Pair.ne {i j : Nat} {x y : GE} (h : Pair i j x y) (hx : G[i]? = some x) (hy : G[j]? = some y) : i ≠ j := by
  rintro rfl
  rw [hx] at hy
  cases hy
  rcases h with ⟨c, e⟩ | ⟨c, e⟩
  · have := e.cl2; rw [c] at this; cases this
  · have := e.cl; rw [c] at this; cases this
theorem take_grow {S E : List Int} {n : Nat} (h : n ≤ S.length) : (S ++ E).take n = S.take n := List.take_append_of_le_length h
theorem drop_grow {S E : List Int} {o n : Nat} (h : o + n ≤ S.length) : ((S ++ E).drop o).take n = (S.drop o).take n := by
  rw [List.drop_append_of_le_length (by omega), List.take_append_of_le_length (by simp; omega)]
theorem get_grow {S E : List Int} {k : Nat} {v : Int} (h : S[k]? = some v) : (S ++ E)[k]? = some v := by
  rw [List.getElem?_append_left (List.getElem?_eq_some_iff.1 h).1]
  exact h
theorem Inv.step {tk' : Nat → Bool} {N : List LE} (h : Inv T tk G X Lg) (hi : G[i]? = some g) (ev : Evo T dp g g') (hdp : dp = 12 * (tau T tk' i - tau T tk i)) (htk : ∀ k, k ≠ i → tk' k = tk k)
    (ht : TimeOk T g') (hz : g'.ot = none → Zero g') (hlv : g'.gone = false → Live (tau T tk' i) (G.set i g') i g' x')
    (hpair : ∀ j y, G[j]? = some y → Pair i j g y → Dir g' y ∧ Dir y g')
    (hnew : g'.pr = g.pr ∨ (g.cl = true ∧ g.pr = none ∧ ∃ j y, g'.pr = some j ∧ G[j]? = some y ∧ Est g' y i j))
    (hot : g.cl = true → ∀ o, g'.ot = some o → ∃ j, g'.pr = some j)
    (hkot : g.cl = false → g.ot = none → ∀ o, g'.ot = some o → ∃ p q, G[p]? = some q ∧ Est q g p i)
    (hN : ∀ e ∈ N, e.t = T ∧ SegInv (tau T tk') (G.set i g') e) : Inv T tk' (G.set i g') (updX X i x') (Lg ++ N) := by
  have hE := h.ends
  have ttk : ∀ k, k ≠ i → tau T tk' k = tau T tk k := fun k hk => by unfold tau; rw [htk k hk]
  obtain ⟨E, hS⟩ := ev.S
  -- an end and the one that moves on
  have E1 : ∀ {k : Nat} {y : GE}, G[k]? = some y → Est y g k i → Est y g' k i := fun {k y} hy es => by
    have dd := hpair k y hy (.inr ⟨es.cl2, es⟩)
    obtain ⟨o, ho, h1, h2⟩ := es.ot
    have := (hE.time k y hy).ot o ho
    exact ⟨es.cl, by rw [ev.cl]; exact es.cl2, es.pr, ev.pr _ es.pr2, ev.mir2 es.mir, dd.2, dd.1, o, ho, by rw [ev.bt]; exact h1, ev.notB h2 (by omega)⟩
  have E2 : ∀ {k : Nat} {y : GE}, G[k]? = some y → Est g y i k → Est g' y i k := fun {k y} hy es => by
    have dd := hpair k y hy (.inl ⟨es.cl, es⟩)
    obtain ⟨o, ho, h1, h2⟩ := es.ot
    exact ⟨by rw [ev.cl]; exact es.cl, es.cl2, ev.pr _ es.pr, es.pr2, ev.mir es.mir, dd.1, dd.2, o, ev.ot o ho, h1, h2⟩
  have P1 : ∀ {k : Nat} {y : GE}, G[k]? = some y → Pair k i y g → Pair k i y g' := fun {k y} hy hp => by
    rcases hp with ⟨c, es⟩ | ⟨c, es⟩
    · exact .inl ⟨c, E1 hy es⟩
    · exact .inr ⟨c, E2 hy es⟩
  have P2 : ∀ {k : Nat} {y : GE}, G[k]? = some y → Pair i k g y → Pair i k g' y := fun {k y} hy hp => by
    rcases hp with ⟨c, es⟩ | ⟨c, es⟩
    · exact .inl ⟨by rw [ev.cl]; exact c, E2 hy es⟩
    · exact .inr ⟨by rw [ev.cl]; exact c, E1 hy es⟩
  refine ⟨⟨fun k y hy => ?_, fun k y hy hc => ?_, fun k x hx hc j hj => ?_, fun k x hx hc o ho => ?_, fun k y hy hc o ho => ?_, fun a b x y hab hx hy hs => ?_, fun k y hy => ?_⟩, fun k y hy ho => ?_, fun k y hy hg => ?_, fun e he ha => ?_⟩
  · rcases set_cases hi hy with ⟨q, rfl⟩ | ⟨q, hy'⟩
    · exact ht
    · exact hE.time k y hy'
  · rcases set_cases hi hy with ⟨q, rfl⟩ | ⟨q, hy'⟩
    · rw [ev.cl] at hc
      obtain ⟨p, q0, hq0, kd⟩ := hE.kid i g hi hc
      have hp : p ≠ i := fun e => by
        subst e
        rw [hi] at hq0
        cases hq0
        have := kd.cl2
        rw [hc] at this
        cases this
      exact ⟨p, q0, by rw [set_ne hp]; exact hq0, by rw [ev.cl]; exact hc, kd.cl2, ev.pr _ kd.pr, ev.mir2 kd.mir, by rw [ev.bt]; exact kd.bt, by rw [ev.bt]; exact kd.et, by rw [ev.bt]; exact kd.ot⟩
    · obtain ⟨p, q0, hq0, kd⟩ := hE.kid k y hy' hc
      have ytm := hE.time k y hy'
      obtain ⟨q1, hq1, ⟨e1, e2, e3⟩ | ⟨e1, e2⟩⟩ := set_find (g' := g') hi hq0
      · subst e1 e2 e3
        refine ⟨p, q1, hq1, kd.cl, by rw [ev.cl]; exact kd.cl2, kd.pr, ev.mir kd.mir, by rw [ev.bt]; exact kd.bt, ev.notB kd.et (by have := ytm.bt; omega), fun o ho => ?_⟩
        cases hg : q0.ot with
        | none => have := ev.ot2 hg o ho; have := ytm.bt; omega
        | some o0 =>
          have := ev.ot o0 hg
          rw [ho] at this
          cases this
          exact kd.ot o hg
      · subst e2
        exact ⟨p, q1, hq1, kd⟩
  · rcases set_cases hi hx with ⟨q, rfl⟩ | ⟨q, hx'⟩
    · subst q
      rw [ev.cl] at hc
      rcases hnew with e | ⟨c, n, j', y, hj', hy, es⟩
      · rw [e] at hj
        obtain ⟨y, hy, es⟩ := hE.est k g hi hc j hj
        have hne : j ≠ k := fun q => Pair.ne (.inl ⟨hc, es⟩) hi hy q.symm
        exact ⟨y, by rw [set_ne hne]; exact hy, E2 hy es⟩
      · rw [hj'] at hj
        cases hj
        have hne : j ≠ k := fun q => by
          subst q
          rw [hi] at hy
          cases hy
          have := es.cl2
          rw [c] at this
          cases this
        exact ⟨y, by rw [set_ne hne]; exact hy, es⟩
    · obtain ⟨y, hy, es⟩ := hE.est k x hx' hc j hj
      obtain ⟨y1, hy1, ⟨e1, e2, e3⟩ | ⟨e1, e2⟩⟩ := set_find (g' := g') hi hy
      · subst e1 e2 e3
        exact ⟨y1, hy1, E1 hx' es⟩
      · subst e2
        exact ⟨y1, hy1, es⟩
  · rcases set_cases hi hx with ⟨q, rfl⟩ | ⟨q, hx'⟩
    · rw [ev.cl] at hc
      exact hot hc o ho
    · exact hE.ot k x hx' hc o ho
  · rcases set_cases hi hy with ⟨q, rfl⟩ | ⟨q, hy'⟩
    · subst q
      rw [ev.cl] at hc
      have old : ∃ p q, G[p]? = some q ∧ Est q g p k := by
        cases hg : g.ot with
        | none => exact hkot hc hg o ho
        | some o0 => exact hE.kot k g hi hc o0 hg
      obtain ⟨p, q0, hq0, es⟩ := old
      have hp : p ≠ k := fun e => by
        subst e
        rw [hi] at hq0
        cases hq0
        have := es.cl
        rw [hc] at this
        cases this
      exact ⟨p, q0, by rw [set_ne hp]; exact hq0, E1 hq0 es⟩
    · obtain ⟨p, q0, hq0, es⟩ := hE.kot k y hy' hc o ho
      obtain ⟨q1, hq1, ⟨e1, e2, e3⟩ | ⟨e1, e2⟩⟩ := set_find (g' := g') hi hq0
      · subst e1 e2 e3
        exact ⟨p, q1, hq1, E2 hy' es⟩
      · subst e2
        exact ⟨p, q1, hq1, es⟩
  · rcases set_cases hi hx with ⟨q, rfl⟩ | ⟨q, hx'⟩
    · rcases set_cases hi hy with ⟨q', rfl⟩ | ⟨q', hy'⟩
      · omega
      · subst q
        have := (hE.two a b g y hab hi hy' ⟨by rw [← ev.h]; exact hs.h, by rw [← ev.lp]; exact hs.lp, by rw [← ev.rh]; exact hs.rh, by rw [← ev.rp]; exact hs.rp⟩).1
        rw [ev.gone] at this
        cases this
    · rcases set_cases hi hy with ⟨q', rfl⟩ | ⟨q', hy'⟩
      · subst q'
        have := hE.two a b x g hab hx' hi ⟨by rw [← ev.h]; exact hs.h, by rw [← ev.lp]; exact hs.lp, by rw [← ev.rh]; exact hs.rh, by rw [← ev.rp]; exact hs.rp⟩
        rw [ev.bt]
        exact this
      · exact hE.two a b x y hab hx' hy' hs
  · rcases set_cases hi hy with ⟨q, rfl⟩ | ⟨q, hy'⟩
    · rw [ev.cl, ev.lp]; exact hE.roles i g hi
    · exact hE.roles k y hy'
  · rcases set_cases hi hy with ⟨q, rfl⟩ | ⟨q, hy'⟩
    · exact hz ho
    · exact h.zero k y hy' ho
  · rcases set_cases hi hy with ⟨q, rfl⟩ | ⟨q, hy'⟩
    · subst q
      have e : updX X k x' k = x' := by simp [updX]
      rw [e]
      exact hlv hg
    · have e : updX X i x' k = X k := by simp [updX, q]
      rw [e, ttk k q]
      have lv := h.live k y hy' hg
      refine ⟨lv.ok, lv.nz, lv.e4, lv.ne4, lv.op, lv.s1, fun h2 => ?_, fun h3 => ?_⟩
      · obtain ⟨c, p, q0, hp, hq0, hB⟩ := lv.s2 h2
        obtain ⟨q1, hq1, ⟨e1, e2, e3⟩ | ⟨e1, e2⟩⟩ := set_find (g' := g') hi hq0
        · subst e1 e2 e3
          exact ⟨c, p, q1, hp, hq1, by rw [ev.iss]; exact hB⟩
        · subst e2
          exact ⟨c, p, q1, hp, hq1, hB⟩
      · obtain ⟨j, z, hzz, hp, oo, ho⟩ := lv.s3 h3
        obtain ⟨z1, hz1, ⟨e1, e2, e3⟩ | ⟨e1, e2⟩⟩ := set_find (g' := g') hi hzz
        · subst e1 e2 e3
          have dd : Dir z y := by
            rcases hp with ⟨_, es⟩ | ⟨_, es⟩
            · exact es.d2
            · exact es.d1
          have hrc := dd.rc
          have hun := dd.un
          refine ⟨j, z1, hz1, P1 hy' hp, ⟨oo.una, oo.D, oo.sent, oo.fs, oo.fa, oo.pf, oo.wc, by rw [ev.iss]; exact oo.nxt, by rw [hS, take_grow (by omega)]; exact oo.A, fun d v hv => ?_, oo.cr⟩, ho⟩
          have := oo.hv d v hv
          rw [hS]
          exact ⟨get_grow this.1, by have := ev.nx; omega⟩
        · subst e2
          exact ⟨j, z1, hz1, hp, oo, ho⟩
  · rcases List.mem_append.1 he with hm | hm
    rotate_left
    · have := hN e hm
      exact ⟨by omega, this.2⟩
    obtain ⟨tle, inv⟩ := h.seg e hm ha
    refine ⟨tle, ?_⟩
    rcases inv with s | ⟨y, s⟩ | ⟨y, q0, p, s⟩ | ⟨x, y, j, o, a, s⟩
    · exact .inl s
    · obtain ⟨y1, hy1, ⟨e1, e2, e3⟩ | ⟨e1, e2⟩⟩ := set_find (g' := g') hi s.at_
      · subst e2 e3
        refine .inr (.inl ⟨y1, s.fl, s.D, hy1, by rw [ev.cl]; exact s.cl, ev.src s.src, by rw [ev.iss]; exact s.sq, by rw [ev.bt]; exact s.bt, ev.notB s.et tle, fun o ho => ?_⟩)
        cases hg : y.ot with
        | none => have := ev.ot2 hg o ho; omega
        | some o0 =>
          have := ev.ot o0 hg
          rw [ho] at this
          cases this
          exact s.ot o hg
      · subst e2
        exact .inr (.inl ⟨y1, s.fl, s.D, hy1, s.cl, s.src, s.sq, s.bt, s.et, s.ot⟩)
    · obtain ⟨y1, hy1, c1⟩ := set_find (g' := g') hi s.at_
      obtain ⟨q1, hq1, c2⟩ := set_find (g' := g') hi s.ap
      have hiss : q1.iss = q0.iss := by
        rcases c2 with ⟨_, e2, e3⟩ | ⟨_, e2⟩
        · rw [e2, e3, ev.iss]
        · rw [e2]
      refine .inr (.inr (.inl ⟨y1, q1, p, s.fl, s.D, hy1, ?_, ?_, ?_, hq1, ?_, by rw [hiss]; exact s.ak, ?_, ?_⟩))
      all_goals rcases c1 with ⟨_, e2, e3⟩ | ⟨_, e2⟩
      · subst e2 e3; rw [ev.cl]; exact s.cl
      · rw [e2]; exact s.cl
      · subst e2 e3; exact ev.src s.src
      · rw [e2]; exact s.src
      · subst e2 e3; exact ev.pr _ s.pr
      · rw [e2]; exact s.pr
      · subst e2 e3; rw [ev.iss]; exact s.sq
      · rw [e2]; exact s.sq
      · subst e2 e3; rw [ev.bt]; exact s.bt
      · rw [e2]; exact s.bt
      · subst e2 e3; exact ev.notB s.et tle
      · rw [e2]; exact s.et
    · have hne := s.pair.ne s.at_ s.aj
      refine .inr (.inr (.inr ?_))
      by_cases q1 : e.o = i
      · have qj : j ≠ i := fun q => hne (by omega)
        have hxg : x = g := by have := s.at_; rw [q1, hi] at this; cases this; rfl
        subst hxg
        have dd : Dir x y := by
          rcases s.pair with ⟨_, es⟩ | ⟨_, es⟩
          · exact es.d1
          · exact es.d2
        have hp := s.pair
        rw [q1] at hp
        refine ⟨g', y, j, o, a, s.fl, by rw [q1]; exact set_at hi, ev.src s.src, by rw [set_ne qj]; exact s.aj, by rw [q1]; exact P2 s.aj hp, by rw [ev.iss]; exact s.sq, s.ak, fun hd => ?_, fun h6 => ?_, by have := ev.rc; have := s.rc; omega, by rw [ttk j qj]; exact s.pot, ?_, s.len, s.isB⟩
        · obtain ⟨d1, d2, d3, d4⟩ := s.dat hd
          have := ev.nx
          have := dd.un
          refine ⟨by omega, by rw [hS, drop_grow (by omega)]; exact d2, ?_, ev.notB d4 tle⟩
          have := ev.pot
          rw [q1] at d3 ⊢
          omega
        · have := s.fin h6
          have f := ev.fs this.1
          exact ⟨f.1, by rw [f.2]; exact this.2⟩
        · rcases s.q with z | z
          · exact .inl (ev.notB z tle)
          · exact .inr z
      · obtain ⟨y1, hy1, ⟨e1, e2, e3⟩ | ⟨e1, e2⟩⟩ := set_find (g' := g') hi s.aj
        · subst e1 e2 e3
          refine ⟨x, y1, j, o, a, s.fl, by rw [set_ne q1]; exact s.at_, s.src, hy1, P1 s.at_ s.pair, s.sq, by rw [ev.iss]; exact s.ak, by rw [ttk _ q1]; exact s.dat, s.fin, s.rc, ?_, ?_, s.len, s.isB⟩
          · have := ev.pot
            have := s.pot
            omega
          · rcases s.q with z | z
            · exact .inl z
            · exact .inr (ev.notB z (by omega))
        · subst e2
          exact ⟨x, y1, j, o, a, s.fl, by rw [set_ne q1]; exact s.at_, s.src, hy1, s.pair, s.sq, s.ak, by rw [ttk _ q1]; exact s.dat, s.fin, s.rc, by rw [ttk j e1]; exact s.pot, s.q, s.len, s.isB⟩
end
end Go.Proofs.Qxb6500424aGreat
