/-
  host: the work: a connection's two ends, and what is in flight between them.
-/
import Derived.Test.Qxb6500424aGreatHsD
import Derived.Test.Qxb6500424aGreatHqD
set_option linter.unusedVariables false
set_option linter.unusedSimpArgs false
namespace Go.Proofs.Qxb6500424aGreat
/-- A datagram in flight: the host that sent it, and what it is. -/
abbrev Fg := Nat × DG
structure To (g : GE) (q : Fg) : Prop where
  d : q.2.d = (g.h : Int) + 1
  c : g.rh = (q.1 : Int) + 1
  sp : q.2.s.1.sp = g.rp
  dp : q.2.s.1.dp = g.lp
def InL (T : Int) (Lg : List LE) (q : Fg) : Prop := q.1 < 3 ∧ T - 4 ≤ q.2.t ∧ ∃ e ∈ Lg, e.t = q.2.t ∧ e.c = q.1 ∧ e.d = q.2.d ∧ e.s = q.2.s
def endN (x : CS) : Int := (x.S.una + (x.S.D.length : Int) + 1) % 256
def HasAck (Q : List Fg) (g : GE) (x : CS) : Prop := ∃ q ∈ Q, To g q ∧ AckT q.2.s ∧ (0 ≤ q.2.s.1.ak ∧ q.2.s.1.ak < 256) ∧ 0 < ackD q.2.s.1.ak x ∧ ackD q.2.s.1.ak x ≤ flying x
def HasFull (Q : List Fg) (g : GE) (x : CS) : Prop := x.fs = true ∧ ∃ q ∈ Q, To g q ∧ AckT q.2.s ∧ q.2.s.1.ak = endN x
def AllFull (Q : List Fg) (g : GE) (x : CS) : Prop := ∀ q ∈ Q, To g q → AckT q.2.s → x.fs = true ∧ q.2.s.1.ak = endN x
def HasFly (Q : List Fg) (y : GE) (x : CS) : Prop := ∃ q ∈ Q, To y q ∧ Fly x q.2.s
def life (x : CS) : Int := x.tm + 32 - 4 * 2 ^ x.rt.toNat
/-- The end's peer will never acknowledge less than all. -/
def NoM (y : GE) (z : CS) : Prop := y.gone = true ∨ z.st = 4 ∨ z.pf = true
def Stg (μ : Int) (Qo Qn : List Fg) (g y : GE) (x : CS) : Prop :=
  (0 < x.tm ∧ 3 * (rem x : Int) + x.tm - 1 ≤ μ) ∨ (HasFly Qo y x ∧ 3 * (rem x : Int) - 1 ≤ μ) ∨ (HasAck Qo g x ∧ 3 * (rem x : Int) - 2 ≤ μ) ∨ (HasAck Qn g x ∧ 3 * (rem x : Int) - 1 ≤ μ) ∨ (PG x ∧ 3 * (rem x : Int) + 1 ≤ μ)
/-- How far the work of an open end x with the peer z is. -/
def Zc (μ : Int) (Qo Qn : List Fg) (g y : GE) (x z : CS) : Prop :=
  rem x = 0 ∨
  (y.pf = false ∧ (y.gone = true ∨ z.st = 4)) ∨
  (y.gone = false ∧ z.st = 3 ∧ z.pf = false ∧ z.B.A.length = 16 ∧ y.rc < g.S.length) ∨
  (0 ≤ μ ∧ HasFull Qo g x) ∨ (1 ≤ μ ∧ HasFull Qn g x) ∨
  (y.gone = false ∧ z.st = 3 ∧ z.pf = false ∧ Stg μ Qo Qn g y x) ∨
  (NoM y z ∧ AllFull Qn g x ∧ (45 ≤ μ ∨ (AllFull Qo g x ∧ 0 < x.tm ∧ life x ≤ μ)))
section
variable {T : Int} {t t' : Nat → TC} {G G' : List GE} {X X' : Nat → CS} {Lg Lg' : List LE} {i j k d : Nat} {g y g' y' : GE} {x z : CS} {q : Fg} {Q Qo Qn : List Fg} {O : List OutS}
theorem InL.seg (h : InL T Lg q) (hs : Sys T t G X Lg) : Flg q.2.s ∧ (AckT q.2.s → (0 ≤ q.2.s.1.ak ∧ q.2.s.1.ak < 256) ∧ IsB q.2.s.2 ∧ q.2.s.2.length ≤ 12) := by
  obtain ⟨_, ht, e, he, e1, e2, e3, e4⟩ := h
  obtain ⟨_, inv⟩ := hs.inv.seg e he (by omega)
  have na : ∀ n : Int, q.2.s.1.fl = n → n ≠ 2 → n ≠ 6 → ¬ AckT q.2.s := fun n a b c w => by
    rcases w with w | w <;> omega
  rcases inv with s | ⟨_, s⟩ | ⟨_, _, _, s⟩ | ⟨_, _, _, _, _, s⟩
  · rcases s with s | s <;> rw [e4] at s
    · exact ⟨.inr (.inr (.inl s)), fun w => absurd w (na _ s (by decide) (by decide))⟩
    · exact ⟨.inr (.inr (.inr (.inl s))), fun w => absurd w (na _ s (by decide) (by decide))⟩
  · have := s.fl; rw [e4] at this
    exact ⟨.inl this, fun w => absurd w (na _ this (by decide) (by decide))⟩
  · have := s.fl; rw [e4] at this
    exact ⟨.inr (.inl this), fun w => absurd w (na _ this (by decide) (by decide))⟩
  · have f := s.fl; rw [e4] at f
    have a := s.ak; rw [e4] at a
    have b := s.isB; rw [e4] at b
    have l := s.len; rw [e4] at l
    exact ⟨.inr (.inr (.inr (.inr (f.elim .inl (fun w => .inr w.1))))), fun _ => ⟨by rw [a]; omega, b, l⟩⟩
theorem InL.mono {N : List LE} (h : InL T Lg q) : InL T (Lg ++ N) q := by
  obtain ⟨a, b, e, he, r⟩ := h
  exact ⟨a, b, e, List.mem_append.2 (.inl he), r⟩
/-! ### the pair -/
theorem rnx_open (oo : OpenOk y g z) : rcvNxt z = (g.iss + 1 + ((y.rc : Int) + b2i y.pf)) % 256 := by
  unfold rcvNxt
  rw [oo.pf, oo.nxt]
  cases e : y.pf with
  | true =>
    show sqAdd ((g.iss + 1 + (y.rc : Int)) % 256) 1 = (g.iss + 1 + ((y.rc : Int) + 1)) % 256
    unfold sqAdd
    omega
  | false =>
    show (g.iss + 1 + (y.rc : Int)) % 256 = (g.iss + 1 + ((y.rc : Int) + 0)) % 256
    rw [Int.add_zero]
theorem Sys.cnI (h : Sys T t G X Lg) (hi : G[i]? = some g) (hl : g.gone = false) (h3 : (X i).st = 3) (hj : G[j]? = some y) (hp : Pair i j g y) : Cn g y (X i) := by
  obtain ⟨j2, y2, hj2, hp2, cn, _⟩ := h.inv.cn hi hl h3
  have e := hp.uniq hp2
  subst e
  rw [hj] at hj2
  cases hj2
  exact cn
theorem Sys.ooJ (h : Sys T t G X Lg) (hi : G[i]? = some g) (hj : G[j]? = some y) (hp : Pair i j g y) (hl : y.gone = false) (hs : (X j).st = 3 ∨ ((X j).st = 4 ∧ (X j).why = 0)) : OpenOk y g (X j) := by
  obtain ⟨i2, g2, hi2, hp2, oo, _⟩ := (h.inv.live j y hj hl).s3 hs
  have e := hp.symm.uniq hp2
  subst e
  rw [hi] at hi2
  cases hi2
  exact oo
/-- What the peer has, against what is acknowledged. -/
theorem ack_num (cn : Cn g y x) (oo : OpenOk y g z) : ackD (rcvNxt z) x = ((y.rc : Int) + b2i y.pf) - ((g.ua : Int) + b2i g.fa) ∧ ackD (rcvNxt z) x ≤ flying x ∧ 0 ≤ ackD (rcvNxt z) x := by
  have d := cn.d1
  have b1 := b2i_bd y.pf
  have b2 := b2i_bd g.fa
  have b3 := b2i_bd g.fs
  have un := d.un
  have rc := d.rc
  have e : ackD (rcvNxt z) x = ((y.rc : Int) + b2i y.pf) - ((g.ua : Int) + b2i g.fa) := by
    unfold ackD
    rw [rnx_open oo, cn.una, show g.iss + 1 + (g.ua : Int) + b2i g.fa = g.iss + 1 + ((g.ua : Int) + b2i g.fa) by omega]
    exact sqDiff_true (by omega) (by omega)
  rw [e, cn.fly]
  have hpf : (y.rc : Int) + b2i y.pf ≤ (g.nx : Int) + b2i g.fs := by
    cases q : y.pf with
    | false => show (y.rc : Int) + 0 ≤ _; omega
    | true =>
      have w := d.pf q
      have : b2i g.fs = 1 := by rw [w.1]; rfl
      show (y.rc : Int) + 1 ≤ _
      have := (d.fs w.1).1
      omega
  have hfa : (g.ua : Int) + b2i g.fa ≤ (y.rc : Int) + b2i y.pf := by
    cases q : g.fa with
    | false => show (g.ua : Int) + 0 ≤ _; omega
    | true =>
      have w := d.fa q
      have : b2i y.pf = 1 := by rw [w.2.2]; rfl
      show (g.ua : Int) + 1 ≤ _
      omega
  omega
/-- The number of a full acknowledgement. -/
theorem full_num (cn : Cn g y x) (oo : OpenOk y g z) (hp : z.pf = true) (hfa : x.fa = false) : x.fs = true ∧ rcvNxt z = endN x := by
  have yp : y.pf = true := by rw [← oo.pf]; exact hp
  obtain ⟨w1, w2⟩ := cn.d1.pf yp
  refine ⟨by rw [cn.oo.fs]; exact w1, ?_⟩
  have un := cn.d1.un
  rw [rnx_open oo, yp, w2]
  unfold endN
  rw [cn.oo.una, cn.oo.D, List.length_drop]
  show (g.iss + 1 + ((g.S.length : Int) + 1)) % 256 = _
  omega
theorem full_ackD (h : CsOk x) (h3 : x.st = 3) (hfs : x.fs = true) (hfa : x.fa = false) : ackD (endN x) x = (rem x : Int) ∧ (rem x : Int) ≤ flying x ∧ 0 < (rem x : Int) ∧ (0 ≤ endN x ∧ endN x < 256) := by
  obtain ⟨o1, o2, o3, o4⟩ := h.openn h3
  have hl := h.S.len
  have hu := h.S.una
  have hw := o2 hfs
  have hd := o3 hfs
  have er : rem x = x.S.D.length + 1 := by unfold rem; rw [if_pos ⟨hw, hfa⟩]
  refine ⟨?_, ?_, by omega, by unfold endN; omega⟩
  · unfold ackD sndUna endN
    rw [if_neg (by rw [hfa]; simp), er]
    unfold sqDiff
    push_cast
    split <;> omega
  · rw [fly3 h3, if_pos ⟨hfs, hfa⟩, er]
    omega
theorem rem_fa (h : CsOk x) (h3 : x.st = 3) (hfa : x.fa = true) : rem x = 0 := by
  have := (h.openn h3).2.2.2 hfa
  unfold rem
  rw [this, if_neg (by rw [hfa]; simp)]
  rfl
theorem fa_of (h : CsOk x) (h3 : x.st = 3) (hr : rem x ≠ 0) : x.fa = false := by
  cases q : x.fa with
  | false => rfl
  | true => exact absurd (rem_fa h h3 q) hr
/-! ### an end whose peer or whose timer moves on -/
theorem Mo.endn {x x' : CS} (m : Mo x x') : endN x' = endN x := by
  have := m.en
  unfold endN
  omega
theorem HasFull.mo {x x' : CS} (h : HasFull Q g x) (m : Mo x x') : HasFull Q g x' := by
  obtain ⟨a, q, b, c, d, e⟩ := h
  exact ⟨m.fs a, q, b, c, d, by rw [m.endn]; exact e⟩
theorem AllFull.mo {x x' : CS} (h : AllFull Q g x) (m : Mo x x') : AllFull Q g x' := fun q a b c => by
  obtain ⟨e, f⟩ := h q a b c
  exact ⟨m.fs e, by rw [m.endn]; exact f⟩
theorem fly_mono {x x' : CS} (h3 : x.st = 3) (h3' : x'.st = 3) (hs : x.S.sent ≤ x'.S.sent) (hf : x.fs = true → x'.fs = true) (ha : x'.fa = x.fa) : flying x ≤ flying x' := by
  rw [fly3 h3, fly3 h3', ha]
  split
  · rename_i q
    rw [if_pos ⟨hf q.1, q.2⟩]
    omega
  · split <;> omega
theorem HasAck.same {x x' : CS} (h : HasAck Q g x) (h3 : x.st = 3) (h3' : x'.st = 3) (m : Mo x x') (e : rem x' = rem x) : HasAck Q g x' := by
  obtain ⟨q, a, b, c, d, e1, e2⟩ := h
  obtain ⟨s1, s2, s3, s4, s5⟩ := m.same e
  have ed : ackD q.2.s.1.ak x' = ackD q.2.s.1.ak x := by unfold ackD sndUna; rw [s1, s4]
  have := fly_mono h3 h3' s3 m.fs s4
  exact ⟨q, a, b, c, d, by rw [ed]; exact e1, by rw [ed]; omega⟩
theorem HasFly.same {x x' : CS} (h : HasFly Q y x) (m : Mo x x') (e : rem x' = rem x) : HasFly Q y x' := by
  obtain ⟨q, a, b, c, d⟩ := h
  obtain ⟨s1, s2, s3, s4, s5⟩ := m.same e
  refine ⟨q, a, b, by rw [s1]; exact c, ?_⟩
  rcases d with ⟨d1, d2, d3⟩ | ⟨d1, d2, d3, d4, d5⟩
  · exact .inl ⟨d1, d2, by rw [s2]; exact d3⟩
  · exact .inr ⟨d1, d2, by rw [s2]; exact d3, m.fs d4, by rw [s4]; exact d5⟩
/-! ### who is meant -/
theorem To.of (hp : Pair i j g y) (T : Int) (s : SegV) : To g (y.h, dgO T (stampG y s)) := by
  obtain ⟨m1, m2, m3, m4⟩ : Mirror g y := by
    rcases hp with ⟨_, es⟩ | ⟨_, es⟩
    · exact es.mir
    · exact es.mir.symm
  exact ⟨m2, m1, m4.symm, m3.symm⟩
theorem Pair.mir (hp : Pair i j g y) : Mirror g y := by
  rcases hp with ⟨_, es⟩ | ⟨_, es⟩
  · exact es.mir
  · exact es.mir.symm
theorem Pair.cl (hp : Pair i j g y) : y.cl = !g.cl := by
  rcases hp with ⟨_, es⟩ | ⟨_, es⟩
  · rw [es.cl, es.cl2]; rfl
  · rw [es.cl, es.cl2]; rfl
/-- One that lives with that four-tuple at that host is that one. -/
theorem Ends.tuple (h : Ends T G) {a b : GE} {m n : Nat} (ha : G[m]? = some a) (hb : G[n]? = some b) (la : a.gone = false) (lb : b.gone = false) (st : SameT a b) : m = n := by
  apply Classical.byContradiction
  intro hne
  rcases h.lt ha hb st hne with ⟨_, q, _⟩ | ⟨_, q, _⟩
  · rw [la] at q; cases q
  · rw [lb] at q; cases q
/-- A segment for an end that lives goes to its row. -/
theorem SegX.hit {c : Nat} {u : TC} (hx : SegX c u G X X' ((q.1 : Int) + 1) q.2.s O) (tb : Tab c u G X) (he : Ends T G) (hi : G[i]? = some g) (hl : g.gone = false) (to : To g q) (hd : q.2.d = (c : Int) + 1) : X' = updX X i (inputF q.2.s.1 q.2.s.2 (X i)).1 ∧ ∃ O0, O = O0 ∧ O0 = (inputF q.2.s.1 q.2.s.2 (X i)).2.map (stampG g) := by
  have hc : g.h = c := by have := to.d; omega
  rcases hx with ⟨a, k, b, ham, hk, r, p1, p2, p3, e1, e2⟩ | ⟨h0, _⟩
  · have ek : k = i := he.tuple r.at_ hi r.gone hl ⟨by rw [r.h, hc], by rw [p1, to.dp], by rw [p2, to.c], by rw [p3, to.sp]⟩
    subst ek
    have eb : b = g := by have := r.at_; rw [hi] at this; cases this; rfl
    subst eb
    refine ⟨e1, O, rfl, ?_⟩
    rw [e2]
    congr 1
    funext s
    unfold stampS stampG
    rw [r.rh, r.lp, r.rp]
  · exfalso
    have := tb.gone h0 i g hi hc to.dp.symm to.c to.sp.symm
    rw [hl] at this
    cases this
/-- Any other end is left alone. -/
theorem SegX.miss {c : Nat} {u : TC} (hx : SegX c u G X X' ((q.1 : Int) + 1) q.2.s O) (hd : q.2.d = (c : Int) + 1) (hi : G[i]? = some g) (hn : ¬ To g q) : X' i = X i := by
  rcases hx with ⟨a, k, b, ham, hk, r, p1, p2, p3, e1, e2⟩ | ⟨_, h1, _⟩
  · rw [e1]
    unfold updX
    rw [if_neg]
    intro e
    subst e
    have eb : b = g := by have := r.at_; rw [hi] at this; cases this; rfl
    subst eb
    exact hn ⟨by rw [r.h]; exact hd, p2, p3.symm, p1.symm⟩
  · exact h1 i (List.getElem?_eq_some_iff.1 hi).1
end
end Go.Proofs.Qxb6500424aGreat
