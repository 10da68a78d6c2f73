/-
  host: the work: a datagram is delivered.
-/
import Derived.Test.Qxb6500424aGreatHsE
set_option linter.unusedVariables false
set_option linter.unusedSimpArgs false
namespace Go.Proofs.Qxb6500424aGreat
structure DSt (T : Int) (t t' : Nat → TC) (G G' : List GE) (X X' : Nat → CS) (Lg Lg' : List LE) (d : Nat) (q : Fg) (O : List OutS) : Prop where
  s0 : Sys T t G X Lg
  s1 : Sys T t' G' X' Lg'
  tr : TrAll T G X G' X'
  sr : SameSR G G'
  hx : SegX d (t d) G X X' ((q.1 : Int) + 1) q.2.s O
  hd : q.2.d = (d : Int) + 1
  d3 : d < 3
  il : InL T Lg q
def nwQ (T : Int) (d : Nat) (O : List OutS) : List Fg := (O.filter (encB d)).map fun o => (d, dgO T o)
section
variable {T : Int} {t t' : Nat → TC} {G G' : List GE} {X X' : Nat → CS} {Lg Lg' : List LE} {i j k d : Nat} {g y g' y' : GE} {x z : CS} {q : Fg} {Q Qo Qn : List Fg} {O : List OutS} {μ : Int}
theorem To.kp (kp : Kp g g') (h : To g q) : To g' q := ⟨by rw [kp.h]; exact h.d, by rw [kp.rh]; exact h.c, by rw [kp.rp]; exact h.sp, by rw [kp.lp]; exact h.dp⟩
theorem To.kp' (kp : Kp g g') (h : To g' q) : To g q := ⟨by rw [← kp.h]; exact h.d, by rw [← kp.rh]; exact h.c, by rw [← kp.rp]; exact h.sp, by rw [← kp.lp]; exact h.dp⟩
theorem HasAck.kp (kp : Kp g g') (h : HasAck Q g x) : HasAck Q g' x := by
  obtain ⟨q, a, b, c⟩ := h
  exact ⟨q, a, b.kp kp, c⟩
theorem HasFull.kp (kp : Kp g g') (h : HasFull Q g x) : HasFull Q g' x := by
  obtain ⟨f, q, a, b, c⟩ := h
  exact ⟨f, q, a, b.kp kp, c⟩
theorem AllFull.kp (kp : Kp g g') (h : AllFull Q g x) : AllFull Q g' x := fun q a b c => h q a (b.kp' kp) c
theorem HasFly.kp (kp : Kp y y') (h : HasFly Q y x) : HasFly Q y' x := by
  obtain ⟨q, a, b, c⟩ := h
  exact ⟨q, a, b.kp kp, c⟩
theorem HasAck.app {Q' : List Fg} (h : HasAck Q g x) : HasAck (Q ++ Q') g x := by
  obtain ⟨q, a, b⟩ := h
  exact ⟨q, List.mem_append.2 (.inl a), b⟩
theorem HasFull.app {Q' : List Fg} (h : HasFull Q g x) : HasFull (Q ++ Q') g x := by
  obtain ⟨f, q, a, b⟩ := h
  exact ⟨f, q, List.mem_append.2 (.inl a), b⟩
theorem AllFull.app {Q' : List Fg} (h : AllFull Q g x) (h' : AllFull Q' g x) : AllFull (Q ++ Q') g x := fun q a b c => by
  rcases List.mem_append.1 a with w | w
  · exact h q w b c
  · exact h' q w b c
theorem HasAck.tail (h : HasAck (q :: Qo) g x) (hn : ¬ To g q) : HasAck Qo g x := by
  obtain ⟨q', a, b, c⟩ := h
  rcases List.mem_cons.1 a with w | w
  · subst w; exact absurd b hn
  · exact ⟨q', w, b, c⟩
theorem HasFull.tail (h : HasFull (q :: Qo) g x) (hn : ¬ To g q) : HasFull Qo g x := by
  obtain ⟨f, q', a, b, c⟩ := h
  rcases List.mem_cons.1 a with w | w
  · subst w; exact absurd b hn
  · exact ⟨f, q', w, b, c⟩
theorem HasFly.tail (h : HasFly (q :: Qo) y x) (hn : ¬ To y q) : HasFly Qo y x := by
  obtain ⟨q', a, b, c⟩ := h
  rcases List.mem_cons.1 a with w | w
  · subst w; exact absurd b hn
  · exact ⟨q', w, b, c⟩
theorem AllFull.tail (h : AllFull (q :: Qo) g x) : AllFull Qo g x := fun q' a b c => h q' (List.mem_cons_of_mem _ a) b c
theorem Stg.pos (h : Stg μ Qo Qn g y x) (hr : rem x ≠ 0) : 1 ≤ μ := by
  rcases h with ⟨a, b⟩ | ⟨_, b⟩ | ⟨_, b⟩ | ⟨_, b⟩ | ⟨_, b⟩ <;> omega
theorem mem_nw {s : SegV} {o : OutS} (ho : o ∈ O) (he : encB d o = true) : ((d, dgO T o) : Fg) ∈ nwQ T d O := List.mem_map.2 ⟨o, List.mem_filter.2 ⟨ho, he⟩, rfl⟩
/-- Ports tell the roles. -/
theorem roles_ne (h : Ends T G) (hi : G[i]? = some g) (hj : G[j]? = some y) (hp : Pair i j g y) : g.lp ≠ y.lp ∧ g.lp ≠ g.rp := by
  have m := hp.mir
  have c := hp.cl
  have r1 := h.roles i g hi
  have r2 := h.roles j y hj
  have e : g.lp ≠ y.lp := fun q => by
    cases w : g.cl with
    | true => rw [w] at c; have := r1.1 w; have := r2.2 c; omega
    | false => rw [w] at c; have := r1.2 w; have := r2.1 c; omega
  exact ⟨e, fun q => e (by rw [q]; exact m.rp)⟩
theorem role_same (h : Ends T G) {a b : GE} {m n : Nat} (ha : G[m]? = some a) (hb : G[n]? = some b) (e : a.lp = b.lp) : a.cl = b.cl := by
  have r1 := h.roles m a ha
  have r2 := h.roles n b hb
  cases w : a.cl with
  | true =>
    cases v : b.cl with
    | true => rfl
    | false => have := r1.1 w; have := r2.2 v; omega
  | false =>
    cases v : b.cl with
    | false => rfl
    | true => have := r1.2 w; have := r2.1 v; omega
/-- The ranges of what a row puts out. -/
theorem enc_ok {u : TC} {a : Sk.AE} (tb : Tab d u G X) (ham : a ∈ u.K.E) (hk : a.1.kind = 2) (r : RowOk d u G X a i g) (d3 : d < 3) {s : SegV} (hs : Rng s) : encB d (stampG g s) = true := by
  obtain ⟨e1, e2, e3, e4, e5, e6, _⟩ := (tb.sk.ei.ok a ham).con hk
  unfold encB
  refine decide_eq_true ?_
  unfold encErr stampG
  have n1 : ¬ (off ((d : Int) + 1) ∨ off g.rh) := by rw [r.rh]; unfold off; omega
  have n2 : ¬ (off g.lp ∨ off g.rp) := by rw [r.lp, r.rp]; unfold off; omega
  have n3 : ¬ (off s.1.sq ∨ off s.1.ak) := by have := hs.sq; have := hs.ak; unfold off; omega
  have n4 : ¬ (off s.1.wn ∨ s.1.fl < 0 ∨ 15 < s.1.fl) := by have := hs.wn; have := hs.fl; unfold off; omega
  have n5 : ¬ 12 < s.2.length := by have := hs.n; omega
  show (if off ((d : Int) + 1) ∨ off g.rh then (5 : Int) else if off g.lp ∨ off g.rp then 22 else if off s.1.sq ∨ off s.1.ak then 24 else if off s.1.wn ∨ s.1.fl < 0 ∨ 15 < s.1.fl then 24 else if 12 < s.2.length then 2 else 0) = 0
  rw [if_neg n1, if_neg n2, if_neg n3, if_neg n4, if_neg n5]
theorem Sys.rowI (h : Sys T t G X Lg) (hi : G[i]? = some g) (hl : g.gone = false) : ∃ a ∈ (t g.h).K.E, a.1.kind = 2 ∧ RowOk g.h (t g.h) G X a i g := by
  have h3 := h.hlt i g hi
  have tb := h.tab g.h h3
  obtain ⟨a, ham, hk, hsd⟩ := tb.end_ i g hi rfl hl
  obtain ⟨k, b, r⟩ := tb.row a ham hk
  have e := tb.uniq k i b g r.at_ hi r.h rfl (by rw [r.sd, hsd])
  subst e
  have eb : b = g := by have := r.at_; rw [hi] at this; cases this; rfl
  subst eb
  exact ⟨a, ham, hk, r⟩
theorem Sys.enc (h : Sys T t G X Lg) (hi : G[i]? = some g) (hl : g.gone = false) {s : SegV} (hs : Rng s) : encB g.h (stampG g s) = true := by
  obtain ⟨a, ham, hk, r⟩ := h.rowI hi hl
  exact enc_ok (h.tab g.h (h.hlt i g hi)) ham hk r (h.hlt i g hi) hs
/-- What an open end's peer acknowledges is heeded. -/
theorem acked_true (h : Sys T t G X Lg) (hj : G[j]? = some y) (hl : y.gone = false) (h3 : (X j).st = 3) (il : InL T Lg q) (to : To y q) (ha : AckT q.2.s) : (ackedF (sqAdd q.2.s.1.ak 0) q.2.s.1.wn (X j)).1 = true := by
  obtain ⟨hr, _⟩ := (il.seg h).2 ha
  obtain ⟨_, ht, e, he, e1, e2, e3, e4⟩ := il
  obtain ⟨_, inv⟩ := h.inv.seg e he (by omega)
  have hat : At y e := ⟨by rw [e3]; exact to.d, by rw [e2]; exact to.c, by rw [e4]; exact to.sp, by rw [e4]; exact to.dp⟩
  have hc : y.cl = true → ∃ j2, y.pr = some j2 := fun c => by
    obtain ⟨j2, y2, hj2, hp, _, _⟩ := h.inv.cn hj hl h3
    rcases hp with ⟨_, es⟩ | ⟨c2, es⟩
    · exact ⟨j2, es.pr⟩
    · rw [c] at c2; cases c2
  rcases inv with s | ⟨_, s⟩ | ⟨_, _, _, s⟩ | ⟨x0, yy, jj, o, a, s⟩
  · exfalso; rcases s with s | s <;> rw [e4] at s <;> rcases ha with w | w <;> rw [s] at w <;> cases w
  · exfalso; have := s.fl; rw [e4] at this; rcases ha with w | w <;> rw [this] at w <;> cases w
  · exfalso; have := s.fl; rw [e4] at this; rcases ha with w | w <;> rw [this] at w <;> cases w
  · obtain ⟨pp, e5, e6⟩ := h.inv.who hj hl hc s (by omega) hat
    subst e5
    subst e6
    have cn := h.cnI hj hl h3 s.at_ s.pair.symm
    have ins := s.ins (by omega) e.s.1.sq
    have := (acked_go (wn := q.2.s.1.wn) cn ins.ak ins.rc ins.pot).1
    rw [e4] at this
    rw [sqAdd0 hr]
    exact this
/-- What is addressed to x and acknowledges comes of x's peer. -/
theorem ack_of (h : Sys T t G X Lg) (hi : G[i]? = some g) (hl : g.gone = false) (h3 : (X i).st = 3) (hj : G[j]? = some y) (hp : Pair i j g y) {b : GE} (hk : G[k]? = some b) (hbl : b.gone = false) (hb : (X k).st = 3 ∨ ((X k).st = 4 ∧ (X k).why = 0)) (hm : Mirror g b) : k = j := by
  have he := h.inv.ends
  have lv := h.inv.live i g hi hl
  have het : g.et = none := lv.ne4 (by omega)
  have elp : b.lp = y.lp := by rw [← hm.rp, ← hp.mir.rp]
  refine peer_only (t := T) he hi hj hp (by omega) (.inl fun e ee => by rw [het] at ee; cases ee) hk hm hbl (by rw [role_same he hk hj elp]; exact hp.cl) fun c => ?_
  obtain ⟨j2, y2, hj2, hp2, _, _⟩ := (h.inv.live k b hk hbl).s3 hb
  rcases hp2 with ⟨_, es⟩ | ⟨c2, es⟩
  · exact ⟨j2, es.pr⟩
  · rw [c] at c2; cases c2
end
end Go.Proofs.Qxb6500424aGreat
