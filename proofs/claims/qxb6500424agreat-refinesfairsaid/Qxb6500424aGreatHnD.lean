/-
  host: the abstract network's memory: See, its end.
-/
import Derived.Test.Qxb6500424aGreatHnC
set_option linter.unusedVariables false
set_option linter.unusedSimpArgs false
open Go.Vc
namespace Go.Proofs.Qxb6500424aGreat
section
variable {lo : Nat} {w w' : World} {p s ib : Nat} {N : List PEM} {del : Nat → Int} {j : Nat} {x : PEM} {e : Sk.Ent} {X : CS}
theorem set_same {N : List PEM} (hx : N[j]? = some x) : N.set j x = N := by
  apply List.ext_getElem?
  intro k
  by_cases q : k = j
  · subst q
    rw [List.getElem?_set_self (List.getElem?_eq_some_iff.1 hx).1, hx]
  · rw [List.getElem?_set_ne (fun z => q z.symm)]
theorem see9_ok {R : Bool → World → Prop} (h : NetAt lo w p N del) (hx : N[j]? = some x) (os : Own w s (siArr e (some ⟨ib, 0, none⟩)) 69) (hi : InAt w ib X)
    (hoff : 0 < x.E.off → ∃ (t : Nat) (y : PEM), x.E.peer = (t : Int) ∧ N[t]? = some y ∧ x.E.off ≤ (y.E.S.length : Int))
    (hpf : X.pf = true → x.E.pf = false → ∃ (t : Nat) (y : PEM), x.E.peer = (t : Int) ∧ N[t]? = some y ∧ y.E.clo = true ∧ x.E.off = (y.E.S.length : Int))
    (hR : ∀ w', NetAt lo w' p (N.set j { x with E := { x.E with pf := x.E.pf || X.pf } }) del → ExtL lo w w' [T_hostm_End] → R true w') : hostm_Net_See.B9 (some ⟨p, 0, none⟩) s (j : Int) w R := by
  have h10 : hostm_Net_See.B10 (some ⟨p, 0, none⟩) s (j : Int) false w.drew R := by
    unfold hostm_Net_See.B10
    have same : (x.E.pf || X.pf) = x.E.pf → R true w.drew := fun q => by
      have := hR w.drew (by rw [q]; have : ({ x with E := { x.E with pf := x.E.pf } } : PEM) = x := rfl; rw [this, set_same hx]; exact h.drew) (ExtL.nil (Ext.drew _ _) _)
      exact this
    refine Bm.neg rfl (LdP.mk os.drew rfl (Pn.mk ?_))
    rw [add_mk, Nat.zero_add]
    refine LdB.mk (Own.drew hi) (by rw [fnArr_get _ (by omega)]; rfl) (Bm.mk (fun q => ?_) (fun q => ?_))
    · refine ndB h.drew rfl hx (by omega) rfl ?_
      unfold hostm_Net_See.B11
      cases qp : x.E.pf with
      | true => exact Bm.neg rfl (same (by rw [qp]; rfl))
      | false =>
        obtain ⟨t, y, t1, t2, t3, t4⟩ := hpf q qp
        refine Bm.pos rfl (ndI h.drew.drew rfl hx (by omega) rfl (Bm.neg (decide_eq_false (by omega)) ?_))
        refine ndPB h.drew.drew rfl hx t1 t2 (by omega) rfl ?_
        rw [t3]
        refine Bm.neg rfl (ndI h.drew.drew rfl hx (by omega) rfl (ndPL h.drew.drew rfl hx t1 t2 (by omega) rfl ?_))
        unfold hostm_Net_See.B12
        refine Bm.neg (by rw [t4]; simp) ?_
        refine ndSt (x' := { x with E := { x.E with pf := x.E.pf || X.pf } }) h.drew.drew rfl hx (by omega) rfl (by rw [q, Bool.or_true]; rfl) ⟨rfl, rfl, rfl⟩ ⟨rfl, rfl, rfl⟩ fun w' h' hT => hR w' h' ?_
        exact (ExtL.nil ((Ext.drew [] w).trans (Ext.drew [] _)) _).trans hT
    · unfold hostm_Net_See.B11
      exact Bm.neg rfl (same (by rw [show X.pf = false from q, Bool.or_false]))
  unfold hostm_Net_See.B9
  refine ndI h.drew rfl hx (by omega) rfl (Bm.ite (fun q => ?_) (fun q => h10))
  obtain ⟨t, y, t1, t2, t3⟩ := hoff q
  refine ndI h.drew rfl hx (by omega) rfl (Bm.neg (decide_eq_false (by omega)) ?_)
  refine ndI h.drew rfl hx (by omega) rfl (ndPL h.drew rfl hx t1 t2 (by omega) rfl ?_)
  rw [decide_eq_false (by omega)]
  exact h10
theorem set_get {N : List PEM} {x' : PEM} (hx : N[j]? = some x) : (N.set j x')[j]? = some x' := List.getElem?_set_self (List.getElem?_eq_some_iff.1 hx).1
theorem set_set' {N : List PEM} {a b : PEM} : (N.set j a).set j b = N.set j b := List.set_set a
theorem see8_ok {R : Bool → World → Prop} (h : NetAt lo w p N del) (hx : N[j]? = some x) (os : Own w s (siArr e (some ⟨ib, 0, none⟩)) 69) (hi : InAt w ib X) (hb : x.E.R.length + X.B.A.length ≤ 1152921504606846976)
    (hoff : 0 < offN x.E X → ∃ (t : Nat) (y : PEM), x.E.peer = (t : Int) ∧ (N.set j { x with E := { x.E with off := offN x.E X } })[t]? = some y ∧ offN x.E X ≤ (y.E.S.length : Int))
    (hpf : X.pf = true → x.E.pf = false → ∃ (t : Nat) (y : PEM), x.E.peer = (t : Int) ∧ (N.set j { x with E := { x.E with off := offN x.E X } })[t]? = some y ∧ y.E.clo = true ∧ offN x.E X = (y.E.S.length : Int))
    (hR : ∀ w', NetAt lo w' p (N.set j { x with E := { x.E with off := offN x.E X, pf := x.E.pf || X.pf } }) del → ExtL lo w w' [T_hostm_End] → R true w') : hostm_Net_See.B8 (some ⟨p, 0, none⟩) s (j : Int) false w R := by
  unfold hostm_Net_See.B8
  refine Bm.neg rfl (ndL h.drew rfl hx (by omega) rfl (LdP.mk os.drew rfl (Pn.mk ?_)))
  rw [add_mk, Nat.zero_add]
  have av : fnArr 18 (inF X (inV X)) = fnArr 18 (inF X (inV X)) := rfl
  refine LdI.mk (Own.drew hi) (by rw [fnArr_get _ (by omega)]; rfl) (ndI h.drew rfl hx (by omega) rfl ?_)
  have eA : inV X 11 = (X.B.A.length : Int) := rfl
  rw [eA, w64 (by omega) (by omega)]
  refine Bm.ite (fun q => ?_) (fun q => ?_)
  · have eo : offN x.E X = (x.E.R.length : Int) + (X.B.A.length : Int) := by unfold offN; rw [if_pos (by omega)]
    obtain ⟨b, l, c, o, r⟩ := h.drew.drew.ex
    refine Pn.mk (LdL.mk o rfl ?_)
    refine ndL h.drew.drew rfl hx (by omega) rfl (LdP.mk os.drew.drew rfl (Pn.mk ?_))
    rw [add_mk, Nat.zero_add]
    refine LdI.mk (Own.drew (Own.drew hi)) (by rw [fnArr_get _ (by omega)]; rfl) ?_
    rw [eA, w64 (by omega) (by omega), ← eo]
    have hl := (List.getElem?_eq_some_iff.1 hx).1
    have hlen := NetAt.rlen r
    obtain ⟨k, rfl, hS⟩ := endPut (q := 9) (x' := { x with E := { x.E with off := offN x.E X } }) (v := .int .i64 (offN x.E X)) (K := fun w1 => hostm_Net_See.B9 (some ⟨p, 0, none⟩) s (j : Int) w1 R) h.drew.drew o r hx (by omega) rfl rfl ⟨rfl, rfl, rfl⟩ ⟨rfl, rfl, rfl⟩ (fun w' h1 _ _ h2 => by
      refine see9_ok (e := e) h1 (set_get hx) (h2.own os.drew.drew (by decide)) (h2.own (Own.drew (Own.drew hi)) (by decide)) hoff hpf fun w2 h3 hT => hR w2 ?_ (((ExtL.nil ((Ext.drew [] w).trans (Ext.drew [] _)) _).trans h2).trans hT)
      rw [set_set'] at h3
      exact h3)
    refine Pn.mk ⟨by omega, ?_⟩
    rw [Int.toNat_natCast, add2]
    exact hS
  · have eo : offN x.E X = x.E.off := by unfold offN; rw [if_neg (by omega)]
    have exx : ({ x with E := { x.E with off := offN x.E X } } : PEM) = x := by rw [eo]
    rw [exx, set_same hx] at hoff hpf
    refine see9_ok (e := e) h.drew hx os.drew (Own.drew hi) (by rw [eo] at hoff; exact hoff) (by rw [eo] at hpf; exact hpf) fun w2 h3 hT => hR w2 ?_ ((ExtL.nil (Ext.drew [] w) _).trans hT)
    rw [eo]
    exact h3
theorem see7_ok {R : Bool → World → Prop} (h : NetAt lo w p N del) (hx : N[j]? = some x) (os : Own w s (siArr e (some ⟨ib, 0, none⟩)) 69) (hi : InAt w ib X) (hb : x.E.R.length + X.B.A.length ≤ 1152921504606846976) (hrd : e.par ≠ 0 → e.rdy = x.E.was)
    (hoff : 0 < offN x.E X → ∃ (t : Nat) (y : PEM), x.E.peer = (t : Int) ∧ (N.set j { x with E := { x.E with off := offN x.E X } })[t]? = some y ∧ offN x.E X ≤ (y.E.S.length : Int))
    (hpf : X.pf = true → x.E.pf = false → ∃ (t : Nat) (y : PEM), x.E.peer = (t : Int) ∧ (N.set j { x with E := { x.E with off := offN x.E X } })[t]? = some y ∧ y.E.clo = true ∧ offN x.E X = (y.E.S.length : Int))
    (hR : ∀ w', NetAt lo w' p (N.set j { x with E := { x.E with off := offN x.E X, pf := x.E.pf || X.pf } }) del → ExtL lo w w' [T_hostm_End] → R true w') : hostm_Net_See.B7 (some ⟨p, 0, none⟩) s (j : Int) w R := by
  unfold hostm_Net_See.B7
  have go := see8_ok (e := e) (R := R) h.drew hx os.drew (Own.drew hi) hb hoff hpf (fun w' h' hT => hR w' h' ((ExtL.nil (Ext.drew [] w) _).trans hT))
  refine LdI.mk os.drew rfl (Bm.mk (fun q => LdB.mk os.drew rfl (ndB h.drew rfl hx (by omega) rfl ?_)) (fun q => go))
  have := hrd (bneT q)
  rw [this]
  simpa using go
theorem endPutK {k l c i q : Nat} {x x' : PEM} {v : Value} {K : World → Prop} (h : NetAt lo w p N del) (o : Own w p #[.slice (some ⟨k, 0, none⟩) l c, .int .i64 (del 0), .int .i64 (del 1), .int .i64 (del 2)] T_hostm_Net) (r : Row w (some ⟨k, 0, none⟩) l c 16 T_hostm_End (N.flatMap endC)) (hx : N[i]? = some x) (hq : q < 16) (h1 : v.oneCell' = true) (he : endC x' = (endC x).set q v)
    (eS : x'.E.S = x.E.S ∧ x'.sb = x.sb ∧ x'.sc = x.sc) (eR : x'.E.R = x.E.R ∧ x'.rb = x.rb ∧ x'.rc = x.rc)
    (hK : ∀ w', NetAt lo w' p (N.set i x') del → Own w' p #[.slice (some ⟨k, 0, none⟩) l c, .int .i64 (del 0), .int .i64 (del 1), .int .i64 (del 2)] T_hostm_Net → Row w' (some ⟨k, 0, none⟩) l c 16 T_hostm_End ((N.set i x').flatMap endC) → ExtL lo w w' [T_hostm_End] → K w') : Sts [v] ⟨k, i * 16 + q, none⟩ 0 w K := by
  obtain ⟨k', e, hS⟩ := endPut (q := q) (x' := x') (v := v) (K := K) h o r hx hq h1 he eS eR hK
  cases e
  exact hS
/-- What See makes of an end: the peer as it is by now, then what is shown. -/
theorem see6_ok {R : Bool → World → Prop} (h : NetAt lo w p N del) (hx : N[j]? = some x) (os : Own w s (siArr e (some ⟨ib, 0, none⟩)) 69) (hi : InAt w ib X) (hb : x.E.R.length + X.B.A.length ≤ 1152921504606846976) (hrd : e.par ≠ 0 → e.rdy = (x.E.was || decide (X.st = 3)))
    (hoff : 0 < offN x.E X → ∃ (t : Nat) (y : PEM), x.E.peer = (t : Int) ∧ N[t]? = some y ∧ offN x.E X ≤ (y.E.S.length : Int))
    (hpf : X.pf = true → x.E.pf = false → ∃ (t : Nat) (y : PEM), x.E.peer = (t : Int) ∧ N[t]? = some y ∧ y.E.clo = true ∧ offN x.E X = (y.E.S.length : Int))
    (hR : ∀ w', NetAt lo w' p (N.set j { x with E := seenE x.E x.E.peer X }) del → ExtL lo w w' [T_hostm_End] → R true w') : hostm_Net_See.B6 (some ⟨p, 0, none⟩) s (j : Int) w R := by
  unfold hostm_Net_See.B6
  obtain ⟨b, l, c, o, r⟩ := h.drew.ex
  have hl := (List.getElem?_eq_some_iff.1 hx).1
  have hlen := NetAt.rlen r
  refine Pn.mk (LdL.mk o rfl (Pn.mk (LdL.mk o rfl (LdP.mk os.drew rfl (Pn.mk ?_)))))
  refine LdI.fn (o := 0) (Own.drew hi) (by omega) rfl (LdP.mk os.drew rfl (Pn.mk ?_))
  rw [add_mk, Nat.zero_add]
  refine LdI.fn (o := 1) (Own.drew hi) (by omega) rfl ?_
  -- the peer's bytes and close are not touched here
  have keep : ∀ {x' : PEM} {t : Nat} {y : PEM}, x'.E.S = x.E.S → x'.E.clo = x.E.clo → N[t]? = some y → ∃ y', (N.set j x')[t]? = some y' ∧ y'.E.S = y.E.S ∧ y'.E.clo = y.E.clo := fun {x' t y} e1 e2 hy => by
    by_cases q : t = j
    · subst q
      rw [hx] at hy
      cases hy
      exact ⟨x', set_get hx, e1, e2⟩
    · exact ⟨y, by rw [List.getElem?_set_ne (fun z => q z.symm)]; exact hy, rfl, rfl⟩
  obtain ⟨k, rfl, _⟩ := endCell r hx
  refine Pn.mk ⟨by omega, ?_⟩
  rw [Int.toNat_natCast, add2]
  refine endPutK (q := 10) (x' := { x with E := { x.E with st := X.st } }) h.drew o r hx (by omega) rfl rfl ⟨rfl, rfl, rfl⟩ ⟨rfl, rfl, rfl⟩ fun w1 h1 o1 r1 T1 => Pn.mk ⟨by omega, ?_⟩
  rw [add2]
  refine endPutK (q := 11) (x' := { x with E := { x.E with st := X.st, why := X.why } }) h1 o1 r1 (set_get hx) (by omega) rfl rfl ⟨rfl, rfl, rfl⟩ ⟨rfl, rfl, rfl⟩ fun w2 h2 o2 r2 T2 => ?_
  rw [set_set'] at h2 r2
  have T02 : ExtL lo w w2 [T_hostm_End] := ((ExtL.nil (Ext.drew [] w) _).trans T1).trans T2
  have os2 := T02.own os (by decide)
  have hi2 : InAt w2 ib X := T02.own hi (by decide)
  have fin : ∀ {w3 : World} {x' : PEM}, x' = { x with E := { x.E with st := X.st, why := X.why, was := x.E.was || decide (X.st = 3) } } → NetAt lo w3 p (N.set j x') del → ExtL lo w w3 [T_hostm_End] → hostm_Net_See.B7 (some ⟨p, 0, none⟩) s (j : Int) w3 R := fun {w3 x'} ex h3 T3 => by
    subst ex
    refine see7_ok (e := e) h3 (set_get hx) (T3.own os (by decide)) (T3.own hi (by decide)) hb hrd ?_ ?_ fun w' h' hT => hR w' ?_ (T3.trans hT)
    · intro q
      obtain ⟨t, y, t1, t2, t3⟩ := hoff q
      rw [set_set']
      obtain ⟨y', q1, q2, q3⟩ := keep (x' := { x with E := { x.E with st := X.st, why := X.why, was := x.E.was || decide (X.st = 3), off := offN x.E X } }) rfl rfl t2
      exact ⟨t, y', t1, q1, by rw [q2]; exact t3⟩
    · intro q q0
      obtain ⟨t, y, t1, t2, t3, t4⟩ := hpf q q0
      rw [set_set']
      obtain ⟨y', q1, q2, q3⟩ := keep (x' := { x with E := { x.E with st := X.st, why := X.why, was := x.E.was || decide (X.st = 3), off := offN x.E X } }) rfl rfl t2
      exact ⟨t, y', t1, q1, by rw [q3]; exact t3, by rw [q2]; exact t4⟩
    · rw [set_set'] at h'
      exact h'
  refine ndI h2 rfl (set_get hx) (by omega) rfl (Bm.mk (fun q => ?_) (fun q => ?_))
  · have q3 : X.st = 3 := beqT q
    refine ndSt (x' := { x with E := { x.E with st := X.st, why := X.why, was := true } }) h2 rfl (set_get hx) (by omega) rfl rfl ⟨rfl, rfl, rfl⟩ ⟨rfl, rfl, rfl⟩ fun w3 h3 T3 => ?_
    rw [set_set'] at h3
    exact fin (by rw [decide_eq_true q3, Bool.or_true]) h3 (T02.trans T3)
  · have q3 : ¬ X.st = 3 := beqF q
    exact fin (by rw [decide_eq_false q3, Bool.or_false]) h2 T02
end
end Go.Proofs.Qxb6500424aGreat
