/-
  host: the abstract network's memory: See of an end that is known.
-/
import Derived.Test.Qxb6500424aGreatHnD
set_option linter.unusedVariables false
set_option linter.unusedSimpArgs false
open Go.Vc
namespace Go.Proofs.Qxb6500424aGreat
section
variable {lo : Nat} {w w' : World} {p s ib : Nat} {N : List PEM} {del : Nat → Int} {j c : Nat} {x : PEM} {e : Sk.Ent} {X : CS}
theorem delCell (h : NetAt lo w p N del) (hc : c < 3) : w.cell? (Addr.add (Addr.add ⟨p, 0, none⟩ 1) ((c : Int).toNat * 1)) = some (.int .i64 (del c)) := by
  obtain ⟨b, l, cc, o, r⟩ := h.ex
  rw [Int.toNat_natCast, Nat.mul_one, add2]
  match c, hc with
  | 0, _ => exact o.cell rfl
  | 1, _ => exact o.cell rfl
  | 2, _ => exact o.cell rfl
theorem mapE {t : Nat} {Ep : PE} (h : (N.map (·.E))[t]? = some Ep) : ∃ y, N[t]? = some y ∧ y.E = Ep := by
  rw [List.getElem?_map] at h
  cases hy : N[t]? with
  | none => rw [hy] at h; cases h
  | some y => rw [hy] at h; exact ⟨y, rfl, by simpa using h⟩
theorem see4_ok {pe' : Int} {R : Bool → World → Prop} (h : NetAt lo w p N del) (hn : N.length ≤ 1152921504606846976) (hc : c < 3) (hx : N[j]? = some x) (hh : x.E.h = c) (hrh : 1 ≤ x.E.rh ∧ x.E.rh ≤ 255) (os : Own w s (siArr e (some ⟨ib, 0, none⟩)) 69) (hi : InAt w ib X) (hb : x.E.R.length + X.B.A.length ≤ 1152921504606846976)
    (so : SeeOld (N.map (·.E)) (del c) j x.E e.par e.rdy X pe') (hR : ∀ w', NetAt lo w' p (N.set j { x with E := seenE x.E pe' X }) del → ExtL lo w w' [T_hostm_End] → R true w') :
    hostm_Net_See.B4 (some ⟨p, 0, none⟩) (c : Int) s (j : Int) (decide (x.E.st ≠ 3 ∧ X.st = 3)) w R := by
  unfold hostm_Net_See.B4
  have go6 : ∀ {w1 : World}, NetAt lo w1 p (N.set j { x with E := { x.E with peer := pe' } }) del → ExtL lo w w1 [T_hostm_End] → hostm_Net_See.B6 (some ⟨p, 0, none⟩) s (j : Int) w1 R := fun {w1} h1 T1 => by
    have up : ∀ {t : Nat} {Ep : PE}, (N.map (·.E))[t]? = some Ep → ∃ y, (N.set j { x with E := { x.E with peer := pe' } })[t]? = some y ∧ y.E.S = Ep.S ∧ y.E.clo = Ep.clo := fun {t Ep} ht => by
      obtain ⟨y, hy, rfl⟩ := mapE ht
      by_cases q : t = j
      · subst q
        rw [hx] at hy
        cases hy
        exact ⟨_, set_get hx, rfl, rfl⟩
      · exact ⟨y, by rw [List.getElem?_set_ne (fun z => q z.symm)]; exact hy, rfl, rfl⟩
    refine see6_ok (e := e) h1 (set_get hx) (T1.own os (by decide)) (T1.own hi (by decide)) hb so.rdy ?_ ?_ fun w' h' hT => hR w' ?_ (T1.trans hT)
    · intro q
      obtain ⟨t, Ep, t1, t2, t3⟩ := so.off q
      obtain ⟨y, y1, y2, _⟩ := up t2
      exact ⟨t, y, t1, y1, by rw [y2]; exact t3⟩
    · intro q q0
      obtain ⟨t, Ep, t1, t2, t3, t4⟩ := so.pf q q0
      obtain ⟨y, y1, y2, y3⟩ := up t2
      exact ⟨t, y, t1, y1, by rw [y3]; exact t3, by rw [y2]; exact t4⟩
    · rw [set_set'] at h'
      exact h'
  have same : pe' = x.E.peer → (N.set j { x with E := { x.E with peer := pe' } }) = N := fun q => by
    have : ({ x with E := { x.E with peer := pe' } } : PEM) = x := by rw [q]
    rw [this, set_same hx]
  refine Bm.ite (fun q => Pn.mk ⟨by omega, LdI.cell (delCell h hc) (Bm.mk (fun z => absurd (beqT z) (so.del q.1 q.2)) (fun z => ndB h rfl hx (by omega) rfl (Bm.mk (fun qc => ?_) (fun qc => ?_))))⟩) (fun q => ?_)
  · obtain ⟨t, Ep, lt, tp, te⟩ := so.opc q.1 q.2 qc
    refine ndI h.drew rfl hx (by omega) rfl (ndI h.drew rfl hx (by omega) rfl (ndI h.drew rfl hx (by omega) rfl ?_))
    rw [w64 (by omega) (by omega), w64 (by omega) (by omega)]
    have lt' : LatestN (N.map (·.E)) (x.E.rh - 1) x.E.rp ((c : Int) + 1) x.E.lp false t Ep := by rw [← hh]; exact lt
    refine latest_ok h.drew hn lt' (Bm.neg (decide_eq_false (by omega)) ?_)
    obtain ⟨y, hy, rfl⟩ := mapE lt.at_
    refine ndI h.drew (j := t) rfl hy (by omega) rfl ?_
    unfold hostm_Net_See.B5
    refine Bm.neg (by rw [tp]; simp) ?_
    refine ndSt (x' := { x with E := { x.E with peer := pe' } }) h.drew rfl hx (by omega) rfl (by rw [te]; rfl) ⟨rfl, rfl, rfl⟩ ⟨rfl, rfl, rfl⟩ fun w1 h1 T1 => go6 h1 ((ExtL.nil (Ext.drew [] w) _).trans T1)
  · obtain ⟨t, Ep, t1, t2, t3, t4⟩ := so.opk q.1 q.2 (by simpa using qc)
    obtain ⟨y, hy, rfl⟩ := mapE t2
    refine ndPI h.drew rfl hx t1 hy (by omega) rfl (Bm.neg (by rw [t3]; simp) ?_)
    have := go6 (w1 := w.drew) (by rw [same t4]; exact h.drew) (ExtL.nil (Ext.drew [] w) _)
    exact this
  · have q' : x.E.st = 3 ∨ X.st ≠ 3 := by
      by_cases z : x.E.st = 3
      · exact .inl z
      · exact .inr (fun w => q ⟨z, w⟩)
    exact go6 (by rw [same (so.opn q')]; exact h) (ExtL.refl _ _)
theorem see3_ok {pe' : Int} {R : Bool → World → Prop} (h : NetAt lo w p N del) (hn : N.length ≤ 1152921504606846976) (hc : c < 3) (hx : N[j]? = some x) (hh : x.E.h = c) (hrh : 1 ≤ x.E.rh ∧ x.E.rh ≤ 255) (os : Own w s (siArr e (some ⟨ib, 0, none⟩)) 69) (hi : InAt w ib X) (hb : x.E.R.length + X.B.A.length ≤ 1152921504606846976)
    (so : SeeOld (N.map (·.E)) (del c) j x.E e.par e.rdy X pe') (hR : ∀ w', NetAt lo w' p (N.set j { x with E := seenE x.E pe' X }) del → ExtL lo w w' [T_hostm_End] → R true w') :
    hostm_Net_See.B3 (some ⟨p, 0, none⟩) (c : Int) s (j : Int) false w R := by
  unfold hostm_Net_See.B3
  have go := see4_ok (e := e) h hn hc hx hh hrh os hi hb so hR
  refine Bm.neg rfl (ndI h rfl hx (by omega) rfl (Bm.mk (fun q => LdP.mk os rfl (Pn.mk (LdI.fn (o := 0) hi (by omega) rfl ?_))) (fun q => ?_)))
  · have q' : x.E.st ≠ 3 := bneT q
    have : decide (x.E.st ≠ 3 ∧ X.st = 3) = (X.st == 3) := by
      by_cases z : X.st = 3 <;> simp [z, q']
    rw [this] at go
    exact go
  · have q' : x.E.st = 3 := by simpa using q
    have : decide (x.E.st ≠ 3 ∧ X.st = 3) = false := decide_eq_false (fun z => z.1 q')
    rw [this] at go
    exact go
/-- See of an end that is known. -/
theorem seeOld_ok {pe' : Int} {R : Bool → World → Prop} (h : NetAt lo w p N del) (hn : N.length ≤ 1152921504606846976) (hc : c < 3) (hx : N[j]? = some x) (hh : x.E.h = c) (hsd : x.E.sd = e.sd) (hu : ∀ (k : Nat) y, N[k]? = some y → y.E.h = c → y.E.sd = e.sd → k = j) (hrh : 1 ≤ x.E.rh ∧ x.E.rh ≤ 255) (hi : InAt w ib X) (hb : x.E.R.length + X.B.A.length ≤ 1152921504606846976)
    (so : SeeOld (N.map (·.E)) (del c) j x.E e.par e.rdy X pe') (hR : ∀ w', NetAt lo w' p (N.set j { x with E := seenE x.E pe' X }) del → ExtL lo w w' [T_hostm_End] → R true w') :
    hostm_Net_See.Call (some ⟨p, 0, none⟩) (c : Int) e.sd e.kind e.lp e.rh e.rp e.slot e.par e.rdy (some ⟨ib, 0, none⟩) w R := by
  apply hostm_Net_See.sound
  unfold hostm_Net_See.B0
  refine New.mk fun s_ w1 es hs1 os he1 => Bm.neg (decide_eq_false (by omega)) ?_
  have os1 : Own w1 s_ (siArr e (some ⟨ib, 0, none⟩)) 69 := os
  have h1 := h.ext0 he1
  have hi1 : InAt w1 ib X := he1.own hi (by simp)
  rw [decide_eq_false (show ¬ (c : Int) ≥ 3 by omega)]
  unfold hostm_Net_See.B1
  refine Bm.neg rfl (LdI.mk os1 rfl (nFind_ok h1 hn (fun k y hy e1 e2 => ?_) (fun hno => absurd ⟨by rw [hh], hsd⟩ (hno j x hx))))
  have ek := hu k y hy (by omega) e2
  subst ek
  refine Bm.neg (decide_eq_false (by omega)) ?_
  have go := see3_ok (e := e) (R := R) h1.drew hn hc hx hh hrh os1.drew (Own.drew hi1) hb so (fun w' h' hT => hR w' h' ((ExtL.nil (he1.trans (Ext.drew [] _)) _).trans hT))
  refine ndB h1.drew rfl hx (by omega) rfl (Bm.neg so.gone (ndI h1.drew rfl hx (by omega) rfl (LdP.mk os1.drew rfl (Pn.mk (LdI.fn (o := 0) (Own.drew hi1) (by omega) rfl ?_)))))
  refine mayStep_ok so.may (Bm.neg rfl (ndI h1.drew rfl hx (by omega) rfl (Bm.mk (fun q4 => ?_) (fun q4 => go))))
  refine ndI h1.drew rfl hx (by omega) rfl (LdP.mk os1.drew rfl (Pn.mk ?_))
  rw [add_mk, Nat.zero_add]
  refine LdI.fn (o := 1) (Own.drew hi1) (by omega) rfl (Bm.mk (fun qw => ?_) (fun qw => go))
  rcases so.why (beqT q4) with z | ⟨z1, z2⟩
  · exact absurd z (bneT qw)
  · refine ndI h1.drew rfl hx (by omega) rfl (Bm.pos (by rw [z1]; rfl) (LdP.mk os1.drew rfl (Pn.mk ?_)))
    rw [add_mk, Nat.zero_add]
    refine LdI.fn (o := 1) (Own.drew hi1) (by omega) rfl ?_
    rw [z2]
    exact go
end
end Go.Proofs.Qxb6500424aGreat
