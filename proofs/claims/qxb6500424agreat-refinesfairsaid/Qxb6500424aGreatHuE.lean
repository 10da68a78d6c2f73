/-
  host: fair weather: a datagram at a row: retries and full acknowledgements.
-/
import Derived.Test.Qxb6500424aGreatHuD
set_option linter.unusedVariables false
set_option linter.unusedSimpArgs false
namespace Go.Proofs.Qxb6500424aGreat
section
variable {b T T0 T1 : Int} {t t' : Nat → TC} {H : Nat → HS} {Wo Wo1 Wn Fs W : List FL} {G G' : List GE} {X X' : Nat → CS} {M M' : Nat → List DG} {Lg Lg' : List LE} {i j k l c n d m kk : Nat} {g y g' y' gm gm' : GE} {x x' z z' : CS} {f : FL} {q : DG} {O : List OutS}
theorem HS1.kp (h : HS1 T M W g x) (kp : Kp g g') : HS1 T M W g' x := by
  obtain ⟨q, a, b, r⟩ := h
  exact ⟨q, a, b.kp kp, r⟩
theorem HF.kp (h : HF T M W g x) (kp : Kp g g') : HF T M W g' x := by
  obtain ⟨e, q, a, b, r⟩ := h
  exact ⟨e, q, a, b.kp kp, r⟩
theorem HS1.app (h : HS1 T M Wn g x) (mx : MExt M M') : HS1 T M' (Wn ++ Fs) g x := by
  obtain ⟨q, a, r⟩ := h
  exact ⟨q, (a.ext mx).app, r⟩
theorem HF.app (h : HF T M Wn g x) (mx : MExt M M') : HF T M' (Wn ++ Fs) g x := by
  obtain ⟨e, q, a, r⟩ := h
  exact ⟨e, q, (a.ext mx).app, r⟩
theorem HS1.same {x' : CS} (h : HS1 T M W g x) (h3 : x.st = 3) (h3' : x'.st = 3) (m : Mo x x') (e : rem x' = rem x) : HS1 T M W g x' := by
  obtain ⟨q, a, b, c, e1, e2⟩ := h
  obtain ⟨s1, s2, s3, s4, s5⟩ := m.same e
  have ed : ackD q.2.s.1.ak x' = ackD q.2.s.1.ak x := by unfold ackD sndUna; rw [s1, s4]
  have := fly_mono h3 h3' s3 m.fs s4
  exact ⟨q, a, b, c, by rw [ed]; exact e1, by rw [ed]; omega⟩
theorem HF.mo (h : HF T M W g x) (m : Mo x x') : HF T M W g x' := by
  obtain ⟨a, q, b, c, d, e⟩ := h
  exact ⟨m.fs a, q, b, c, d, by rw [m.endn]; exact e⟩
/-- A datagram for another leaves these. -/
theorem HS1.keep (h : HS1 T M Wo g x) (dv : DvF T t t' H Wo Wo1 Fs G G' X X' M M' Lg Lg' d c n kk f q O) (hn : ¬ To g (c, q)) : HS1 T M' Wo1 g x := by
  obtain ⟨q0, a, to, r⟩ := h
  rcases a.keep dv.lk dv.fo dv.sub with z | z
  · rw [z] at to; exact absurd to hn
  · exact ⟨q0, z.ext dv.mx, to, r⟩
theorem HF.keep (h : HF T M Wo g x) (dv : DvF T t t' H Wo Wo1 Fs G G' X X' M M' Lg Lg' d c n kk f q O) (hn : ¬ To g (c, q)) : HF T M' Wo1 g x := by
  obtain ⟨e, q0, a, to, r⟩ := h
  rcases a.keep dv.lk dv.fo dv.sub with z | z
  · rw [z] at to; exact absurd to hn
  · exact ⟨e, q0, z.ext dv.mx, to, r⟩
theorem HasFlyF.kp (h : HasFlyF T M W y x) (kp : Kp y y') : HasFlyF T M W y' x := by
  obtain ⟨f, a, c, n, i, g, b, e, to, r⟩ := h
  exact ⟨f, a, c, n, i, g, b, e, to.kp kp, r⟩
theorem Fly.same {s : SegV} (h : Fly x s) (m : Mo x x') (e : rem x' = rem x) : Fly x' s := by
  obtain ⟨c, d⟩ := h
  obtain ⟨s1, s2, s3, s4, s5⟩ := m.same e
  refine ⟨by rw [s1]; exact c, ?_⟩
  rcases d with ⟨d1, d2, d3⟩ | ⟨d1, d2, d3, d4, d5⟩
  · exact .inl ⟨d1, d2, by rw [s2]; exact d3⟩
  · exact .inr ⟨d1, d2, by rw [s2]; exact d3, m.fs d4, by rw [s4]; exact d5⟩
theorem HasFlyF.same (h : HasFlyF T M W y x) (m : Mo x x') (e : rem x' = rem x) : HasFlyF T M W y x' := by
  obtain ⟨f, a, c, n, i, g, b, e1, to, r⟩ := h
  exact ⟨f, a, c, n, i, g, b, e1, to, r.same m e⟩
theorem fly_next (dv : DvF T t t' H Wo Wo1 Fs G G' X X' M M' Lg Lg' d c n kk f q O) (ag : Ages Wo Wn) (h : HasFlyF T M Wo y x) (hn : ¬ (To y (c, q) ∧ Fly x q.s)) : HasFlyF T M' Wo1 y x := by
  obtain ⟨f0, a, c0, n0, i0, g0, fo, e, to, fl⟩ := h
  rcases dv.sub f0 a with z | z
  · subst z
    have := ag.o f0 a
    obtain ⟨z1, _, z3⟩ := fo.uniq dv.lk dv.fo this.1 (by omega)
    subst z1
    subst z3
    exact absurd ⟨to, fl⟩ hn
  · exact ⟨f0, z, c0, n0, i0, g0, fo.ext dv.mx, e, to, fl⟩
/-- An end that the datagram does not concern. -/
theorem Rp.keep (h : Rp b T Wo Wn M g y x) (dv : DvF T t t' H Wo Wo1 Fs G G' X X' M M' Lg Lg' d c n kk f q O) (ag : Ages Wo Wn) (kp : Kp g g') (kpy : Kp y y') (hn : ¬ To g (c, q))
    (hfl : To y (c, q) → Fly x q.s → HS1 T M' (Wn ++ Fs) g' x) : Rp b T Wo1 (Wn ++ Fs) M' g' y' x := by
  rcases h with h | ⟨h, r⟩ | ⟨h, hb, r⟩
  · exact .inl h
  · refine .inr (.inl ⟨h, ?_⟩)
    rcases r with r | ⟨e, r⟩ | ⟨e, eb, r⟩ | r
    · exact .inl ((r.keep dv hn).kp kp)
    · exact .inr (.inl ⟨e, (r.app dv.mx).kp kp⟩)
    · by_cases c1 : To y (c, q) ∧ Fly x q.s
      · exact .inr (.inl ⟨by omega, hfl c1.1 c1.2⟩)
      · exact .inr (.inr (.inl ⟨e, eb, (fly_next dv ag r c1).kp kpy⟩))
    · exact .inr (.inr (.inr r))
  · refine .inr (.inr ⟨h, hb, ?_⟩)
    rcases r with ⟨r, e⟩ | ⟨e, r, e2⟩ | ⟨e, r, e2⟩
    · exact .inl ⟨(r.keep dv hn).kp kp, e⟩
    · exact .inr (.inl ⟨e, (r.app dv.mx).kp kp, e2⟩)
    · by_cases c1 : To y (c, q) ∧ Fly x q.s
      · exact .inr (.inl ⟨by omega, hfl c1.1 c1.2, e2⟩)
      · exact .inr (.inr ⟨e, (fly_next dv ag r c1).kp kpy, e2⟩)
/-- The end that the datagram is for. -/
theorem Rp.hit (h : Rp b T Wo Wn M g y x) (dv : DvF T t t' H Wo Wo1 Fs G G' X X' M M' Lg Lg' d c n kk f q O) (ag : Ages Wo Wn) (kp : Kp g g') (kpy : Kp y y') (hny : ¬ To y (c, q))
    (ok : CsOk x) (h3 : x.st = 3) (ex : x' = (inputF q.s.1 q.s.2 x).1) (h3' : x'.st = 3) (hrg : 0 ≤ q.s.1.ak ∧ q.s.1.ak < 256) : Rp b T Wo1 (Wn ++ Fs) M' g' y' x' := by
  have mo : Mo x x' := by rw [ex] at h3' ⊢; exact input_mo ok h3 h3'
  by_cases r0 : x'.rt = 0
  · exact .inl r0
  have er : x'.rt = x.rt := mo.rt.resolve_right r0
  have em : rem x' = rem x := by
    have := mo.le
    by_cases e : rem x' < rem x
    · exact absurd (mo.new e).1 r0
    · omega
  obtain ⟨_, _, _, _, stm⟩ := mo.same em
  -- an acknowledgement in flight: this one or another
  have wo : HS1 T M Wo g x → HS1 T M' Wo1 g' x' := fun r => by
    obtain ⟨q0, a, to, ak, e1, e2⟩ := r
    rcases a.keep dv.lk dv.fo dv.sub with z | z
    · exfalso
      rw [z] at ak e1 e2
      apply r0
      rw [ex] at h3' ⊢
      exact in_rt0 ok h3 h3' ak hrg e1 e2
    · exact HS1.kp (HS1.same ⟨q0, z.ext dv.mx, to, ak, e1, e2⟩ h3 h3' mo em) kp
  have wn : HS1 T M Wn g x → HS1 T M' (Wn ++ Fs) g' x' := fun r => ((r.app dv.mx).same h3 h3' mo em).kp kp
  have fl : HasFlyF T M Wo y x → HasFlyF T M' Wo1 y' x' := fun r => ((fly_next dv ag r (fun z => hny z.1)).same mo em).kp kpy
  rcases h with h | ⟨h, r⟩ | ⟨h, hb, r⟩
  · exact absurd (er.trans h) r0
  · refine .inr (.inl ⟨er.trans h, ?_⟩)
    rcases r with r | ⟨e, r⟩ | ⟨e, eb, r⟩ | ⟨e, r⟩
    · exact .inl (wo r)
    · exact .inr (.inl ⟨by rw [stm (by omega)]; exact e, wn r⟩)
    · exact .inr (.inr (.inl ⟨by rw [stm (by omega)]; exact e, eb, fl r⟩))
    · exact .inr (.inr (.inr (by rw [stm (by omega)]; exact ⟨e, r⟩)))
  · refine .inr (.inr ⟨er.trans h, hb, ?_⟩)
    rcases r with ⟨r, e⟩ | ⟨e, r, e2⟩ | ⟨e, r, e2⟩
    · exact .inl ⟨wo r, e⟩
    · exact .inr (.inl ⟨by rw [stm (by omega)]; exact e, wn r, e2⟩)
    · exact .inr (.inr ⟨by rw [stm (by omega)]; exact e, fl r, e2⟩)
/-- The end that the datagram is for: its full acknowledgement. -/
theorem Fin1.hit (h : Fin1 T Wo Wn M g x z) (dv : DvF T t t' H Wo Wo1 Fs G G' X X' M M' Lg Lg' d c n kk f q O) (kp : Kp g g') (ok : CsOk x) (h3 : x.st = 3) (ex : x' = (inputF q.s.1 q.s.2 x).1) (h3' : x'.st = 3) (hrg : 0 ≤ q.s.1.ak ∧ q.s.1.ak < 256) : Fin1 T Wo1 (Wn ++ Fs) M' g' x' z := fun zp xf => by
  have mo : Mo x x' := by rw [ex] at h3' ⊢; exact input_mo ok h3 h3'
  have xf0 : x.fa = false := by
    cases e : x.fa with
    | false => rfl
    | true =>
      have r0 := rem_fa ok h3 e
      have := mo.le
      have s4 := (mo.same (by omega)).2.2.2.1
      rw [xf, e] at s4
      cases s4
  rcases h zp xf0 with ⟨r, e⟩ | ⟨r, e⟩
  · refine .inl ⟨?_, e⟩
    obtain ⟨fs, q0, a, to, ak, en⟩ := r
    rcases a.keep dv.lk dv.fo dv.sub with w | w
    · exfalso
      rw [w] at ak en
      have ak' : AckT q.s := ak
      have en' : q.s.1.ak = endN x := en
      obtain ⟨f1, f2, f3, _⟩ := full_ackD ok h3 fs xf0
      rw [← en'] at f1
      rcases input_ack (s := q.s) ok h3 ak' hrg (by omega) (by omega) with w2 | ⟨_, w2⟩
      · rw [ex] at h3'; exact w2 h3'
      · have r0 := w2 (by omega)
        rw [← ex] at r0
        have wc : x'.wc = true := by rw [mo.wc]; exact (ok.openn h3).2.1 fs
        unfold rem at r0
        rw [if_pos ⟨wc, xf⟩] at r0
        omega
    · exact (HF.mo ⟨fs, q0, w.ext dv.mx, to, ak, en⟩ mo).kp kp
  · exact .inr ⟨((r.app dv.mx).mo mo).kp kp, e⟩
/-- The peer of the end that the datagram is for. -/
theorem Fin1.peer (h : Fin1 T Wo Wn M g x z) (dv : DvF T t t' H Wo Wo1 Fs G G' X X' M M' Lg Lg' d c n kk f q O) (kp : Kp g g') (hn : ¬ To g (c, q)) (hq : z'.st = 4 → z.st ≠ 4 → z'.qt = 10) (hq4 : z.st = 4 → z' = z) (hnew : z.pf = false → z'.pf = true → x.fa = false → HF T M' (Wn ++ Fs) g' x) : Fin1 T Wo1 (Wn ++ Fs) M' g' x z' := fun zp xf => by
  cases e : z.pf with
  | false =>
    refine .inr ⟨hnew e zp xf, fun w4 => hq w4 fun w => ?_⟩
    rw [hq4 w, e] at zp
    cases zp
  | true =>
    have b9 : (z.st = 4 → 9 ≤ z.qt) → (z'.st = 4 → 9 ≤ z'.qt) := fun a w => by
      by_cases c4 : z.st = 4
      · rw [hq4 c4]; exact a c4
      · rw [hq w c4]; decide
    have b10 : (z.st = 4 → z.qt = 10) → (z'.st = 4 → z'.qt = 10) := fun a w => by
      by_cases c4 : z.st = 4
      · rw [hq4 c4]; exact a c4
      · exact hq w c4
    rcases h e xf with ⟨r, a⟩ | ⟨r, a⟩
    · exact .inl ⟨(r.keep dv hn).kp kp, b9 a⟩
    · exact .inr ⟨(r.app dv.mx).kp kp, b10 a⟩
end
end Go.Proofs.Qxb6500424aGreat
