/-
  host: the work: a datagram is delivered: how far the work is.
-/
import Derived.Test.Qxb6500424aGreatHsF
set_option linter.unusedVariables false
set_option linter.unusedSimpArgs false
namespace Go.Proofs.Qxb6500424aGreat
section
variable {T T' : Int} {t t' : Nat → TC} {G G' : List GE} {X X' : Nat → CS} {Lg Lg' : List LE} {i j k d : Nat} {g y g' y' : GE} {x z : CS} {q : Fg} {Q Qo Qn : List Fg} {O : List OutS} {μ : Int}
theorem TrAll.at (h : TrAll T G X G' X') (hi : G[i]? = some g) (hi' : G'[i]? = some g') (hl : g.gone = false) : Tr T G i g g' (X i) (X' i) := by
  obtain ⟨g2, h2, w⟩ := h i g hi
  rw [hi'] at h2
  cases h2
  rcases w with ⟨w, _⟩ | ⟨_, w⟩
  · rw [hl] at w; cases w
  · exact w
theorem TrAll.dead (h : TrAll T G X G' X') (hi : G[i]? = some g) (hi' : G'[i]? = some g') (hl : g.gone = true) : g' = g := by
  obtain ⟨g2, h2, w⟩ := h i g hi
  rw [hi'] at h2
  cases h2
  rcases w with ⟨_, w⟩ | ⟨w, _⟩
  · exact w
  · rw [hl] at w; cases w
theorem TrAll.kp (h : TrAll T G X G' X') (hi : G[i]? = some g) (hi' : G'[i]? = some g') : Kp g g' := by
  cases w : g.gone with
  | true => rw [h.dead hi hi' w]; exact Kp.refl g
  | false => exact (h.at hi hi' w).kp
/-- The numbers of an end that receives. -/
theorem rc_len (oo : OpenOk y g z) (dd : Dir g y) : (y.rc : Int) = (y.R.length : Int) + (z.B.A.length : Int) := by
  have := congrArg List.length oo.A
  rw [List.length_append, List.length_take] at this
  have u := dd.un
  have r := dd.rc
  omega
theorem ua_len (oo : OpenOk g y x) (dd : Dir g y) : (g.ua : Int) = (g.S.length : Int) - (x.S.D.length : Int) := by
  have := congrArg List.length oo.D
  rw [List.length_drop] at this
  have u := dd.un
  omega
/-- The peer stays as it is. -/
structure PeerSame (G G' : List GE) (y y' : GE) (z z' : CS) : Prop where
  kp : Kp y y'
  b : y.pf = false → (y.gone = true ∨ z.st = 4) → y'.pf = false ∧ (y'.gone = true ∨ z'.st = 4)
  al : y.gone = false → z.st = 3 → y'.gone = false
  nm : NoM y z → NoM y' z'
theorem peer_same (tr : TrAll T G X G' X') (hj : G[j]? = some y) (hj' : G'[j]? = some y') (e : y.gone = false → X' j = X j) : PeerSame G G' y y' (X j) (X' j) := by
  refine ⟨tr.kp hj hj', fun p w => ?_, fun hl h3 => ?_, fun w => ?_⟩
  · cases hl : y.gone with
    | true => rw [tr.dead hj hj' hl]; exact ⟨p, .inl hl⟩
    | false =>
      have tj := tr.at hj hj' hl
      rcases w with w | w
      · rw [hl] at w; cases w
      · exact ⟨by rw [(tj.frz (.inr (.inl w))).2.2]; exact p, .inr (by rw [e hl]; exact w)⟩
  · cases w : y'.gone with
    | false => rfl
    | true => have := (tr.at hj hj' hl).go w; omega
  · cases hl : y.gone with
    | true => rw [tr.dead hj hj' hl]; exact .inl hl
    | false =>
      rcases w with w | w | w
      · rw [hl] at w; cases w
      · exact .inr (.inl (by rw [e hl]; exact w))
      · exact .inr (.inr (by rw [e hl]; exact w))
theorem blk_same (s0 : Sys T t G X Lg) (s1 : Sys T' t' G' X' Lg') (sr : SameSR G G') (hi : G[i]? = some g) (hj : G[j]? = some y) (hp : Pair i j g y) (hi' : G'[i]? = some g') (hj' : G'[j]? = some y') (hp' : Pair i j g' y') (hl : y.gone = false) (hl' : y'.gone = false) (h3 : (X j).st = 3 ∨ ((X j).st = 4 ∧ (X j).why = 0)) (h3' : (X' j).st = 3 ∨ ((X' j).st = 4 ∧ (X' j).why = 0)) (eA : (X' j).B.A.length = (X j).B.A.length) : (y'.rc : Int) = y.rc ∧ g'.S.length = g.S.length := by
  have o0 := s0.ooJ hi hj hp hl h3
  have o1 := s1.ooJ hi' hj' hp' hl' h3'
  have r0 := rc_len o0 hp.dir.1
  have r1 := rc_len o1 hp'.dir.1
  rw [(sr j y y' hj hj').2.1, eA, ← r0] at r1
  exact ⟨r1, by rw [(sr i g g' hi hi').1]⟩
/-- The end is left alone, and its peer. -/
theorem d_other (h : DSt T t t' G G' X X' Lg Lg' d q O) (hi : G[i]? = some g) (hl : g.gone = false) (h3 : (X i).st = 3) (hj : G[j]? = some y) (hp : Pair i j g y)
    (hi' : G'[i]? = some g') (hl' : g'.gone = false) (h3' : (X' i).st = 3) (hj' : G'[j]? = some y') (hp' : Pair i j g' y') (ni : ¬ To g q) (nj : y.gone = false → ¬ To y q)
    (hz : Zc μ (q :: Qo) Qn g y (X i) (X j)) : Zc μ Qo (Qn ++ nwQ T d O) g' y' (X' i) (X' j) := by
  have kg := h.tr.kp hi hi'
  have ex : X' i = X i := h.hx.miss h.hd hi ni
  have ez : y.gone = false → X' j = X j := fun w => h.hx.miss h.hd hj (nj w)
  have ps := peer_same h.tr hj hj' ez
  rw [ex]
  rcases hz with hz | ⟨p1, p2⟩ | ⟨b1, b2, b3, b4, b5⟩ | ⟨m0, hf⟩ | ⟨m1, hf⟩ | ⟨s1, s2, s3, st⟩ | ⟨nm, af, w⟩
  · exact .inl hz
  · exact .inr (.inl (ps.b p1 p2))
  · have e := ez b1
    have gl := ps.al b1 b2
    obtain ⟨r1, r2⟩ := blk_same h.s0 h.s1 h.sr hi hj hp hi' hj' hp' b1 gl (.inl b2) (.inl (by rw [e]; exact b2)) (by rw [e])
    exact .inr (.inr (.inl ⟨gl, by rw [e]; exact b2, by rw [e]; exact b3, by rw [e]; exact b4, by omega⟩))
  · exact .inr (.inr (.inr (.inl ⟨m0, (hf.tail ni).kp kg⟩)))
  · exact .inr (.inr (.inr (.inr (.inl ⟨m1, (hf.kp kg).app⟩))))
  · have e := ez s1
    refine .inr (.inr (.inr (.inr (.inr (.inl ⟨ps.al s1 s2, by rw [e]; exact s2, by rw [e]; exact s3, ?_⟩)))))
    rcases st with a | ⟨a, b⟩ | ⟨a, b⟩ | ⟨a, b⟩ | a
    · exact .inl a
    · exact .inr (.inl ⟨(a.tail (nj s1)).kp ps.kp, b⟩)
    · exact .inr (.inr (.inl ⟨(a.tail ni).kp kg, b⟩))
    · exact .inr (.inr (.inr (.inl ⟨(a.kp kg).app, b⟩)))
    · exact .inr (.inr (.inr (.inr a)))
  · refine .inr (.inr (.inr (.inr (.inr (.inr ⟨ps.nm nm, (af.kp kg).app ?_, ?_⟩)))))
    · intro q' hq' to' ha'
      exfalso
      obtain ⟨o, ho, rfl⟩ := List.mem_map.1 hq'
      have hoO := (List.mem_filter.1 ho).1
      have ha2 : AckT o.2 := ha'
      have to := to'.kp' kg
      obtain ⟨hf, hab⟩ := h.il.seg h.s0
      rcases h.hx with ⟨a, k, b, ham, hk, r, p1, p2, p3, e1, e2⟩ | ⟨_, _, h0⟩
      · rw [e2] at hoO
        obtain ⟨s, hs, rfl⟩ := List.mem_map.1 hoO
        have has : AckT s := ha2
        have lv := h.s0.inv.live k b r.at_ r.gone
        obtain ⟨_, w2, _⟩ := in_outs lv.ok hf (fun w => (hab w).2.1) s hs has
        have hm : Mirror g b := by
          have t1 := to.d
          have t2 := to.c
          have t3 := to.sp
          have t4 := to.dp
          exact ⟨by rw [t2, r.h], by rw [r.rh]; exact t1, by rw [← t4, r.rp]; rfl, by rw [← t3, r.lp]; rfl⟩
        have hkj : k = j := by
          by_cases c : (X k).st = 3 ∨ (X k).st = 4
          · refine ack_of h.s0 hi hl h3 hj hp r.at_ r.gone ?_ hm
            rcases c with c | c
            · exact .inl c
            · refine .inr ⟨c, ?_⟩
              have e4 : (inputF q.2.s.1 q.2.s.2 (X k)).1 = X k := by unfold inputF; rw [if_pos c]; unfold quietF; split <;> rfl
              rw [e4] at w2
              rcases w2 with w | w
              · omega
              · exact w.2
          · have hk' : k < G'.length := by
              obtain ⟨b2, hb2, _⟩ := h.tr k b r.at_
              exact (List.getElem?_eq_some_iff.1 hb2).1
            obtain ⟨b2, hb2, _⟩ := h.tr k b r.at_
            have tk := h.tr.at r.at_ hb2 r.gone
            have eX : X' k = (inputF q.2.s.1 q.2.s.2 (X k)).1 := by rw [e1]; simp [updX]
            have bl : b2.gone = false := by
              cases w : b2.gone with
              | false => rfl
              | true => exact absurd (.inr (tk.go w).1) c
            have kb := tk.kp
            refine ack_of h.s1 hi' hl' h3' hj' hp' hb2 bl (by rw [eX]; exact w2) ⟨?_, ?_, ?_, ?_⟩
            · rw [kg.rh, kb.h]; exact hm.rh
            · rw [kb.rh, kg.h]; exact hm.rh2
            · rw [kg.lp, kb.rp]; exact hm.lp
            · rw [kg.rp, kb.lp]; exact hm.rp
        subst hkj
        have eb : b = y := by have := r.at_; rw [hj] at this; cases this; rfl
        subst eb
        exact nj r.gone ⟨by rw [r.h]; exact h.hd, p2, p3.symm, p1.symm⟩
      · have := h0 o hoO
        rcases ha2 with w | w <;> rw [w] at this <;> omega
    · rcases w with w | ⟨w1, w2, w3⟩
      · exact .inl w
      · exact .inr ⟨w1.tail.kp kg, w2, w3⟩
/-- The datagram is for the end itself. -/
theorem d_self (h : DSt T t t' G G' X X' Lg Lg' d q O) (hi : G[i]? = some g) (hl : g.gone = false) (h3 : (X i).st = 3) (hj : G[j]? = some y) (hp : Pair i j g y)
    (hi' : G'[i]? = some g') (hl' : g'.gone = false) (h3' : (X' i).st = 3) (hj' : G'[j]? = some y') (hp' : Pair i j g' y') (ti : To g q)
    (hz : Zc μ (q :: Qo) Qn g y (X i) (X j)) : Zc μ Qo (Qn ++ nwQ T d O) g' y' (X' i) (X' j) := by
  have kg := h.tr.kp hi hi'
  have he := h.s0.inv.ends
  have hne : j ≠ i := fun e => hp.ne hi hj e.symm
  obtain ⟨eX, O0, eO, eO2⟩ := h.hx.hit (h.s0.tab d h.d3) he hi hl ti h.hd
  subst eO
  have ex : X' i = (inputF q.2.s.1 q.2.s.2 (X i)).1 := by rw [eX]; simp [updX]
  have ez : X' j = X j := by rw [eX]; unfold updX; rw [if_neg hne]
  have ps := peer_same h.tr hj hj' (fun _ => ez)
  have ok := (h.s0.inv.live i g hi hl).ok
  rw [ex] at h3'
  have m := input_mo ok h3 h3'
  obtain ⟨hfl, hab⟩ := h.il.seg h.s0
  obtain ⟨rn1, rn2⟩ := roles_ne he hi hj hp
  have nty : ¬ To y q := fun w => rn1 (by rw [← ti.dp, ← w.dp])
  by_cases hr0 : rem (X i) = 0
  · exact .inl (by rw [ex]; have := m.le; omega)
  have hfa := fa_of ok h3 hr0
  by_cases hr1 : rem (X' i) = 0
  · exact .inl hr1
  rw [ex] at hr1 ⊢
  -- a full acknowledgement ends it
  have full : AckT q.2.s → (X i).fs = true → q.2.s.1.ak = endN (X i) → False := fun a b c => by
    obtain ⟨f1, f2, f3, f4⟩ := full_ackD ok h3 b hfa
    rcases input_ack ok h3 a (by rw [c]; exact f4) (by rw [c, f1]; exact f3) (by rw [c, f1]; exact f2) with w | ⟨_, w⟩
    · exact w h3'
    · exact hr1 (w (by rw [c, f1]; exact Int.le_refl _))
  have fullT : HasFull (q :: Qo) g (X i) → HasFull Qo g (X i) := fun w => by
    obtain ⟨f, q', a, b, c, e⟩ := w
    rcases List.mem_cons.1 a with v | v
    · subst v; exact (full c f e).elim
    · exact ⟨f, q', v, b, c, e⟩
  rcases hz with hz | ⟨p1, p2⟩ | ⟨b1, b2, b3, b4, b5⟩ | ⟨m0, hf⟩ | ⟨m1, hf⟩ | ⟨s1, s2, s3, st⟩ | ⟨nm, af, w⟩
  · exact absurd hz hr0
  · exact .inr (.inl (ps.b p1 p2))
  · have gl := ps.al b1 b2
    obtain ⟨r1, r2⟩ := blk_same h.s0 h.s1 h.sr hi hj hp hi' hj' hp' b1 gl (.inl b2) (.inl (by rw [ez]; exact b2)) (by rw [ez])
    exact .inr (.inr (.inl ⟨gl, by rw [ez]; exact b2, by rw [ez]; exact b3, by rw [ez]; exact b4, by omega⟩))
  · exact .inr (.inr (.inr (.inl ⟨m0, ((fullT hf).mo m).kp kg⟩)))
  · exact .inr (.inr (.inr (.inr (.inl ⟨m1, ((hf.mo m).kp kg).app⟩))))
  · refine .inr (.inr (.inr (.inr (.inr (.inl ⟨ps.al s1 s2, by rw [ez]; exact s2, by rw [ez]; exact s3, ?_⟩)))))
    have ml := m.le
    by_cases er : rem (inputF q.2.s.1 q.2.s.2 (X i)).1 = rem (X i)
    · rw [Stg, er]
      rcases st with ⟨a, b⟩ | ⟨a, b⟩ | ⟨a, b⟩ | ⟨a, b⟩ | ⟨a, b⟩
      · have := (m.same er).2.2.2.2 a
        exact .inl ⟨by omega, by rw [this]; exact b⟩
      · exact .inr (.inl ⟨((a.tail nty).same m er).kp ps.kp, b⟩)
      · obtain ⟨q', c1, c2, c3, c4, c5, c6⟩ := a
        rcases List.mem_cons.1 c1 with v | v
        · subst v
          exfalso
          rcases input_ack ok h3 c3 c4 c5 c6 with w | ⟨w, _⟩
          · exact w h3'
          · omega
        · exact .inr (.inr (.inl ⟨(HasAck.same ⟨q', v, c2, c3, c4, c5, c6⟩ h3 h3' m er).kp kg, b⟩))
      · exact .inr (.inr (.inr (.inl ⟨((a.same h3 h3' m er).kp kg).app, b⟩)))
      · exact .inr (.inr (.inr (.inr ⟨m.pg a, b⟩)))
    · refine .inr (.inr (.inr (.inr ⟨m.new (by omega), ?_⟩)))
      rcases st with ⟨a, b⟩ | ⟨a, b⟩ | ⟨a, b⟩ | ⟨a, b⟩ | ⟨a, b⟩ <;> omega
  · refine .inr (.inr (.inr (.inr (.inr (.inr ⟨ps.nm nm, ((af.mo m).kp kg).app ?_, ?_⟩)))))
    · intro q' hq' to' ha'
      exfalso
      obtain ⟨o, ho, rfl⟩ := List.mem_map.1 hq'
      have hoO := (List.mem_filter.1 ho).1
      rw [eO2] at hoO
      obtain ⟨s, hs, rfl⟩ := List.mem_map.1 hoO
      have t1 := (to'.kp' kg).sp
      exact rn2 t1
    · rcases w with w | ⟨w1, w2, w3⟩
      · exact .inl w
      · by_cases ha : AckT q.2.s
        · obtain ⟨f1, f2⟩ := w1 q (List.mem_cons_self ..) ti ha
          exact (full ha f1 f2).elim
        · have hq := input_quiet ok h3 h3' (by
            rcases hfl with v | v | v | v | v
            · exact .inl v
            · exact .inr (.inl v)
            · exact .inr (.inr (.inl v))
            · exact .inr (.inr (.inr (.inl v)))
            · exact absurd v ha)
          have et := (m.same hq.2).2.2.2.2 w2
          refine .inr ⟨(w1.tail.mo m).kp kg, by omega, ?_⟩
          unfold life at w3 ⊢
          rw [et, hq.1]
          exact w3
end
end Go.Proofs.Qxb6500424aGreat
