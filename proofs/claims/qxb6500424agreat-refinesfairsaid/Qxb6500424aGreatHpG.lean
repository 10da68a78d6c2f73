/-
  host: the plain law of the network: an open row's tick and its caller's calls.
-/
import Derived.Test.Qxb6500424aGreatHpF
set_option linter.unusedVariables false
set_option linter.unusedSimpArgs false
namespace Go.Proofs.Qxb6500424aGreat
/-- What the abstract network sees of an end is as it was. -/
structure Kp (g g2 : GE) : Prop where
  bt : g2.bt = g.bt
  h : g2.h = g.h
  sd : g2.sd = g.sd
  lp : g2.lp = g.lp
  rh : g2.rh = g.rh
  rp : g2.rp = g.rp
  cl : g2.cl = g.cl
structure Kq (g g2 : GE) : Prop extends Kp g g2 where
  pr : g2.pr = g.pr
  S : g2.S = g.S
  R : g2.R = g.R
  wc : g2.wc = g.wc
  ot : g2.ot = g.ot
theorem Kq.refl (g : GE) : Kq g g := ⟨⟨rfl, rfl, rfl, rfl, rfl, rfl, rfl⟩, rfl, rfl, rfl, rfl, rfl⟩
section
variable {T dp : Int} {tk tk' : Nat → Bool} {G : List GE} {X : Nat → CS} {Lg N : List LE} {i j : Nat} {g y g' g1 g2 : GE} {x x' : CS} {L : List SegV}
theorem Mv.kp {p : Int} {o : Option Int} (m : Mv { g with pot := p, ot := o } g') : Kp g { g' with et := g2.et } ∧ g'.pr = g.pr ∧ g'.ot = o ∧ g'.gone = g.gone := by
  have e := m.eq
  exact ⟨⟨by show g'.bt = _; rw [e], by show g'.h = _; rw [e], by show g'.sd = _; rw [e], by show g'.lp = _; rw [e], by show g'.rh = _; rw [e], by show g'.rp = _; rw [e], by show g'.cl = _; rw [e]⟩, by rw [e], by rw [e], by rw [e]⟩
/-- The credit is fresh. -/
theorem Cn.fresh {t r : Int} (h : Cn g y x) (hok : CsOk { x with cr := 12, tm := t, rt := r }) : Cn { g with pot := (g.nx : Int) + b2i g.fs + 12, ot := g.ot } y { x with cr := 12, tm := t, rt := r } := by
  refine ⟨hok.toCsW, h.st, ⟨h.oo.una, h.oo.D, h.oo.sent, h.oo.fs, h.oo.fa, h.oo.pf, h.oo.wc, h.oo.nxt, h.oo.A, h.oo.hv, fun _ => rfl⟩, ⟨h.d1.un, h.d1.fs, h.d1.fa, h.d1.rc, h.d1.pf, ?_⟩, ⟨h.d2.un, h.d2.fs, h.d2.fa, h.d2.rc, h.d2.pf, h.d2.pot⟩, h.iss⟩
  show (g.nx : Int) + b2i g.fs ≤ (g.nx : Int) + b2i g.fs + 12 ∧ (g.nx : Int) + b2i g.fs + 12 ≤ (g.nx : Int) + b2i g.fs + 12
  omega
theorem Inv.tick3 (h : Inv T tk G X Lg) (hi : G[i]? = some g) (hl : g.gone = false) (htk : ∀ k, k ≠ i → tk' k = tk k) (hti : tk' i = true) (hto : tk i = false) (h3 : (X i).st = 3) (ho : Out T g i (tickF (X i)).2 N) :
    ∃ g2, Inv T tk' (G.set i g2) (updX X i (tickF (X i)).1) (Lg ++ N) ∧ Kq g g2 ∧ g2.gone = false ∧ (tickF (X i)).1.st ≠ 0 ∧ ((tickF (X i)).1.st = 4 ∧ (tickF (X i)).1.why ≠ 0 → g2.rc = g.rc ∧ g2.fa = g.fa ∧ g2.pf = g.pf) := by
  obtain ⟨j, y, hj, hp, cn, o0, hot⟩ := h.cn hi hl h3
  have lv := h.live i g hi hl
  have to : tau T tk i = T - 1 := by unfold tau; rw [if_neg (by rw [hto]; decide)]
  have ti : tau T tk' i = T := by unfold tau; rw [if_pos hti]
  have het : g.et = none := lv.ne4 (by omega)
  have htmb := lv.ok.tm
  have hrt := lv.ok.rt
  have hfl : 0 < flying (X i) ↔ 0 < (X i).tm := (lv.ok.live (by omega)).2.2
  have hpot := cn.d1.pot
  -- behind the fresh credit
  have go : ∀ {t r : Int} {L0 : List SegV} {N' : List LE}, CsOk { X i with cr := 12, tm := t, rt := r } → (∀ s ∈ L0, AS { g with pot := (g.nx : Int) + b2i g.fs + 12, ot := g.ot } y s) → Out T g i (L0 ++ (pumpF { X i with cr := 12, tm := t, rt := r }).2) N' → ∃ g2, Inv T tk' (G.set i g2) (updX X i (pumpF { X i with cr := 12, tm := t, rt := r }).1) (Lg ++ N') ∧ Kq g g2 ∧ g2.gone = false ∧ (pumpF { X i with cr := 12, tm := t, rt := r }).1.st ≠ 0 ∧ ((pumpF { X i with cr := 12, tm := t, rt := r }).1.st = 4 ∧ (pumpF { X i with cr := 12, tm := t, rt := r }).1.why ≠ 0 → g2.rc = g.rc ∧ g2.fa = g.fa ∧ g2.pf = g.pf) := fun {t r L0 N'} hok hL0 ho' => by
    have cn1 := cn.fresh hok
    obtain ⟨g', gg⟩ := pump_go cn1
    obtain ⟨g2, iv, e2⟩ := h.openStep (p := (g.nx : Int) + b2i g.fs + 12) (dp := 12) (tk' := tk') (x' := (pumpF { X i with cr := 12, tm := t, rt := r }).1) hi hl het (.inl hot) hj hp (by omega) (by rw [to, ti]; omega) htk hti gg.cn (by have m := gg.mv; rw [hot] at m; exact m) (L := L0 ++ (pumpF { X i with cr := 12, tm := t, rt := r }).2) (fun s hs => by
      rcases List.mem_append.1 hs with q | q
      · exact (hL0 s q).mv gg.mv cn1.d1.un.2.1
      · exact gg.seg s q) (.inl ⟨rfl, pumpF_ok hok⟩) ho'
    obtain ⟨k1, k2, k3, k4⟩ := gg.mv.kp (g2 := g2)
    refine ⟨g2, iv, ?_, by rw [e2]; show g'.gone = false; rw [k4]; exact hl, by rw [gg.cn.st]; decide, fun q => (by rw [gg.cn.st] at q; exact absurd q.1 (by decide))⟩
    rw [e2]
    exact ⟨k1, k2, gg.kp.1, gg.kp.2.1, gg.kp.2.2, k3⟩
  unfold tickF at ho ⊢
  rw [if_neg (by omega), if_neg (by omega)] at ho ⊢
  by_cases c0 : 0 < (X i).tm
  · rw [if_pos c0] at ho ⊢
    by_cases c1 : (X i).tm - 1 = 0
    · rw [if_pos c1] at ho ⊢
      by_cases c2 : (X i).rt = 3
      · rw [if_pos c2] at ho ⊢
        have k := h.bad (why := 19) (q := 10) (N := N) hi hl htk hti (by decide) (by decide) (.inl ⟨het, rfl⟩) (fun e he => by obtain ⟨s, hs', _⟩ := ho e he; cases hs')
        exact ⟨_, k, ⟨⟨rfl, rfl, rfl, rfl, rfl, rfl, rfl⟩, rfl, rfl, rfl, rfl, rfl⟩, hl, by decide, fun _ => ⟨rfl, rfl, rfl⟩⟩
      · rw [if_neg c2] at ho ⊢
        have ea : armF { X i with cr := 12, tm := (X i).tm - 1, rt := (X i).rt + 1 } = { X i with cr := 12, tm := 2 * 2 ^ ((X i).rt + 1).toNat, rt := (X i).rt + 1 } := by
          rw [armF_eq]
          show ({ X i with cr := 12, tm := if (X i).tm - 1 = 0 then 2 * 2 ^ ((X i).rt + 1).toNat else (X i).tm - 1, rt := (X i).rt + 1 } : CS) = _
          rw [if_pos c1]
        rw [ea] at ho ⊢
        have hb := arm_tm (C := { X i with rt := (X i).rt + 1 }) (by show 0 ≤ (X i).rt + 1 ∧ (X i).rt + 1 ≤ 3; omega)
        have hok : CsOk { X i with cr := 12, tm := 2 * 2 ^ ((X i).rt + 1).toNat, rt := (X i).rt + 1 } := live_ok lv.ok (.inr (.inr h3)) (by decide) (by have hb1 : 2 ≤ (2 : Int) * 2 ^ ((X i).rt + 1).toNat := hb.1; have hb2 : (2 : Int) * 2 ^ ((X i).rt + 1).toNat ≤ 16 := hb.2; omega) (by omega) ⟨fun _ => (by have hb1 : 2 ≤ (2 : Int) * 2 ^ ((X i).rt + 1).toNat := hb.1; omega), fun _ => hfl.2 c0⟩
        have cn1 := cn.fresh hok
        exact go (L0 := [againF { X i with cr := 12, tm := 2 * 2 ^ ((X i).rt + 1).toNat, rt := (X i).rt + 1 }]) hok (fun s hs => by
          simp only [List.mem_singleton] at hs
          subst hs
          exact cn1.again (hfl.2 c0)) ho
    · rw [if_neg c1] at ho ⊢
      have hok : CsOk { X i with cr := 12, tm := (X i).tm - 1, rt := (X i).rt } := live_ok lv.ok (.inr (.inr h3)) (by decide) (by omega) hrt ⟨fun _ => (by omega), fun _ => hfl.2 c0⟩
      exact go (L0 := []) hok (fun s hs => by cases hs) ho
  · rw [if_neg c0] at ho ⊢
    have hok : CsOk { X i with cr := 12, tm := (X i).tm, rt := (X i).rt } := live_ok lv.ok (.inr (.inr h3)) (by decide) htmb hrt hfl
    exact go (L0 := []) hok (fun s hs => by cases hs) ho
/-- A tick of any row. -/
theorem Inv.tickRow (h : Inv T tk G X Lg) (hi : G[i]? = some g) (hl : g.gone = false) (htk : ∀ k, k ≠ i → tk' k = tk k) (hti : tk' i = true) (hto : tk i = false) (ho : Out T g i (tickF (X i)).2 N) :
    ∃ g2, Inv T tk' (G.set i g2) (updX X i (tickF (X i)).1) (Lg ++ N) ∧ Kq g g2 ∧ (g2.gone = true ↔ (tickF (X i)).1.st = 0) ∧ (g2.gone = true ∨ (X i).st = 4 ∨ ((tickF (X i)).1.st = 4 ∧ (tickF (X i)).1.why ≠ 0) → g2.rc = g.rc ∧ g2.fa = g.fa ∧ g2.pf = g.pf) := by
  have lv := h.live i g hi hl
  have hst := lv.ok.st
  have hnz := lv.nz
  by_cases h4 : (X i).st = 4
  · obtain ⟨g2, iv, e1, e2, e3⟩ := h.tickQ hi hl htk hti hto h4
    have hN : N = [] := by
      cases N with
      | nil => rfl
      | cons e N => obtain ⟨s, hs, _⟩ := ho e (by simp); rw [e1] at hs; cases hs
    subst hN
    rw [List.append_nil]
    exact ⟨g2, iv, by rw [e2]; exact ⟨⟨rfl, rfl, rfl, rfl, rfl, rfl, rfl⟩, rfl, rfl, rfl, rfl, rfl⟩, e3, fun _ => by rw [e2]; exact ⟨rfl, rfl, rfl⟩⟩
  · by_cases h3 : (X i).st = 3
    · obtain ⟨g2, iv, k, gn, ne, fz⟩ := h.tick3 hi hl htk hti hto h3 ho
      exact ⟨g2, iv, k, ⟨fun q => (by rw [gn] at q; cases q), fun q => absurd q ne⟩, fun q => (by rcases q with q | q | q; rw [gn] at q; cases q; exact absurd q h4; exact fz q)⟩
    · obtain ⟨g2, iv, k, ne⟩ := h.tickO hi hl htk hti hto (by omega) ho
      refine ⟨g2, iv, by rw [k]; exact ⟨⟨rfl, rfl, rfl, rfl, rfl, rfl, rfl⟩, rfl, rfl, rfl, rfl, rfl⟩, ⟨fun q => ?_, fun q => absurd q ne⟩, fun _ => by rw [k]; exact ⟨rfl, rfl, rfl⟩⟩
      rw [k] at q
      have q' : g.gone = true := q
      rw [hl] at q'
      cases q'
/-! ### the caller's calls, at rest -/
theorem rest_same (hti : tk i = true) : (12 : Int) * (tau T tk i - tau T tk i) = 0 := by omega
theorem putA_take (P : List Int) (S : SbS) : (putA P S).2.D = S.D ++ P.take (putA P S).1 ∧ (putA P S).2.una = S.una ∧ (putA P S).2.sent = S.sent ∧ (putA P S).1 ≤ P.length := by
  unfold putA
  exact ⟨rfl, rfl, rfl, by show min P.length (16 - S.D.length) ≤ P.length; omega⟩
/-- Send on an open row that may still send. -/
theorem Inv.send {P : List Int} (h : Inv T tk G X Lg) (hi : G[i]? = some g) (hl : g.gone = false) (hti : tk i = true) (h3 : (X i).st = 3) (hP : IsB P) (h0 : (sendF P (X i)).2.e = 0) (ho : Out T g i (sendF P (X i)).2.G N) :
    ∃ g2 k, (sendF P (X i)).1 = ((k : Nat) : Int) ∧ k ≤ P.length ∧ g.wc = false ∧ Inv T tk (G.set i g2) (updX X i (sendF P (X i)).2.C) (Lg ++ N) ∧ Kp g g2 ∧ g2.pr = g.pr ∧ g2.S = g.S ++ P.take k ∧ g2.R = g.R ∧ g2.wc = g.wc ∧ g2.gone = false ∧ g2.ot = g.ot := by
  obtain ⟨j, y, hj, hp, cn, o0, hot⟩ := h.cn hi hl h3
  have lv := h.live i g hi hl
  have hcs := sendF_ok (P := P) lv.ok hP
  unfold sendF at hcs h0 ho ⊢
  rw [if_neg (by omega), if_neg (by omega), if_neg (by omega)] at hcs h0 ho ⊢
  by_cases c1 : (X i).wc = true
  · rw [if_pos c1] at h0; cases h0
  rw [if_neg c1] at hcs h0 ho ⊢
  by_cases c2 : 0 < P.length ∧ (X i).S.D.length = 16
  · rw [if_pos c2] at h0; cases h0
  rw [if_neg c2] at hcs h0 ho ⊢
  have hwc : g.wc = false := by rw [← cn.oo.wc]; simpa using c1
  obtain ⟨p1, p2, p3, p4⟩ := putA_take P (X i).S
  have hun := cn.d1.un
  have hsl := lv.ok.sent
  obtain ⟨q1, q2, q3⟩ := lv.ok.openn h3
  have hfs : g.fs = false := by
    cases e : g.fs with
    | false => rfl
    | true => have := (cn.d1.fs e).2; rw [hwc] at this; cases this
  have hxfs : (X i).fs = false := by rw [cn.oo.fs]; exact hfs
  have hxfa : (X i).fa = false := by
    cases e : (X i).fa with
    | false => rfl
    | true => have := q1 e; rw [hxfs] at this; cases this
  have okS := putA_ok lv.ok.S hP
  have hfly : flying { X i with S := (putA P (X i).S).2 } = flying (X i) := by
    unfold flying
    show (if (X i).st = 1 ∨ (X i).st = 2 then (1 : Int) else if (X i).fs = true ∧ (X i).fa = false then ((putA P (X i).S).2.sent : Int) + 1 else ((putA P (X i).S).2.sent : Int)) = _
    rw [p3]
  have okx : CsW { X i with S := (putA P (X i).S).2 } := by
    have w := lv.ok.toCsW
    refine ⟨okS, w.B, w.st, w.iss, w.pw, w.tm, w.rt, w.cr, w.qt, fun c => ?_, fun c => ?_, fun c => ?_, fun c => ?_, fun c => ?_, fun c => ⟨fun e => ?_, fun e => ?_, fun e => ?_, fun e => ?_⟩⟩
    · have c' : (X i).st = 0 := c; omega
    · have c' : (X i).st = 4 := c; omega
    · have c' : (X i).st = 4 := c; omega
    · rw [hfly]; exact w.live (by omega)
    · have c' : (X i).st = 1 ∨ (X i).st = 2 := c; omega
    · have e' : (X i).fa = true := e; rw [hxfa] at e'; cases e'
    · have e' : (X i).fs = true := e; rw [hxfs] at e'; cases e'
    · have e' : (X i).fs = true := e; rw [hxfs] at e'; cases e'
    · have e' : (X i).fa = true := e; rw [hxfa] at e'; cases e'
  have hypf : y.pf = false := by
    cases e : y.pf with
    | false => rfl
    | true => have := (cn.d1.pf e).1; rw [hfs] at this; cases this
  let gb : GE := { g with S := g.S ++ P.take (putA P (X i).S).1, ot := some o0 }
  have hgl : g.S.length ≤ gb.S.length := by show g.S.length ≤ (g.S ++ P.take (putA P (X i).S).1).length; simp
  have cnb : Cn gb y { X i with S := (putA P (X i).S).2 } := by
    refine ⟨okx, h3, ⟨by show (putA P (X i).S).2.una = _; rw [p2]; exact cn.oo.una, ?_, by show g.ua + (putA P (X i).S).2.sent = g.nx; rw [p3]; exact cn.oo.sent, cn.oo.fs, cn.oo.fa, cn.oo.pf, cn.oo.wc, cn.oo.nxt, cn.oo.A, cn.oo.hv, cn.oo.cr⟩, ⟨⟨hun.1, by show g.nx ≤ gb.S.length; omega, hun.2.2⟩, fun e => ?_, cn.d1.fa, cn.d1.rc, fun e => ?_, cn.d1.pot⟩, ⟨cn.d2.un, cn.d2.fs, cn.d2.fa, cn.d2.rc, cn.d2.pf, cn.d2.pot⟩, cn.iss⟩
    · show (putA P (X i).S).2.D = (g.S ++ P.take (putA P (X i).S).1).drop g.ua
      rw [p1, cn.oo.D, List.drop_append_of_le_length (by omega)]
    · have e' : g.fs = true := e; rw [hfs] at e'; cases e'
    · rw [hypf] at e; cases e
  have mvb : Mv { g with pot := g.pot, ot := some o0 } gb := ⟨rfl, ⟨_, rfl⟩, Nat.le_refl _, Int.le_refl _, fun q => ⟨q, rfl⟩⟩
  obtain ⟨g', gg⟩ := pump_go cnb
  have hmv := mvb.trans gg.mv
  obtain ⟨g2, iv, e2⟩ := h.openStep (p := g.pot) (dp := 0) (tk' := tk) (x' := (pumpF { X i with S := (putA P (X i).S).2 }).1) hi hl (lv.ne4 (by omega)) (.inl hot) hj hp (by omega) (by omega) (fun k _ => rfl) hti gg.cn hmv gg.seg (.inl ⟨rfl, hcs⟩) ho
  obtain ⟨k1, k2, k3, k4⟩ := hmv.kp (g2 := g2)
  refine ⟨g2, (putA P (X i).S).1, rfl, p4, hwc, iv, by rw [e2]; exact k1, by rw [e2]; exact k2, by rw [e2]; exact gg.kp.1, by rw [e2]; exact gg.kp.2.1, by rw [e2]; exact gg.kp.2.2, by rw [e2]; show g'.gone = false; rw [k4]; exact hl, by rw [e2]; show g'.ot = g.ot; rw [k3, hot]⟩
/-- Close on an open row that has not closed. -/
theorem Inv.close (h : Inv T tk G X Lg) (hi : G[i]? = some g) (hl : g.gone = false) (hti : tk i = true) (h3 : (X i).st = 3) (h0 : (closeF (X i)).e = 0) (ho : Out T g i (closeF (X i)).G N) :
    ∃ g2, Inv T tk (G.set i g2) (updX X i (closeF (X i)).C) (Lg ++ N) ∧ Kp g g2 ∧ g2.pr = g.pr ∧ g2.S = g.S ∧ g2.R = g.R ∧ g2.wc = true ∧ g2.gone = false ∧ g2.ot = g.ot := by
  obtain ⟨j, y, hj, hp, cn, o0, hot⟩ := h.cn hi hl h3
  have lv := h.live i g hi hl
  have hcs := closeF_ok lv.ok
  unfold closeF at hcs h0 ho ⊢
  rw [if_neg (by omega), if_neg (by omega), if_neg (by omega)] at hcs h0 ho ⊢
  by_cases c1 : (X i).wc = true
  · rw [if_pos c1] at h0; cases h0
  rw [if_neg c1] at hcs h0 ho ⊢
  have okx : CsW { X i with wc := true } := by
    have w := lv.ok.toCsW
    obtain ⟨q1, q2, q3, q4⟩ := w.openn h3
    refine ⟨w.S, w.B, w.st, w.iss, w.pw, w.tm, w.rt, w.cr, w.qt, fun c => ?_, fun c => ?_, fun c => ?_, fun c => w.live (by omega), fun c => ?_, fun c => ⟨q1, fun _ => rfl, q3, q4⟩⟩
    · have c' : (X i).st = 0 := c; omega
    · have c' : (X i).st = 4 := c; omega
    · have c' : (X i).st = 4 := c; omega
    · have c' : (X i).st = 1 ∨ (X i).st = 2 := c; omega
  let gb : GE := { g with wc := true, ot := some o0 }
  have cnb : Cn gb y { X i with wc := true } := ⟨okx, h3, ⟨cn.oo.una, cn.oo.D, cn.oo.sent, cn.oo.fs, cn.oo.fa, cn.oo.pf, rfl, cn.oo.nxt, cn.oo.A, cn.oo.hv, cn.oo.cr⟩, ⟨cn.d1.un, fun e => ⟨(cn.d1.fs e).1, rfl⟩, cn.d1.fa, cn.d1.rc, cn.d1.pf, cn.d1.pot⟩, ⟨cn.d2.un, cn.d2.fs, cn.d2.fa, cn.d2.rc, cn.d2.pf, cn.d2.pot⟩, cn.iss⟩
  have mvb : Mv { g with pot := g.pot, ot := some o0 } gb := ⟨rfl, ⟨[], by simp [gb]⟩, Nat.le_refl _, Int.le_refl _, fun q => ⟨q, rfl⟩⟩
  obtain ⟨g', gg⟩ := pump_go cnb
  have hmv := mvb.trans gg.mv
  obtain ⟨g2, iv, e2⟩ := h.openStep (p := g.pot) (dp := 0) (tk' := tk) (x' := (pumpF { X i with wc := true }).1) hi hl (lv.ne4 (by omega)) (.inl hot) hj hp (by omega) (by omega) (fun k _ => rfl) hti gg.cn hmv gg.seg (.inl ⟨rfl, hcs⟩) ho
  obtain ⟨k1, k2, k3, k4⟩ := hmv.kp (g2 := g2)
  refine ⟨g2, iv, by rw [e2]; exact k1, by rw [e2]; exact k2, by rw [e2]; exact gg.kp.1, by rw [e2]; exact gg.kp.2.1, by rw [e2]; exact gg.kp.2.2, by rw [e2]; show g'.gone = false; rw [k4]; exact hl, by rw [e2]; show g'.ot = g.ot; rw [k3, hot]⟩
end
end Go.Proofs.Qxb6500424aGreat
