/-
  host: the plain law of the network: an end is born; nothing is under way at the start; the clock.
-/
import Derived.Test.Qxb6500424aGreatHpJ
set_option linter.unusedVariables false
set_option linter.unusedSimpArgs false
namespace Go.Proofs.Qxb6500424aGreat
section
variable {T dp : Int} {tk tk' : Nat → Bool} {G : List GE} {X : Nat → CS} {Lg N : List LE} {i j jj o a : Nat} {g y g' g1 g2 x0 yy : GE} {x x' : CS} {L : List SegV} {e : LE}
theorem get_app {k : Nat} (h : G[k]? = some y) : (G ++ [g])[k]? = some y := by
  rw [List.getElem?_append_left (List.getElem?_eq_some_iff.1 h).1]
  exact h
theorem app_cases {k : Nat} (h : (G ++ [g])[k]? = some y) : (k = G.length ∧ y = g) ∨ (k < G.length ∧ G[k]? = some y) := by
  by_cases q : k < G.length
  · rw [List.getElem?_append_left q] at h
    exact .inr ⟨q, h⟩
  · rw [List.getElem?_append_right (by omega)] at h
    have : k - G.length = 0 := by
      apply Classical.byContradiction
      intro hn
      rw [List.getElem?_eq_none (by simp; omega)] at h
      cases h
    rw [this] at h
    simp at h
    exact .inl ⟨by omega, h.symm⟩
theorem SegInv.app {τ : Nat → Int} (h : SegInv τ G e) : SegInv τ (G ++ [g]) e := by
  rcases h with s | ⟨y, s⟩ | ⟨y, q0, p, s⟩ | ⟨x0, yy, jj, o, a, s⟩
  · exact .inl s
  · exact .inr (.inl ⟨y, s.fl, s.D, get_app s.at_, s.cl, s.src, s.sq, s.bt, s.et, s.ot⟩)
  · exact .inr (.inr (.inl ⟨y, q0, p, s.fl, s.D, get_app s.at_, s.cl, s.src, s.pr, get_app s.ap, s.sq, s.ak, s.bt, s.et⟩))
  · exact .inr (.inr (.inr ⟨x0, yy, jj, o, a, s.fl, get_app s.at_, s.src, get_app s.aj, s.pair, s.sq, s.ak, s.dat, s.fin, s.rc, s.pot, s.q, s.len, s.isB⟩))
/-- An end is born. -/
theorem Inv.push (h : Inv T tk G X Lg) (hti : tk G.length = true) (hbt : g.bt = T) (htm : TimeOk T g) (hz : Zero g) (hot : g.ot = none) (hgn : g.gone = false) (hlv : Live T (G ++ [g]) G.length g x) (hfree : ∀ (k : Nat) z, G[k]? = some z → SameT z g → z.gone = true)
    (hro : (g.cl = true → 8 ≤ g.lp) ∧ (g.cl = false → g.lp ≤ 7)) (hkid : g.cl = false → ∃ p q, G[p]? = some q ∧ Kid g q p) (hpr : g.cl = true → g.pr = none) (hN : ∀ e ∈ N, e.t = T ∧ SegInv (tau T tk) (G ++ [g]) e) : Inv T tk (G ++ [g]) (updX X G.length x) (Lg ++ N) := by
  have hE := h.ends
  refine ⟨⟨fun k y hy => ?_, fun k y hy hc => ?_, fun k x hx hc j hj => ?_, fun k x hx hc o ho => ?_, fun k y hy hc o ho => ?_, fun a b x y hab hx hy hs => ?_, fun k y hy => ?_⟩, fun k y hy ho => ?_, fun k y hy hg => ?_, fun e he ha => ?_⟩
  · rcases app_cases hy with ⟨_, rfl⟩ | ⟨_, hy'⟩
    · exact htm
    · exact hE.time k y hy'
  · rcases app_cases hy with ⟨_, rfl⟩ | ⟨_, hy'⟩
    · obtain ⟨p, q, hq, kd⟩ := hkid hc
      exact ⟨p, q, get_app hq, kd⟩
    · obtain ⟨p, q, hq, kd⟩ := hE.kid k y hy' hc
      exact ⟨p, q, get_app hq, kd⟩
  · rcases app_cases hx with ⟨_, rfl⟩ | ⟨_, hx'⟩
    · rw [hpr hc] at hj; cases hj
    · obtain ⟨y, hy, es⟩ := hE.est k x hx' hc j hj
      exact ⟨y, get_app hy, es⟩
  · rcases app_cases hx with ⟨_, rfl⟩ | ⟨_, hx'⟩
    · rw [hot] at ho; cases ho
    · exact hE.ot k x hx' hc o ho
  · rcases app_cases hy with ⟨_, rfl⟩ | ⟨_, hy'⟩
    · rw [hot] at ho; cases ho
    · obtain ⟨p, q, hq, es⟩ := hE.kot k y hy' hc o ho
      exact ⟨p, q, get_app hq, es⟩
  · rcases app_cases hx with ⟨ka, rfl⟩ | ⟨ka, hx'⟩
    · rcases app_cases hy with ⟨kb, rfl⟩ | ⟨kb, hy'⟩ <;> omega
    · rcases app_cases hy with ⟨kb, rfl⟩ | ⟨kb, hy'⟩
      · have hg := hfree a x hx' hs
        obtain ⟨e, he, hle⟩ := (hE.time a x hx').gone hg
        exact ⟨hg, e, he, by rw [hbt]; exact hle⟩
      · exact hE.two a b x y hab hx' hy' hs
  · rcases app_cases hy with ⟨_, rfl⟩ | ⟨_, hy'⟩
    · exact hro
    · exact hE.roles k y hy'
  · rcases app_cases hy with ⟨_, rfl⟩ | ⟨_, hy'⟩
    · exact hz
    · exact h.zero k y hy' ho
  · rcases app_cases hy with ⟨kk, rfl⟩ | ⟨kk, hy'⟩
    · subst kk
      have e1 : updX X G.length x G.length = x := by simp [updX]
      have e2 : tau T tk G.length = T := by unfold tau; rw [if_pos hti]
      rw [e1, e2]
      exact hlv
    · have e1 : updX X G.length x k = X k := by unfold updX; rw [if_neg (by omega)]
      rw [e1]
      have lv := h.live k y hy' hg
      refine ⟨lv.ok, lv.nz, lv.e4, lv.ne4, lv.op, lv.s1, fun q => ?_, fun q => ?_⟩
      · obtain ⟨c, p, q0, z1, z2, z3⟩ := lv.s2 q
        exact ⟨c, p, q0, z1, get_app z2, z3⟩
      · obtain ⟨j, y0, hj, rest⟩ := lv.s3 q
        exact ⟨j, y0, get_app hj, rest⟩
  · rcases List.mem_append.1 he with q | q
    · have := h.seg e q ha
      exact ⟨this.1, this.2.app⟩
    · have := hN e q
      exact ⟨by omega, this.2⟩
/-- A client is born. -/
def newC (T : Int) (c : Nat) (sd lp rh rp : Int) : GE := ⟨c, sd, lp, rh, rp, true, none, [], [], T % 256, T, none, none, 0, 0, false, false, 0, false, false, 11, false⟩
theorem begin_el (st iss : Int) : el (beginF st iss) = 0 := by unfold el beginF; rfl
theorem Inv.connect {c : Nat} {sd lp rh rp : Int} (h : Inv T tk G X Lg) (hT : 0 ≤ T) (hti : tk G.length = true) (hlp : 8 ≤ lp) (hfree : ∀ (k : Nat) z, G[k]? = some z → z.h = c → z.lp = lp → z.rh = rh → z.rp = rp → z.gone = true)
    (ho : Out T (newC T c sd lp rh rp) G.length [againF (beginF 1 (T % 256))] N) : Inv T tk (G ++ [newC T c sd lp rh rp]) (updX X G.length (beginF 1 (T % 256))) (Lg ++ N) := by
  have hok : CsOk (beginF 1 (T % 256)) := begin_ok (B := resetR 0) (pw := 0) (.inl rfl) (fun _ => rfl) (resetR_ok 0) (by decide)
  have hiss : (beginF 1 (T % 256)).iss = T % 256 := sqAdd0 (by omega)
  have hat : (G ++ [newC T c sd lp rh rp])[G.length]? = some (newC T c sd lp rh rp) := by simp
  refine h.push hti rfl ⟨⟨hT, Int.le_refl _⟩, rfl, fun e he => (by cases he), fun o ho => (by cases ho), fun q => (by cases q)⟩ ⟨rfl, rfl, ⟨rfl, rfl, rfl⟩, ⟨rfl, rfl, rfl, rfl⟩, by show (0 : Int) ≤ 11 ∧ (11 : Int) ≤ 12; decide⟩ rfl rfl ⟨hok, by show (1 : Int) ≠ 0; decide, fun q => (by cases q), fun _ => rfl, fun _ => ⟨hiss, ?_, rfl, rfl, rfl⟩, fun _ => rfl, fun q => (by cases q), fun q => (by rcases q with q | ⟨q, _⟩ <;> cases q)⟩ (fun k z hz hs => hfree k z hz hs.h hs.lp hs.rh hs.rp) ⟨fun _ => hlp, fun q => (by cases q)⟩ (fun q => (by cases q)) (fun _ => rfl) (ho.inv fun s hs => ?_)
  · rw [begin_el]
    show T - T = 0
    omega
  · simp only [List.mem_singleton] at hs
    subst hs
    exact again_inv hok (.inl rfl) hat hiss ⟨Int.le_refl _, by show T ≤ T + 29; omega⟩ rfl rfl (fun _ => rfl) (fun q => by cases q)
/-- A child is born of a SYN. -/
def newK (T : Int) (c : Nat) (sd lp rh rp : Int) (p : Nat) : GE := ⟨c, sd, lp, rh, rp, false, some p, [], [], T % 256, T, none, none, 0, 0, false, false, 0, false, false, 11, false⟩
theorem Inv.child {c : Nat} {sd : Int} {q0 : GE} (h : Inv T tk G X Lg) (hT : 0 ≤ T) (hti : tk G.length = true) (hem : e ∈ Lg) (ht : T - 4 ≤ e.t) (hs : SegSyn G e q0) (hd : e.d = (c : Int) + 1) (hlp : e.s.1.dp ≤ 7)
    (hfree : ∀ (k : Nat) z, G[k]? = some z → z.h = c → z.lp = e.s.1.dp → z.rh = (e.c : Int) + 1 → z.rp = e.s.1.sp → z.gone = true)
    (ho : Out T (newK T c sd e.s.1.dp ((e.c : Int) + 1) e.s.1.sp e.o) G.length (openPF (T % 256) e.s.1 C0).G N) :
    Inv T tk (G ++ [newK T c sd e.s.1.dp ((e.c : Int) + 1) e.s.1.sp e.o]) (updX X G.length (openPF (T % 256) e.s.1 C0).C) (Lg ++ N) ∧ (openPF (T % 256) e.s.1 C0).e = 0 ∧ (openPF (T % 256) e.s.1 C0).C.st = 2 ∧ (∀ (k : Nat) z, G[k]? = some z → SameT q0 z → k ≤ e.o) := by
  have hle := (h.seg e hem ht).1
  have hop : openPF (T % 256) e.s.1 C0 = ⟨{ beginF 2 (T % 256) with B := resetR (sqAdd e.s.1.sq 1), pw := windowF e.s.1.wn }, [againF { beginF 2 (T % 256) with B := resetR (sqAdd e.s.1.sq 1), pw := windowF e.s.1.wn }], 0⟩ := by
    unfold openPF
    rw [if_neg (by decide), if_neg (by rw [hs.fl]; decide)]
  rw [hop] at ho ⊢
  have hok : CsOk { beginF 2 (T % 256) with B := resetR (sqAdd e.s.1.sq 1), pw := windowF e.s.1.wn } := begin_ok (.inr rfl) (fun q => by cases q) (resetR_ok _) (windowF_bd _)
  have hiss : (beginF 2 (T % 256)).iss = T % 256 := sqAdd0 (by omega)
  have hf := hs.src
  have hb := hs.bt
  have htq := h.ends.time e.o q0 hs.at_
  have hm : Mirror q0 (newK T c sd e.s.1.dp ((e.c : Int) + 1) e.s.1.sp e.o) := ⟨by rw [hf.rh]; exact hd, by show (e.c : Int) + 1 = (q0.h : Int) + 1; rw [hf.h], hf.lp, hf.rp⟩
  have hne : e.o ≠ G.length := fun q => by have := (List.getElem?_eq_some_iff.1 hs.at_).1; omega
  have hat : (G ++ [newK T c sd e.s.1.dp ((e.c : Int) + 1) e.s.1.sp e.o])[G.length]? = some (newK T c sd e.s.1.dp ((e.c : Int) + 1) e.s.1.sp e.o) := by simp
  have hel : el { beginF 2 (T % 256) with B := resetR (sqAdd e.s.1.sq 1), pw := windowF e.s.1.wn } = 0 := begin_el 2 (T % 256)
  have s2 : (newK T c sd e.s.1.dp ((e.c : Int) + 1) e.s.1.sp e.o).cl = false ∧ ∃ p q, (newK T c sd e.s.1.dp ((e.c : Int) + 1) e.s.1.sp e.o).pr = some p ∧ (G ++ [newK T c sd e.s.1.dp ((e.c : Int) + 1) e.s.1.sp e.o])[p]? = some q ∧ ({ beginF 2 (T % 256) with B := resetR (sqAdd e.s.1.sq 1), pw := windowF e.s.1.wn } : CS).B = resetR (sqAdd q.iss 1) := ⟨rfl, e.o, q0, rfl, get_app hs.at_, by show resetR (sqAdd e.s.1.sq 1) = _; rw [hs.sq]⟩
  refine ⟨h.push hti rfl ⟨⟨hT, Int.le_refl _⟩, rfl, fun e he => (by cases he), fun o ho => (by cases ho), fun q => (by cases q)⟩ ⟨rfl, rfl, ⟨rfl, rfl, rfl⟩, ⟨rfl, rfl, rfl, rfl⟩, by show (0 : Int) ≤ 11 ∧ (11 : Int) ≤ 12; decide⟩ rfl rfl ⟨hok, by show (2 : Int) ≠ 0; decide, fun q => (by cases q), fun _ => rfl, fun _ => ⟨hiss, ?_, rfl, rfl, rfl⟩, fun q => (by cases q), fun _ => s2, fun q => (by rcases q with q | ⟨q, _⟩ <;> cases q)⟩ (fun k z hz hs' => hfree k z hz hs'.h hs'.lp hs'.rh hs'.rp) ⟨fun q => (by cases q), fun _ => hlp⟩ (fun _ => ⟨e.o, q0, hs.at_, rfl, hs.cl, rfl, hm, ⟨by show q0.bt ≤ T; omega, by show T ≤ q0.bt + 33; omega⟩, fun e' he' => ?_, fun o ho => ?_⟩) (fun q => (by cases q)) (ho.inv fun s hs' => ?_), rfl, rfl, fun k z hz hst => ?_⟩
  · rw [hel]
    show T - T = 0
    omega
  · have := hs.et e' he'
    show T - 4 ≤ e'
    omega
  · have := hs.ot o ho
    show T - 4 ≤ o
    omega
  · simp only [List.mem_singleton] at hs'
    subst hs'
    exact again_inv hok (.inr rfl) hat hiss ⟨Int.le_refl _, by show T ≤ T + 29; omega⟩ rfl rfl (fun q => by cases q) (fun _ => s2)
  · apply Classical.byContradiction
    intro hlt
    obtain ⟨_, e', he', hb'⟩ := h.ends.two e.o k q0 z (by omega) hs.at_ hz hst
    have := hs.et e' he'
    have := (h.ends.time k z hz).bt
    omega
/-- At the start. -/
theorem Inv.start (X : Nat → CS) : Inv 0 (fun _ => true) [] X [] :=
  ⟨⟨fun i g h => (by cases h), fun i g h => (by cases h), fun i g h => (by cases h), fun i g h => (by cases h), fun i g h => (by cases h), fun i k x y _ h => (by cases h), fun i g h => (by cases h)⟩, fun i g h => (by cases h), fun i g h => (by cases h), fun e he => (by cases he)⟩
/-- The clock moves: no row has ticked yet. -/
theorem Inv.clock (h : Inv T (fun _ => true) G X Lg) : Inv (T + 1) (fun _ => false) G X Lg := by
  have hE := h.ends
  have t1 : ∀ k, tau (T + 1) (fun _ => false) k = T := fun k => by unfold tau; rw [if_neg (by simp)]; omega
  have t2 : ∀ k, tau T (fun _ => true) k = T := fun k => by unfold tau; simp
  refine ⟨⟨fun k y hy => ?_, hE.kid, hE.est, hE.ot, hE.kot, hE.two, hE.roles⟩, h.zero, fun k y hy hg => ?_, fun e he ha => ?_⟩
  · have := hE.time k y hy
    refine ⟨⟨this.bt.1, by have := this.bt; omega⟩, this.iss, fun e he => ?_, fun o ho => ?_, fun q => ?_⟩
    · have := this.et e he; omega
    · have := this.ot o ho; exact ⟨this.1, by omega, this.2.2⟩
    · obtain ⟨e, h1, h2⟩ := this.gone q
      exact ⟨e, h1, by omega⟩
  · have := h.live k y hy hg
    rw [t2] at this
    rw [t1]
    exact this
  · obtain ⟨tle, inv⟩ := h.seg e he (by omega)
    refine ⟨by omega, ?_⟩
    rcases inv with s | ⟨y, s⟩ | ⟨y, q0, p, s⟩ | ⟨x0, yy, jj, o, a, s⟩
    · exact .inl s
    · exact .inr (.inl ⟨y, s⟩)
    · exact .inr (.inr (.inl ⟨y, q0, p, s⟩))
    · refine .inr (.inr (.inr ⟨x0, yy, jj, o, a, s.fl, s.at_, s.src, s.aj, s.pair, s.sq, s.ak, fun hd => ?_, s.fin, s.rc, ?_, s.q, s.len, s.isB⟩))
      · have := s.dat hd
        rw [t2] at this
        rw [t1]
        exact this
      · have := s.pot
        rw [t2] at this
        rw [t1]
        exact this
/-- Every row has ticked. -/
theorem Inv.ticked (h : Inv T tk G X Lg) (hall : ∀ (k : Nat) g, G[k]? = some g → g.gone = false → tk k = true) : Inv T (fun _ => true) G X Lg := by
  have t2 : ∀ k, tau T (fun _ => true) k = T := fun k => by unfold tau; simp
  refine ⟨h.ends, h.zero, fun k y hy hg => ?_, fun e he ha => ?_⟩
  · have := h.live k y hy hg
    have tt : tau T tk k = T := by unfold tau; rw [if_pos (hall k y hy hg)]
    rw [tt] at this
    rw [t2]
    exact this
  · obtain ⟨tle, inv⟩ := h.seg e he ha
    refine ⟨tle, ?_⟩
    rcases inv with s | ⟨y, s⟩ | ⟨y, q0, p, s⟩ | ⟨x0, yy, jj, o, a, s⟩
    · exact .inl s
    · exact .inr (.inl ⟨y, s⟩)
    · exact .inr (.inr (.inl ⟨y, q0, p, s⟩))
    · refine .inr (.inr (.inr ⟨x0, yy, jj, o, a, s.fl, s.at_, s.src, s.aj, s.pair, s.sq, s.ak, fun hd => ?_, s.fin, s.rc, ?_, s.q, s.len, s.isB⟩))
      · obtain ⟨d1, d2, d3, d4⟩ := s.dat hd
        have := tau_ge T tk e.o
        rw [t2]
        exact ⟨d1, d2, by omega, d4⟩
      · have := s.pot
        have := tau_ge T tk jj
        rw [t2]
        omega
/-- A row that is gone need not tick. -/
theorem Inv.skip (h : Inv T tk G X Lg) (hg : ∀ g, G[i]? = some g → g.gone = true) : Inv T (updT tk i true) G X Lg := by
  have tne : ∀ k, k ≠ i → tau T (updT tk i true) k = tau T tk k := fun k hk => by unfold tau updT; rw [if_neg hk]
  have tle' : ∀ k, tau T tk k ≤ tau T (updT tk i true) k := fun k => by
    by_cases q : k = i
    · have h1 := tau_ge T tk k
      have h2 : tau T (updT tk i true) k = T := by unfold tau updT; rw [if_pos q, if_pos rfl]
      omega
    · rw [tne k q]; omega
  refine ⟨h.ends, h.zero, fun k y hy hgn => ?_, fun e he ha => ?_⟩
  · have hk : k ≠ i := fun q => by subst q; have := hg y hy; rw [hgn] at this; cases this
    rw [tne k hk]
    exact h.live k y hy hgn
  · obtain ⟨tle, inv⟩ := h.seg e he ha
    refine ⟨tle, ?_⟩
    rcases inv with s | ⟨y, s⟩ | ⟨y, q0, p, s⟩ | ⟨x0, yy, jj, o, a, s⟩
    · exact .inl s
    · exact .inr (.inl ⟨y, s⟩)
    · exact .inr (.inr (.inl ⟨y, q0, p, s⟩))
    · refine .inr (.inr (.inr ⟨x0, yy, jj, o, a, s.fl, s.at_, s.src, s.aj, s.pair, s.sq, s.ak, fun hd => ?_, s.fin, s.rc, ?_, s.q, s.len, s.isB⟩))
      · obtain ⟨d1, d2, d3, d4⟩ := s.dat hd
        have := tle' e.o
        exact ⟨d1, d2, by omega, d4⟩
      · have := s.pot
        have := tle' jj
        omega
end
end Go.Proofs.Qxb6500424aGreat
