/-
  host: fair weather: a socket call.
-/
import Derived.Test.Qxb6500424aGreatHuK
set_option linter.unusedVariables false
set_option linter.unusedSimpArgs false
namespace Go.Proofs.Qxb6500424aGreat
/-- What a call does to a block. -/
structure ClX (x x' : CS) : Prop where
  st : x'.st = x.st
  why : x'.why = x.why
  qt : x'.qt = x.qt
  rt : x'.rt = x.rt
  tm : 0 < x.tm → x'.tm = x.tm
  fa : x'.fa = x.fa
  pf : x'.pf = x.pf
  una : x'.S.una = x.S.una
  sent : x.S.sent ≤ x'.S.sent
  fs : x.fs = true → x'.fs = true ∧ endN x' = endN x
/-- A call that moves one row. -/
structure CallF (t t' : Nat → TC) (G G' : List GE) (X X' : Nat → CS) (c : Nat) (O : List OutS) (k : Nat) (g : GE) : Prop where
  at_ : G[k]? = some g
  gone : g.gone = false
  h : g.h = c
  st : (X k).st = 3 ∨ (X k).st = 4
  cx : ClX (X k) (X' k)
  ne : ∀ j, j ≠ k → X' j = X j
  len : G'.length = G.length
  out : ∀ o ∈ O, AckT o.2
  K : ∀ d, (t' d).K = (t d).K
section
variable {x x' : CS}
theorem ClX.pump (h3 : x.st = 3) : ClX x (pumpF x).1 := by
  have m := pump_mo x
  obtain ⟨p1, p2, p3, p4, p5, p6⟩ := pump_B x
  have er : rem (pumpF x).1 = rem x := by unfold rem; rw [p3, p5, p6]
  obtain ⟨s1, s2, s3, s4, s5⟩ := m.same er
  have qt : (pumpF x).1.qt = x.qt := by
    unfold pumpF
    rw [if_pos h3]
    have a : ∀ z : CS, (armF z).qt = z.qt := fun z => by unfold armF; split <;> rfl
    have q1 : ∀ z : CS, (pump1 z).1.qt = z.qt := fun z => by unfold pump1; split; exact a _; rfl
    have q2 : ∀ z : CS, (pump2 z).1.qt = z.qt := fun z => by unfold pump2; split; exact a _; rfl
    show (pump2 (pump1 x).1).1.qt = _
    rw [q2, q1]
  exact ⟨pump_st x, pump_why x, qt, pump_rt x, s5, s4, p2, s1, s3, fun z => ⟨m.fs z, m.endn⟩⟩
theorem ClX.send {P : List Int} (h : CsOk x) (h3 : x.st = 3) (he : (sendF P x).2.e = 0) : ClX x (sendF P x).2.C ∧ x.wc = false := by
  unfold sendF at he ⊢
  rw [if_neg (by omega), if_neg (by omega), if_neg (by omega)] at he ⊢
  by_cases c1 : x.wc = true
  · rw [if_pos c1] at he; cases he
  rw [if_neg c1] at he ⊢
  by_cases c2 : 0 < P.length ∧ x.S.D.length = 16
  · rw [if_pos c2] at he; cases he
  rw [if_neg c2]
  have wc : x.wc = false := by cases q : x.wc with | false => rfl | true => exact absurd q c1
  have c := ClX.pump (x := { x with S := (putA P x.S).2 }) h3
  refine ⟨⟨c.st, c.why, c.qt, c.rt, c.tm, c.fa, c.pf, c.una.trans ?_, Nat.le_trans ?_ c.sent, fun z => ?_⟩, wc⟩
  · show (putA P x.S).2.una = x.S.una
    unfold putA
    rfl
  · show x.S.sent ≤ (putA P x.S).2.sent
    unfold putA
    exact Nat.le_refl _
  · have := (h.openn h3).2.1 z
    rw [wc] at this
    cases this
theorem ClX.close (h : CsOk x) (h3 : x.st = 3) (he : (closeF x).e = 0) : ClX x (closeF x).C ∧ x.wc = false := by
  unfold closeF at he ⊢
  rw [if_neg (by omega), if_neg (by omega), if_neg (by omega)] at he ⊢
  by_cases c1 : x.wc = true
  · rw [if_pos c1] at he; cases he
  rw [if_neg c1]
  have wc : x.wc = false := by cases q : x.wc with | false => rfl | true => exact absurd q c1
  have c := ClX.pump (x := { x with wc := true }) h3
  refine ⟨⟨c.st, c.why, c.qt, c.rt, c.tm, c.fa, c.pf, c.una, c.sent, fun z => ?_⟩, wc⟩
  have := (h.openn h3).2.1 z
  rw [wc] at this
  cases this
theorem ClX.recv {mx : Int} (x : CS) : ClX x (recvF mx x).2.C := by
  unfold recvF
  repeat' split
  all_goals exact ⟨rfl, rfl, rfl, rfl, fun _ => rfl, rfl, rfl, rfl, Nat.le_refl _, fun z => ⟨z, rfl⟩⟩
end
section
variable {b b' T T0 T1 : Int} {t t' : Nat → TC} {H : Nat → HS} {Wo Wo1 Wn Wn1 Fs W : List FL} {G G' : List GE} {X X' : Nat → CS} {M M' : Nat → List DG} {Lg Lg' : List LE} {i j k l c n d m kk : Nat} {g y g' y' gm gm' : GE} {x x' z z' : CS} {f : FL} {q : DG} {O : List OutS}
theorem ClX.hs1 (cx : ClX x x') (h3 : x.st = 3) (h : HS1 T M W g x) : HS1 T M W g x' := by
  obtain ⟨q, a, to, ak, e1, e2⟩ := h
  have ed : ackD q.2.s.1.ak x' = ackD q.2.s.1.ak x := by unfold ackD sndUna; rw [cx.una, cx.fa]
  have := fly_mono h3 (cx.st.trans h3) cx.sent (fun z => (cx.fs z).1) cx.fa
  exact ⟨q, a, to, ak, by rw [ed]; exact e1, by rw [ed]; omega⟩
theorem FW.call (h : FW T T t W [] G X M i) (sys : Sys T t G X Lg) (sys' : Sys T t' G' X' Lg') (tr : TrAll T G X G' X') (cf : CallF t t' G G' X X' c O k g) (mx : MExt M M')
    (mo : ∀ c', c' < 3 → ∀ q ∈ M' c', q ∈ M c' ∨ ∃ o ∈ O, q = dgO T o) (nfs : ∀ x ∈ Fs, x.fl = false ∧ x.age = 0 ∧ ∃ n i, ∃ o ∈ O, FrOk T M' x c n i (dgO T o)) : FW T T t' W Fs G' X' M' i := by
  have alv : ∀ {j : Nat} {a a' : GE}, G[j]? = some a → a.gone = false → G'[j]? = some a' → a'.gone = false := fun {j a a'} h1 h2 h4 => by
    cases e : a'.gone with
    | false => rfl
    | true =>
      obtain ⟨x4, x0, _⟩ := (tr.at h1 h4 h2).go e
      by_cases ej : j = k
      · subst ej
        have := cf.cx.st
        omega
      · rw [cf.ne j ej] at x0; omega
  have st' : ∀ j, (X' j).st = (X j).st := fun j => by
    by_cases ej : j = k
    · subst ej; exact cf.cx.st
    · rw [cf.ne j ej]
  have wy' : Wy G' X' := fun j a' hj' hl' => by
    obtain ⟨a, hj, hl, _⟩ := tr.alive cf.len hj' hl'
    have := h.wy j a hj hl
    by_cases ej : j = k
    · subst ej; rw [cf.cx.why]; exact this
    · rw [cf.ne j ej]; exact this
  have ns : NoSyn T M (W ++ []) → NoSyn T M' (W ++ Fs) := fun z x hx => by
    rcases List.mem_append.1 hx with w | w
    · obtain ⟨c, n, i, g, fo, e⟩ := z x (by rw [List.append_nil]; exact w)
      exact ⟨c, n, i, g, fo.ext mx, e⟩
    · obtain ⟨_, _, n, i, o, ho, fo⟩ := nfs x w
      exact ⟨_, n, i, _, fo, (cf.out o ho).n1⟩
  refine ⟨h.b0, ⟨h.ag.o, fun x hx => ⟨(nfs x hx).1, (nfs x hx).2.1⟩⟩, fun c' hc' q hq => ?_, wy', h.cur.step sys tr cf.len, ?_, ?_, ?_⟩
  · rcases mo c' hc' q hq with w | ⟨o, ho, rfl⟩
    · exact h.rs c' hc' q w
    · exact .inr (.inr (cf.out o ho))
  · rcases h.os with ⟨z0, z⟩ | ⟨g0, f0, n0, q0, d0, p⟩ | ⟨z0, j, g1, y, tw, s1, s2, r1, r2, w⟩ | ⟨z0, j, g1, y, tw, pr, s1, s2, tm, w⟩
    · refine .inl ⟨ns z0, fun j a' hj' hl' => ?_⟩
      obtain ⟨a, hj, hl, _⟩ := tr.alive cf.len hj' hl'
      rw [st' j]
      exact z j a hj hl
    · exfalso
      have := p.all k g cf.at_ cf.gone
      subst this
      have := p.st
      have := cf.st
      omega
    · exfalso
      have := cf.st
      rcases tw.all h.cur sys cf.at_ cf.gone with e | e <;> subst e <;> omega
    · have ek : k = i := by
        rcases tw.all h.cur sys cf.at_ cf.gone with e | e
        · exact e
        · exfalso
          subst e
          have := cf.st
          omega
      subst ek
      obtain ⟨g', y', tw', kp, kpy, tk⟩ := tw.step sys tr alv
      have pr' : g'.pr = some j := by
        rcases tk.how with ⟨e, _⟩ | ⟨e, _⟩ | ⟨e, _⟩
        · rw [e]; exact pr
        · omega
        · omega
      have ej := cf.ne j (fun e => tw.ne e.symm)
      refine .inr (.inr (.inr ⟨ns z0, j, g', y', tw', pr', by rw [st']; exact s1, by rw [ej]; exact s2, by rw [ej]; exact tm, ?_⟩))
      rw [ej]
      rcases w with ⟨⟨q, a, to, r⟩, e⟩ | ⟨⟨q, a, _⟩, _⟩
      · exact .inl ⟨⟨q, a.ext mx, to.kp kpy, r⟩, e⟩
      · exact absurd a.nil id
  · intro j l g' y' hj' hl' h3' hl2' hp'
    obtain ⟨a, hj, hl, ta⟩ := tr.alive cf.len hj' hl'
    have h3 : (X j).st = 3 := by rw [← st' j]; exact h3'
    have hll : l < G.length := by rw [← cf.len]; exact (List.getElem?_eq_some_iff.1 hl2').1
    have hy : G[l]? = some G[l] := List.getElem?_eq_getElem hll
    generalize G[l] = y at hy
    have epr : g'.pr = a.pr := by
      rcases ta.how with ⟨e, _⟩ | ⟨e, _⟩ | ⟨e, _⟩
      · exact e
      · omega
      · omega
    obtain ⟨j0, y0, hj0, hp0, _⟩ := sys.inv.cn hj hl h3
    have e0 : j0 = l := by
      have u := hp0.pr
      have v := hp'.pr
      rw [epr, u] at v
      cases v
      rfl
    subst e0
    rw [hy] at hj0
    cases hj0
    obtain ⟨yl, rp, fn⟩ := h.prs j j0 a y hj hl h3 hy hp0
    -- both blocks
    have cxj : ClX (X j) (X' j) := by
      by_cases e : j = k
      · subst e; exact cf.cx
      · rw [cf.ne j e]; exact ⟨rfl, rfl, rfl, rfl, fun _ => rfl, rfl, rfl, rfl, Nat.le_refl _, fun z => ⟨z, rfl⟩⟩
    have cxl : ClX (X j0) (X' j0) := by
      by_cases e : j0 = k
      · subst e; exact cf.cx
      · rw [cf.ne j0 e]; exact ⟨rfl, rfl, rfl, rfl, fun _ => rfl, rfl, rfl, rfl, Nat.le_refl _, fun z => ⟨z, rfl⟩⟩
    refine ⟨alv hy yl hl2', ?_, fun zp xf => ?_⟩
    · rcases rp with r | ⟨r, v⟩ | ⟨r, hb, v⟩
      · exact .inl (by rw [cxj.rt]; exact r)
      · refine .inr (.inl ⟨by rw [cxj.rt]; exact r, ?_⟩)
        rcases v with v | ⟨_, v⟩ | ⟨_, eb, _⟩ | ⟨v1, v2, v3⟩
        · obtain ⟨q, u, w⟩ := cxj.hs1 h3 v
          exact .inl (HS1.kp ⟨q, u.ext mx, w⟩ ta.kp)
        · exact absurd v.nil id
        · omega
        · rw [cxj.tm (by omega)]
          exact .inr (.inr (.inr ⟨v1, v2, v3⟩))
      · omega
    · rw [cxl.pf] at zp
      rw [cxj.fa] at xf
      rcases fn zp xf with ⟨⟨e, q, u, to, ak, en⟩, v⟩ | ⟨v, _⟩
      · obtain ⟨e1, e2⟩ := cxj.fs e
        exact .inl ⟨⟨e1, q, u.ext mx, to.kp ta.kp, ak, by rw [e2]; exact en⟩, fun z4 => by rw [cxl.st] at z4; rw [cxl.qt]; exact v z4⟩
      · exact absurd v.nil id
  · intro j l g' y' hj' hl' h4' hl2' hp'
    obtain ⟨a, hj, hl, ta⟩ := tr.alive cf.len hj' hl'
    have h4 : (X j).st = 4 := by rw [← st' j]; exact h4'
    have hll : l < G.length := by rw [← cf.len]; exact (List.getElem?_eq_some_iff.1 hl2').1
    have hy : G[l]? = some G[l] := List.getElem?_eq_getElem hll
    generalize G[l] = y at hy
    have epr : g'.pr = a.pr := by
      rcases ta.how with ⟨e, _⟩ | ⟨e, _⟩ | ⟨e, _⟩
      · exact e
      · omega
      · omega
    obtain ⟨j0, y0, hj0, hp0, _⟩ := (sys.liv hj hl).s3 (.inr ⟨h4, h.wy j a hj hl⟩)
    have e0 : j0 = l := by
      have u := hp0.pr
      have v := hp'.pr
      rw [epr, u] at v
      cases v
      rfl
    subst e0
    rw [hy] at hj0
    cases hj0
    obtain ⟨q1, q2⟩ := h.qts j j0 a y hj hl h4 hy hp0
    have qt' : ∀ j, (X' j).qt = (X j).qt := fun j => by
      by_cases ej : j = k
      · subst ej; exact cf.cx.qt
      · rw [cf.ne j ej]
    rw [qt' j, qt' j0, st' j0]
    refine ⟨fun e => q1 ?_, fun e => q2 ?_⟩
    · cases v : y.gone with
      | true => rfl
      | false => rw [alv hy v hl2'] at e; cases e
    · cases v : y.gone with
      | false => rfl
      | true =>
        obtain ⟨w, hw, u⟩ := tr j0 y hy
        rw [hl2'] at hw
        cases hw
        rcases u with ⟨_, rfl⟩ | ⟨u, _⟩
        · rw [v] at e; cases e
        · rw [v] at u; cases u
/-- Only a table has changed. -/
theorem FW.tab (h : FW b T t Wo Wn G X M i) (hl : ∀ d p, d < 3 → Sk.lisE (t d).K.E p ≠ 0 → Sk.lisE (t' d).K.E p ≠ 0) : FW b T t' Wo Wn G X M i := by
  refine ⟨h.b0, h.ag, h.rs, h.wy, h.cur, ?_, h.prs, h.qts⟩
  rcases h.os with z | ⟨g0, f0, n0, q0, d0, p⟩ | z | z
  · exact .inl z
  · exact .inr (.inl ⟨g0, f0, n0, q0, d0, p.at_, p.gone, p.cl, p.st, p.rt, p.tm, p.wo, p.wn, p.fo, p.fl, p.one, p.qd, p.sp, p.dp, p.d3, p.rh, p.nd, p.all, hl d0 _ p.d3 p.lis⟩)
  · exact .inr (.inr (.inl z))
  · exact .inr (.inr (.inr z))
end
end Go.Proofs.Qxb6500424aGreat
