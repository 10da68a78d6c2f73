/-
  host: fair weather: a datagram at a row: openings, ends; the whole.
-/
import Derived.Test.Qxb6500424aGreatHuF
set_option linter.unusedVariables false
set_option linter.unusedSimpArgs false
namespace Go.Proofs.Qxb6500424aGreat
section
variable {b T T0 T1 : Int} {t t' : Nat → TC} {H : Nat → HS} {Wo Wo1 Wn Fs W : List FL} {G G' : List GE} {X X' : Nat → CS} {M M' : Nat → List DG} {Lg Lg' : List LE} {i j k l c n d m kk : Nat} {g y g' y' gm gm' : GE} {x x' z z' : CS} {f : FL} {q : DG} {O : List OutS}
theorem DvF.nosyn (dv : DvF T t t' H Wo Wo1 Fs G G' X X' M M' Lg Lg' d c n kk f q O) (h : NoSyn T M (Wo ++ Wn)) (ho : ∀ o ∈ O, o.2.1.fl ≠ 1) : NoSyn T M' (Wo1 ++ (Wn ++ Fs)) := fun x hx => by
  have old : x ∈ Wo ++ Wn → ∃ c n i g, FrOk T M' x c n i g ∧ g.s.1.fl ≠ 1 := fun z => by
    obtain ⟨c, n, i, g, a, e⟩ := h x z
    exact ⟨c, n, i, g, a.ext dv.mx, e⟩
  rcases List.mem_append.1 hx with z | z
  · exact old (List.mem_append.2 (.inl (dv.sub1 x z)))
  rcases List.mem_append.1 z with z | z
  · exact old (List.mem_append.2 (.inr z))
  · obtain ⟨_, _, n, i, o, ho', fo⟩ := dv.nfs x z
    exact ⟨d, n, i, dgO T o, fo, ho o ho'⟩
theorem RowF.outO (rf : RowF T G X i m gm q) (hr : HitR G G' X X' m gm q.s O) : ∀ o ∈ O, AckT o.2 := fun o ho => by
  rw [hr.eO] at ho
  obtain ⟨s', hs, rfl⟩ := List.mem_map.1 ho
  exact (rf.outs s' hs).1
theorem AckT.n1 {s : SegV} (h : AckT s) : s.1.fl ≠ 1 := by rcases h with z | z <;> rw [z] <;> decide
theorem Two.step (tw : Two G i j g y) (sys : Sys T t G X Lg) (tr : TrAll T1 G X G' X') (alv : ∀ {k : Nat} {a a' : GE}, G[k]? = some a → a.gone = false → G'[k]? = some a' → a'.gone = false) : ∃ g' y', Two G' i j g' y' ∧ Kp g g' ∧ Kp y y' ∧ Tr T1 G i g g' (X i) (X' i) := by
  obtain ⟨g', hg', w⟩ := tr i g tw.hi
  obtain ⟨y', hy', v⟩ := tr j y tw.hj
  have wt := w.resolve_left (fun e => by have := e.1; rw [tw.gi] at this; cases this)
  have vt := v.resolve_left (fun e => by have := e.1; rw [tw.gj] at this; cases this)
  have pr : y'.pr = some i := by
    rcases vt.2.how with ⟨e, _⟩ | ⟨s, _⟩ | ⟨_, e, _⟩
    · rw [e]; exact tw.pr
    · have := (sys.liv tw.hj tw.gj).s1 s; rw [tw.cj] at this; cases this
    · rw [e]; exact tw.pr
  exact ⟨g', y', ⟨hg', hy', alv tw.hi tw.gi hg', alv tw.hj tw.gj hy', by rw [wt.2.kp.cl]; exact tw.ci, by rw [vt.2.kp.cl]; exact tw.cj, pr⟩, wt.2.kp, vt.2.kp, wt.2⟩
theorem Two.ne (tw : Two G i j g y) : i ≠ j := fun e => by
  subst e
  have a := tw.hi
  rw [tw.hj] at a
  cases a
  have := tw.ci
  rw [tw.cj] at this
  cases this
/-- Whoever lives is one of the two. -/
theorem Two.all (tw : Two G i j g y) (cur : Cur i G) (sys : Sys T t G X Lg) {a : GE} (hk : G[k]? = some a) (hl : a.gone = false) : k = i ∨ k = j := by
  rcases cur k a hk hl with ⟨z, _⟩ | ⟨z1, z2⟩
  · exact .inl z
  · right
    obtain ⟨p1, g1, hg1, k1⟩ := sys.inv.ends.kid j y tw.hj tw.cj
    obtain ⟨p2, g2, hg2, k2⟩ := sys.inv.ends.kid k a hk z1
    have e1 : p1 = i := by have := k1.pr; rw [tw.pr] at this; cases this; rfl
    have e2 : p2 = i := by have := k2.pr; rw [z2] at this; cases this; rfl
    subst e1
    subst e2
    rw [hg1] at hg2
    cases hg2
    exact sys.inv.ends.tuple hk tw.hj hl tw.gj (k2.mir.same k1.mir)
theorem Two.mir (tw : Two G i j g y) (sys : Sys T t G X Lg) : Mirror g y := by
  obtain ⟨p1, g1, hg1, k1⟩ := sys.inv.ends.kid j y tw.hj tw.cj
  have e1 : p1 = i := by have := k1.pr; rw [tw.pr] at this; cases this; rfl
  subst e1
  have := tw.hi
  rw [hg1] at this
  cases this
  exact k1.mir
theorem SA.kp (h : SA T M W g) (kp : Kp g g') : SA T M W g' := by
  obtain ⟨q, a, b, e⟩ := h
  exact ⟨q, a, b.kp kp, e⟩
theorem AK.kp (h : AK T M W g) (kp : Kp g g') : AK T M W g' := by
  obtain ⟨q, a, b, e⟩ := h
  exact ⟨q, a, b.kp kp, e⟩
theorem AK.keep (h : AK T M Wo g) (dv : DvF T t t' H Wo Wo1 Fs G G' X X' M M' Lg Lg' d c n kk f q O) (hn : ¬ To g (c, q)) : AK T M' Wo1 g := by
  obtain ⟨q0, a, to, r⟩ := h
  rcases a.keep dv.lk dv.fo dv.sub with z | z
  · rw [z] at to; exact absurd to hn
  · exact ⟨q0, z.ext dv.mx, to, r⟩
theorem AK.app (h : AK T M Wn g) (mx : MExt M M') : AK T M' (Wn ++ Fs) g := by
  obtain ⟨q, a, r⟩ := h
  exact ⟨q, (a.ext mx).app, r⟩
theorem FW.osHit (h : FW b T t Wo Wn G X M i) (dv : DvF T t t' H Wo Wo1 Fs G G' X X' M M' Lg Lg' d c n kk f q O) (hlen : G'.length = G.length) (hm : G[m]? = some gm) (hl : gm.gone = false) (to : To gm (c, q)) (rf : RowF T G X i m gm q) (wy' : Wy G' X') : OS T t' Wo1 (Wn ++ Fs) G' X' M' i := by
  obtain ⟨hr, hd⟩ := dv.hit hm hl to
  have sys := dv.ds.s0
  have sys' := dv.ds.s1
  have tr := dv.ds.tr
  have lvm := sys.liv hm hl
  have ei : (X m).st = 1 → (X m).iss = gm.iss := fun z => (lvm.op (.inl z)).1
  obtain ⟨op1, op2⟩ := h.opens dv hm hl rf
  have hos := rf.outO hr
  have ns : NoSyn T M (Wo ++ Wn) → NoSyn T M' (Wo1 ++ (Wn ++ Fs)) := fun z => dv.nosyn z fun o ho => (hos o ho).n1
  have alv : ∀ {k : Nat} {a a' : GE}, G[k]? = some a → a.gone = false → G'[k]? = some a' → a'.gone = false := fun h1 h2 h3 => dv.alv hr h1 h2 h3
  have nofl : q.s.1.fl ≠ 1 := by
    rcases rf.fai with z | z | z
    · rcases rf.kind with ⟨s, _⟩ | ⟨⟨o, x0, a, s⟩, _⟩
      · rw [s.fl]; decide
      · exact s.ak.n1
    · rw [z]; decide
    · exact z.n1
  rcases h.os with ⟨z0, z⟩ | ⟨g, f0, n0, q0, d0, p⟩ | ⟨z0, j, g, y, tw, s1, s2, r1, r2, w⟩ | ⟨z0, j, g, y, tw, pr, s1, s2, tm, w⟩
  · refine .inl ⟨ns z0, fun k g' hk' hl' => ?_⟩
    obtain ⟨g, hk, hgl, tk⟩ := tr.alive hlen hk' hl'
    have a := z k g hk hgl
    rcases (tk.may hl').1 with e | ⟨e, _⟩ | ⟨_, e⟩
    · rw [e]; exact a
    · omega
    · omega
  · exact absurd (p.no h.ag dv.lk dv.fW dv.fo).1 nofl
  · -- the client opens
    obtain ⟨g', y', tw', kp, kpy, tk⟩ := tw.step sys tr alv
    rcases tw.all h.cur sys hm hl with em | em
    · subst em
      have := tw.hi
      rw [hm] at this
      cases this
      rcases rf.kind with ⟨s, _⟩ | ⟨_, st⟩
      rotate_left
      · omega
      refine .inr (.inr (.inr ⟨ns z0, j, g', y', tw', ?_⟩))
      have ex := in_st1 (x := X m) (s := q.s) s1 s.fl rf.rng (by rw [ei s1]; exact s.ak)
      have x3 : (X' m).st = 3 := by rw [hr.eX, ex]; rfl
      have ejx := hr.ne j (fun e => tw.ne e.symm)
      have pr' : g'.pr = some j := by
        rcases tk.how with ⟨_, _, e⟩ | ⟨_, _, _, j0, y0, epr, hy0, _, ypr, ycl, mi, mx⟩ | ⟨e, _⟩
        · have := e tw'.gi x3; omega
        · have sm : SameT y0 y := mi.same (tw.mir sys)
          have le := mx j y tw.hj sm
          have ej : j = j0 := by
            rcases Nat.lt_or_ge j j0 with v | v
            · have := (sys.inv.ends.two j j0 y y0 v tw.hj hy0 ⟨sm.h.symm, sm.lp.symm, sm.rh.symm, sm.rp.symm⟩).1
              rw [tw.gj] at this
              cases this
            · omega
          rw [ej]; exact epr
        · omega
      refine ⟨pr', x3, by rw [ejx]; exact s2, by rw [ejx]; rcases w with w | w <;> omega, .inr ⟨?_, by rw [ejx]; exact r2⟩⟩
      -- its acknowledgement
      have ha : ackF { openedF (X m) with B := resetR (sqAdd (sqAdd q.s.1.sq 0) 1), pw := windowF q.s.1.wn } ∈ (inputF q.s.1 q.s.2 (X m)).2 := by rw [ex]; exact List.mem_singleton.2 rfl
      obtain ⟨aT, rg⟩ := rf.outs _ ha
      have enc := sys.enc hm hl rg
      rw [hd] at enc
      have ho : stampG gm (ackF { openedF (X m) with B := resetR (sqAdd (sqAdd q.s.1.sq 0) 1), pw := windowF q.s.1.wn }) ∈ O := by rw [hr.eO]; exact List.mem_map.2 ⟨_, ha, rfl⟩
      refine ⟨_, (dv.new _ ho enc rfl).app2, ?_, aT⟩
      rw [← hd]
      exact (To.mir (tw.mir sys) T _).kp kpy
    · exfalso
      subst em
      have := tw.hj
      rw [hm] at this
      cases this
      obtain ⟨g2, tw2, _, s3⟩ := op2 s2
      omega
  · -- the child opens
    obtain ⟨g', y', tw', kp, kpy, tk⟩ := tw.step sys tr alv
    have pr' : g'.pr = some j := by
      rcases tk.how with ⟨e, _⟩ | ⟨e, _⟩ | ⟨e, _⟩
      · rw [e]; exact pr
      · omega
      · omega
    rcases tw.all h.cur sys hm hl with em | em
    · subst em
      have := tw.hi
      rw [hm] at this
      cases this
      have ejx := hr.ne j (fun e => tw.ne e.symm)
      have hng : ¬ To y (c, q) := fun v => tw.ne (sys.inv.ends.tuple hm tw.hj hl tw.gj (to.same v))
      -- it stays open
      have x3 : (X' m).st = 3 := by
        rcases (tk.may tw'.gi).1 with e | ⟨e, _⟩ | ⟨_, e⟩
        · rw [e]; exact s1
        · omega
        · exfalso
          have lv' := sys'.liv tw'.hi tw'.gi
          have hw := wy' m g' tw'.hi tw'.gi
          obtain ⟨j2, y2, hj2, hp2, oo, _⟩ := lv'.s3 (.inr ⟨e, hw⟩)
          have ej : j2 = j := by have v := hp2.pr; rw [pr'] at v; cases v; rfl
          subst ej
          rw [tw'.hj] at hj2
          cases hj2
          obtain ⟨_, d2⟩ := hp2.dirs
          have pf : g'.pf = true := by rw [← oo.pf]; exact (lv'.ok.good e hw).2.2.2.1
          have fs := (d2.pf pf).1
          have lj := sys'.liv tw'.hj tw'.gj
          have ot := (lj.op (.inr (by rw [ejx]; exact s2))).2.2.1
          have zz := sys'.inv.zero j2 y' tw'.hj ot
          rw [zz.f.1] at fs
          cases fs
      refine .inr (.inr (.inr ⟨ns z0, j, g', y', tw', pr', x3, by rw [ejx]; exact s2, by rw [ejx]; exact tm, ?_⟩))
      rw [ejx]
      rcases w with ⟨w, e⟩ | ⟨w, e⟩
      · exact .inl ⟨(w.keep dv hng).kp kpy, e⟩
      · exact .inr ⟨(w.app dv.mx).kp kpy, e⟩
    · subst em
      have := tw.hj
      rw [hm] at this
      cases this
      refine .inl ⟨ns z0, fun k a' hk' hl' => ?_⟩
      obtain ⟨a, hk, hal, tka⟩ := tr.alive hlen hk' hl'
      rcases tw.all h.cur sys hk hal with e | e
      · subst e
        rw [hr.ne k tw.ne, s1]
        exact ⟨by decide, by decide⟩
      · subst e
        rcases rf.kind with ⟨s, st⟩ | ⟨⟨o, x0, a0, s⟩, st⟩
        · omega
        · have e2 : q.s.1.ak = sqAdd (X k).iss 1 := by
            rcases st with ⟨_, e⟩ | e | e
            · exact e
            · omega
            · omega
          have ei2 := in_sync2 (s := q.s) s2 s.ak rf.rng e2
          rw [hr.eX, ei2]
          have st2 : (openedF (X k)).st = 3 := rfl
          have ok2 := opened0_ok lvm.ok (.inr s2)
          generalize openedF (X k) = v at st2 ok2
          rw [ack3 st2 s.ak]
          have hv : ∀ z : CS, z.st = 3 → (endF z).st = 3 ∨ (endF z).st = 4 := fun z h3 => by
            unfold endF
            split
            · exact .inr rfl
            · exact .inl h3
          have key : (openF (sqAdd q.s.1.ak 0) q.s.1.wn (sqAdd q.s.1.sq 0) q.s.1.fl q.s.2 v).1.st = 3 ∨ (openF (sqAdd q.s.1.ak 0) q.s.1.wn (sqAdd q.s.1.sq 0) q.s.1.fl q.s.2 v).1.st = 4 := by
            unfold openF
            split
            · unfold goonF
              split
              · exact hv _ (by rw [pump_st, (take_st _ _ _ _).1, acked_st3]; exact st2)
              · exact hv _ (by rw [pump_st, acked_st3]; exact st2)
            · exact .inl st2
          omega
theorem FW.qtsHit (h : FW b T t Wo Wn G X M i) (dv : DvF T t t' H Wo Wo1 Fs G G' X X' M M' Lg Lg' d c n kk f q O) (hlen : G'.length = G.length) (hm : G[m]? = some gm) (hl : gm.gone = false) (to : To gm (c, q)) (rf : RowF T G X i m gm q) (wy' : Wy G' X') : Qts G' X' := by
  obtain ⟨hr, hd⟩ := dv.hit hm hl to
  have sys := dv.ds.s0
  have sys' := dv.ds.s1
  have tr := dv.ds.tr
  have lvm := sys.liv hm hl
  have ei : (X m).st = 1 → (X m).iss = gm.iss := fun z => (lvm.op (.inl z)).1
  have mvb := rf.mvb lvm.ok ei
  intro k l g' y' hk' hl' h4' hj' hp'
  obtain ⟨g, hk, hgl, tk⟩ := tr.alive hlen hk' hl'
  have hll : l < G.length := by rw [← hlen]; exact (List.getElem?_eq_some_iff.1 hj').1
  have hj : G[l]? = some G[l] := List.getElem?_eq_getElem hll
  generalize G[l] = y at hj
  have ygone : y'.gone = true → y.gone = true := fun e => by
    cases v : y.gone with
    | true => rfl
    | false => rw [dv.alv hr hj v hj'] at e; cases e
  have ygone2 : y.gone = true → y'.gone = true := fun e => by
    obtain ⟨w, hw, v⟩ := tr l y hj
    rw [hj'] at hw
    cases hw
    rcases v with ⟨_, rfl⟩ | ⟨v, _⟩
    · exact e
    · rw [e] at v; cases v
  have hne : l ≠ k := fun e => by
    subst e
    rw [hk'] at hj'
    cases hj'
    have := hp'.cl
    cases q : g'.cl <;> rw [q] at this <;> cases this
  have lvk' := sys'.liv hk' hl'
  have hq10 := lvk'.ok.qt
  by_cases h4 : (X k).st = 4
  · -- it had ended
    have ex : X' k = X k := by
      by_cases e : k = m
      · subst e; rw [hr.eX]; exact mvb.q4 h4
      · exact hr.ne k e
    have epr : g'.pr = g.pr := by
      rcases tk.how with ⟨e, _⟩ | ⟨e, _⟩ | ⟨e, _⟩
      · exact e
      · omega
      · omega
    obtain ⟨j0, y0, hj0, hp0, _⟩ := (sys.liv hk hgl).s3 (.inr ⟨h4, h.wy k g hk hgl⟩)
    have e0 : j0 = l := by
      have a := hp0.pr
      have b := hp'.pr
      rw [epr, a] at b
      cases b
      rfl
    subst e0
    rw [hj] at hj0
    cases hj0
    obtain ⟨q1, q2⟩ := h.qts k j0 g y hk hgl h4 hj hp0
    rw [ex] at hq10 ⊢
    refine ⟨fun e => q1 (ygone e), fun e e4 => ?_⟩
    have yl : y.gone = false := by
      cases v : y.gone with
      | false => rfl
      | true => rw [ygone2 v] at e; cases e
    by_cases em : j0 = m
    · subst em
      rw [hr.eX] at e4 ⊢
      by_cases c4 : (X j0).st = 4
      · rw [mvb.q4 c4]
        exact q2 yl c4
      · rw [mvb.q10 e4 c4]
        omega
    · rw [hr.ne j0 em] at e4 ⊢
      exact q2 yl e4
  · -- it ends now
    have ek : k = m := Classical.byContradiction fun e => by rw [hr.ne k e] at h4'; exact h4 h4'
    subst ek
    rw [hm] at hk
    cases hk
    have q10 : (X' k).qt = 10 := by rw [hr.eX] at h4' ⊢; exact mvb.q10 h4' h4
    have hw' := wy' k g' hk' hl'
    have hst := lvm.ok.st
    have hnz := lvm.nz
    have h3 : (X k).st = 3 := by
      apply Classical.byContradiction
      intro n3
      have ot := (lvm.op (by omega)).2.2.1
      have zz := sys.inv.zero k gm hm ot
      have wc : g'.wc = false := by rw [(dv.ds.sr k gm g' hm hk').2.2]; exact zz.f.2.2.2
      obtain ⟨_, _, _, _, oo, _⟩ := lvk'.s3 (.inr ⟨h4', hw'⟩)
      have := (lvk'.ok.good h4' hw').1
      rw [oo.wc, wc] at this
      cases this
    have epr : g'.pr = gm.pr := by
      rcases tk.how with ⟨e, _⟩ | ⟨e, _⟩ | ⟨e, _⟩
      · exact e
      · omega
      · omega
    obtain ⟨j0, y0, hj0, hp0, _⟩ := sys.inv.cn hm hl h3
    have e0 : j0 = l := by
      have a := hp0.pr
      have b := hp'.pr
      rw [epr, a] at b
      cases b
      rfl
    subst e0
    rw [hj] at hj0
    cases hj0
    have yl := (h.prs k j0 gm y hm hl h3 hj hp0).1
    rw [q10, hr.ne j0 hne]
    refine ⟨fun e => (by rw [ygone e] at yl; cases yl), fun _ e4 => ?_⟩
    have := (open_qt sys h.wy h.prs hm hl h3 hj hp0 e4).2.2.2
    omega
/-- A datagram at a row keeps the fair weather. -/
theorem FW.hit (h : FW b T t Wo Wn G X M i) (dv : DvF T t t' H Wo Wo1 Fs G G' X X' M M' Lg Lg' d c n kk f q O) (hlen : G'.length = G.length) (hm : G[m]? = some gm) (hl : gm.gone = false) (to : To gm (c, q)) (ha : ArrS G i m gm q ∨ ∃ o x0 a, ArrA T G m gm q o x0 a) : FW b T t' Wo1 (Wn ++ Fs) G' X' M' i := by
  have rf := h.rowF dv hm hl ha
  obtain ⟨hr, hd⟩ := dv.hit hm hl to
  have wy' : Wy G' X' := fun k g' hk' hl' => by
    obtain ⟨g, hk, hgl, _⟩ := dv.ds.tr.alive hlen hk' hl'
    have hw := h.wy k g hk hgl
    by_cases e : k = m
    · subst e
      rw [hr.eX, in_why rf.fai]
      exact hw
    · rw [hr.ne k e]
      exact hw
  refine ⟨h.b0, dv.ages h.ag, fun c' hc' g hg => ?_, wy', h.cur.step dv.ds.s0 dv.ds.tr hlen, h.osHit dv hlen hm hl to rf wy', h.prsHit dv hlen hm hl to rf, h.qtsHit dv hlen hm hl to rf wy'⟩
  rcases dv.mo c' hc' g hg with z | ⟨o, ho, rfl⟩
  · exact h.rs c' hc' g z
  · exact .inr (.inr (rf.outO hr o ho))
end
end Go.Proofs.Qxb6500424aGreat
