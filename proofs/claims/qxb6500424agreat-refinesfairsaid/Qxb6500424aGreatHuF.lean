/-
  host: fair weather: a datagram at a row: all.
-/
import Derived.Test.Qxb6500424aGreatHuE
set_option linter.unusedVariables false
set_option linter.unusedSimpArgs false
namespace Go.Proofs.Qxb6500424aGreat
section
variable {b T T0 T1 : Int} {t t' : Nat → TC} {H : Nat → HS} {Wo Wo1 Wn Fs W : List FL} {G G' : List GE} {X X' : Nat → CS} {M M' : Nat → List DG} {Lg Lg' : List LE} {i j k l c n d m kk : Nat} {g y g' y' gm gm' : GE} {x x' z z' : CS} {f : FL} {q : DG} {O : List OutS}
theorem To.same {q0 : Fg} (h : To g q0) (h' : To gm q0) : SameT g gm := by
  have a := h.d
  have b := h'.d
  exact ⟨by omega, by rw [← h.dp, h'.dp], by rw [h.c, h'.c], by rw [← h.sp, h'.sp]⟩
/-- The SYN is not for a row. -/
theorem P1.no (p : P1 T t Wo Wn G X M i g f n q d) {f0 : FL} {c0 n0 k0 : Nat} {q0 : DG} {h0 : Nat → HS} (ag : Ages Wo Wn) (lk : ∀ c, c < 3 → LinkOk c T (h0 c) (M c) Lg) (hf : f0 ∈ Wo) (fo : FrOk T M f0 c0 n0 k0 q0) : q0.s.1.fl = 1 ∧ f0 = f ∧ c0 = g.h ∧ q0 = q := by
  rw [p.wo] at hf
  have e := List.mem_singleton.1 hf
  subst e
  have a := ag.o f0 (by rw [p.wo]; exact List.mem_singleton.2 rfl)
  obtain ⟨z1, _, z3⟩ := fo.uniq lk p.fo a.1 (by omega)
  subst z3
  exact ⟨p.fl, rfl, z1, rfl⟩
/-- How the row's block moves. -/
structure MvB (x x' : CS) : Prop where
  q4 : x.st = 4 → x' = x
  q10 : x'.st = 4 → x.st ≠ 4 → x'.qt = 10
  rt0 : x.st ≠ 3 → x'.st = 3 → x'.rt = 0
theorem RowF.mvb (rf : RowF T G X i m gm q) (ok : CsOk (X m)) (ei : (X m).st = 1 → (X m).iss = gm.iss) : MvB (X m) (inputF q.s.1 q.s.2 (X m)).1 := by
  have o2 : ∀ (hA : AckT q.s) (c2 : (X m).st = 2) (e : q.s.1.ak = sqAdd (X m).iss 1), ((inputF q.s.1 q.s.2 (X m)).1.st = 4 → (inputF q.s.1 q.s.2 (X m)).1.qt = 10) ∧ ((inputF q.s.1 q.s.2 (X m)).1.st = 3 → (inputF q.s.1 q.s.2 (X m)).1.rt = 0) := fun hA c2 e => by
    rw [in_sync2 c2 hA rf.rng e]
    have ok2 := opened0_ok ok (.inr c2)
    have st2 : (openedF (X m)).st = 3 := rfl
    have rt2 : (openedF (X m)).rt = 0 := rfl
    generalize openedF (X m) = w at ok2 st2 rt2
    refine ⟨fun h4 => in_qt st2 (.inr (.inr hA)) h4, fun h3 => ?_⟩
    have := (input_mo ok2 st2 h3).rt
    omega
  refine ⟨fun h4 => (in_q4 h4).1, fun h4 n4 => ?_, fun n3 h3 => ?_⟩
  · rcases rf.kind with ⟨s, st⟩ | ⟨⟨o, x0, a, s⟩, st⟩
    · rcases st with z | z | z
      · exfalso
        rw [in_st1 z s.fl rf.rng (by rw [ei z]; exact s.ak)] at h4
        have : (3 : Int) = 4 := h4
        omega
      · exact in_qt z rf.fai h4
      · exact absurd z n4
    · rcases st with ⟨z, e⟩ | z | z
      · exact (o2 s.ak z e).1 h4
      · exact in_qt z rf.fai h4
      · exact absurd z n4
  · rcases rf.kind with ⟨s, st⟩ | ⟨⟨o, x0, a, s⟩, st⟩
    · rcases st with z | z | z
      · rw [in_st1 z s.fl rf.rng (by rw [ei z]; exact s.ak)]
        rfl
      · exact absurd z n3
      · rw [(in_q4 z).1] at h3; omega
    · rcases st with ⟨z, e⟩ | z | z
      · exact (o2 s.ak z e).2 h3
      · exact absurd z n3
      · rw [(in_q4 z).1] at h3; omega
/-- What makes a block learn of the peer's FIN. -/
theorem RowF.learn (rf : RowF T G X i m gm q) (ok : CsOk (X m)) (flg : Flg q.s) (ei : (X m).st = 1 → (X m).iss = gm.iss) (hp : (X m).pf = false) (hp' : (inputF q.s.1 q.s.2 (X m)).1.pf = true) : AckT q.s ∧ (0 < q.s.2.length ∨ q.s.1.fl = 6) := by
  have o3 : (X m).st = 3 → AckT q.s ∧ (0 < q.s.2.length ∨ q.s.1.fl = 6) := fun z => by
    obtain ⟨a, b, _⟩ := input_pf z flg hp hp'
    exact ⟨a, b⟩
  have o4 : (X m).st = 4 → AckT q.s ∧ (0 < q.s.2.length ∨ q.s.1.fl = 6) := fun z => by
    rw [(in_q4 z).1, hp] at hp'
    cases hp'
  rcases rf.kind with ⟨s, st⟩ | ⟨⟨o, x0, a, s⟩, st⟩
  · rcases st with z | z | z
    · exfalso
      rw [in_st1 z s.fl rf.rng (by rw [ei z]; exact s.ak)] at hp'
      have e : (X m).pf = true := hp'
      rw [hp] at e
      cases e
    · exact o3 z
    · exact o4 z
  · rcases st with ⟨z, e⟩ | z | z
    · rw [in_sync2 z s.ak rf.rng e] at hp'
      have st2 : (openedF (X m)).st = 3 := rfl
      have pf2 : (openedF (X m)).pf = false := hp
      generalize openedF (X m) = w at st2 pf2 hp'
      obtain ⟨a, b, _⟩ := input_pf st2 flg pf2 hp'
      exact ⟨a, b⟩
    · exact o3 z
    · exact o4 z
/-- Who opens, and towards whom. -/
theorem FW.opens (h : FW b T t Wo Wn G X M i) (dv : DvF T t t' H Wo Wo1 Fs G G' X X' M M' Lg Lg' d c n kk f q O) (hm : G[m]? = some gm) (hl : gm.gone = false) (rf : RowF T G X i m gm q) :
    ((X m).st = 1 → m = i ∧ ∃ j y, Two G i j gm y ∧ (X j).st = 2 ∧ (X j).rt = 0 ∧ 1 ≤ (X j).tm) ∧ ((X m).st = 2 → ∃ g, Two G i m g gm ∧ g.pr = some m ∧ (X i).st = 3) := by
  have sys := dv.ds.s0
  have lv := sys.liv hm hl
  have nosyn : q.s.1.fl ≠ 1 := by
    rcases rf.kind with ⟨s, _⟩ | ⟨⟨o, x0, a, s⟩, _⟩
    · rw [s.fl]; decide
    · rcases s.ak with z | z <;> rw [z] <;> decide
  refine ⟨fun h1 => ?_, fun h2 => ?_⟩
  · have cl := lv.s1 h1
    have mi : m = i := by
      rcases h.cur m gm hm hl with ⟨z, _⟩ | ⟨z, _⟩
      · exact z
      · rw [cl] at z; cases z
    subst mi
    refine ⟨rfl, ?_⟩
    rcases h.os with ⟨_, z⟩ | ⟨g, f0, n0, q0, d0, p⟩ | ⟨_, j, g, y, tw, s1, s2, r1, r2, w⟩ | ⟨_, j, g, y, tw, _, s1, _⟩
    · exact absurd h1 (z m gm hm hl).1
    · exact absurd (p.no h.ag dv.lk dv.fW dv.fo).1 nosyn
    · have : g = gm := by have := tw.hi; rw [hm] at this; cases this; rfl
      subst this
      exact ⟨j, y, tw, s2, r2, by rcases w with w | w <;> omega⟩
    · omega
  · have cl := (lv.s2 h2).1
    have pri : gm.pr = some i := by
      rcases h.cur m gm hm hl with ⟨_, z⟩ | ⟨_, z⟩
      · rw [cl] at z; cases z
      · exact z
    have met : ∀ g, G[i]? = some g → ∃ o, g.ot = some o := fun g hg => by
      rcases rf.kind with ⟨s, _⟩ | ⟨⟨o, x0, a, s⟩, _⟩
      · have := s.cl; rw [cl] at this; cases this
      · rcases s.pair with ⟨_, es⟩ | ⟨z, es⟩
        · have e := es.pr2
          rw [pri] at e
          cases e
          have := s.at_
          rw [hg] at this
          cases this
          obtain ⟨o, ho, _⟩ := es.ot
          exact ⟨o, ho⟩
        · have := es.cl; rw [cl] at this; cases this
    have tup : ∀ {j : Nat} {g y : GE}, Two G i j g y → j = m := fun {j g y} tw => by
      obtain ⟨p1, g1, hg1, k1⟩ := sys.inv.ends.kid j y tw.hj tw.cj
      obtain ⟨p2, g2, hg2, k2⟩ := sys.inv.ends.kid m gm hm cl
      have e1 : p1 = i := by have := k1.pr; rw [tw.pr] at this; cases this; rfl
      have e2 : p2 = i := by have := k2.pr; rw [pri] at this; cases this; rfl
      subst e1
      subst e2
      rw [hg1] at hg2
      cases hg2
      exact sys.inv.ends.tuple tw.hj hm tw.gj hl (k1.mir.same k2.mir)
    rcases h.os with ⟨_, z⟩ | ⟨g, f0, n0, q0, d0, p⟩ | ⟨_, j, g, y, tw, s1, s2, r1, r2, w⟩ | ⟨_, j, g, y, tw, pr, s1, _⟩
    · exact absurd h2 (z m gm hm hl).2
    · exact absurd (p.no h.ag dv.lk dv.fW dv.fo).1 nosyn
    · exfalso
      obtain ⟨o, ho⟩ := met g tw.hi
      have := ((sys.liv tw.hi tw.gi).op (.inl s1)).2.2.1
      rw [ho] at this
      cases this
    · have e := tup tw
      subst e
      have : y = gm := by have := tw.hj; rw [hm] at this; cases this; rfl
      subst this
      exact ⟨g, tw, pr, s1⟩
theorem FW.prsHit (h : FW b T t Wo Wn G X M i) (dv : DvF T t t' H Wo Wo1 Fs G G' X X' M M' Lg Lg' d c n kk f q O) (hlen : G'.length = G.length) (hm : G[m]? = some gm) (hl : gm.gone = false) (to : To gm (c, q)) (rf : RowF T G X i m gm q) : Prs b T Wo1 (Wn ++ Fs) G' X' M' := by
  obtain ⟨hr, hd⟩ := dv.hit hm hl to
  have sys := dv.ds.s0
  have sys' := dv.ds.s1
  have tr := dv.ds.tr
  have lvm := sys.liv hm hl
  have ei : (X m).st = 1 → (X m).iss = gm.iss := fun z => (lvm.op (.inl z)).1
  have mvb := rf.mvb lvm.ok ei
  obtain ⟨flg, _⟩ := dv.ds.il.seg sys
  obtain ⟨op1, op2⟩ := h.opens dv hm hl rf
  intro k l g' y' hk' hl' h3' hj' hp'
  obtain ⟨g, hk, hgl, tk⟩ := tr.alive hlen hk' hl'
  have hll : l < G.length := by rw [← hlen]; exact (List.getElem?_eq_some_iff.1 hj').1
  have hj : G[l]? = some G[l] := List.getElem?_eq_getElem hll
  generalize G[l] = y at hj
  have kpy : Kp y y' := by
    obtain ⟨w, hw, e⟩ := tr l y hj
    rw [hj'] at hw
    cases hw
    rcases e with ⟨_, rfl⟩ | ⟨_, e⟩
    · exact Kp.refl _
    · exact e.kp
  have hne : l ≠ k := fun e => by
    subst e
    rw [hk'] at hj'
    cases hj'
    have := hp'.cl
    cases q : g'.cl <;> rw [q] at this <;> cases this
  by_cases h3 : (X k).st = 3
  · have epr : g'.pr = g.pr := by
      rcases tk.how with ⟨e, _⟩ | ⟨e, _⟩ | ⟨e, _⟩
      · exact e
      · omega
      · omega
    obtain ⟨j0, y0, hj0, hp0, _⟩ := sys.inv.cn hk hgl h3
    have e0 : j0 = l := by
      have a := hp0.pr
      have b := hp'.pr
      rw [epr, a] at b
      cases b
      rfl
    subst e0
    rw [hj] at hj0
    cases hj0
    obtain ⟨yl, rp, fn⟩ := h.prs k j0 g y hk hgl h3 hj hp0
    have yl' := dv.alv hr hj yl hj'
    obtain ⟨rl, _⟩ := roles_ne sys.inv.ends hk hj hp0
    have cn' := sys'.cnI hk' hl' h3' hj' hp'
    refine ⟨yl', ?_⟩
    by_cases ek : k = m
    · subst ek
      rw [hm] at hk
      cases hk
      have hny : ¬ To y (c, q) := fun w => rl (by rw [← to.dp, w.dp])
      rw [hr.ne j0 hne]
      exact ⟨Rp.hit rp dv h.ag tk.kp kpy hny lvm.ok h3 hr.eX h3' rf.rng, Fin1.hit fn dv tk.kp lvm.ok h3 hr.eX h3' rf.rng⟩
    · have hng : ¬ To g (c, q) := fun w => ek (sys.inv.ends.tuple hk hm hgl hl (w.same to))
      have exk := hr.ne k ek
      rw [exk] at h3' cn' ⊢
      have ans : ∀ (em : j0 = m), AckT q.s → (0 < q.s.2.length ∨ q.s.1.fl = 6) → ∃ q1, Sn T M' Fs q1 ∧ To g' q1 ∧ AckT q1.2.s ∧ q1.2.s.1.ak = rcvNxt (X' j0) ∧ OpenOk y' g' (X' j0) := fun em hA hD => by
        subst em
        rw [hm] at hj
        cases hj
        obtain ⟨q1, s1, t1, a1, k1, _, st⟩ := dv.answer hm hl hr hd rf (h.wy j0 gm hm hl) to hA hD hp0.mir.symm
        exact ⟨q1, s1, t1.kp tk.kp, a1, k1, sys'.ooJ hk' hj' hp' yl' st⟩
      refine ⟨Rp.keep rp dv h.ag tk.kp kpy hng fun ty fl => ?_, ?_⟩
      · have em : j0 = m := sys.inv.ends.tuple hj hm yl hl (ty.same to)
        obtain ⟨q1, s1, t1, a1, k1, oo⟩ := ans em (by rcases fl.2 with w | w; exact .inl w.1; exact .inr w.1) (by rcases fl.2 with w | w; exact .inl w.2.1; exact .inr w.1)
        obtain ⟨_, n1, n2⟩ := ack_num cn' oo
        exact ⟨q1, s1.app2, t1, a1, by rw [k1]; exact n2, by rw [k1]; exact n1⟩
      · by_cases em : j0 = m
        · refine Fin1.peer fn dv tk.kp hng (fun w4 n4 => ?_) (fun w4 => ?_) (fun zp zp' xf => ?_)
          · subst em
            rw [hr.eX] at w4 ⊢
            exact mvb.q10 w4 n4
          · subst em
            rw [hr.eX]
            exact mvb.q4 w4
          · have zp'' := zp'
            rw [em, hr.eX] at zp''
            rw [em] at zp
            obtain ⟨hA, hD⟩ := rf.learn lvm.ok flg ei zp zp''
            obtain ⟨q1, s1, t1, a1, k1, oo⟩ := ans em hA hD
            obtain ⟨f1, f2⟩ := full_num cn' oo zp' xf
            exact ⟨f1, q1, s1.app2, t1, a1, by rw [k1]; exact f2⟩
        · rw [hr.ne j0 em]
          exact Fin1.peer fn dv tk.kp hng (fun w4 n4 => absurd w4 n4) (fun _ => rfl) (fun zp zp' _ => by rw [zp] at zp'; cases zp')
  · -- it has just opened
    have ek : k = m := Classical.byContradiction fun e => by rw [hr.ne k e] at h3'; exact h3 h3'
    subst ek
    rw [hm] at hk
    cases hk
    have rt0 : (X' k).rt = 0 := by rw [hr.eX] at h3' ⊢; exact mvb.rt0 h3 h3'
    have ot : gm.ot = none ∧ ∃ ly, G[l]? = some ly ∧ ly.gone = false := by
      rcases tk.how with ⟨_, _, e⟩ | ⟨s1, _, _, j0, y0, epr, hy0, _, ypr, ycl, mi, mx⟩ | ⟨s2, epr, _, _⟩
      · exact absurd (e hl' h3') h3
      · refine ⟨(lvm.op (.inl s1)).2.2.1, ?_⟩
        obtain ⟨_, j, yj, tw, _⟩ := op1 s1
        have el : j0 = l := by have b := hp'.pr; rw [epr] at b; cases b; rfl
        subst el
        obtain ⟨p1, g1, hg1, k1⟩ := sys.inv.ends.kid j yj tw.hj tw.cj
        have e1 : p1 = i := by have := k1.pr; rw [tw.pr] at this; cases this; rfl
        subst e1
        have := tw.hi
        rw [hg1] at this
        cases this
        have sm : SameT y0 yj := mi.same k1.mir
        have le := mx j yj tw.hj sm
        have ej : j = j0 := by
          rcases Nat.lt_or_ge j j0 with w | w
          · have := (sys.inv.ends.two j j0 yj y0 w tw.hj hy0 ⟨sm.h.symm, sm.lp.symm, sm.rh.symm, sm.rp.symm⟩).1
            rw [tw.gj] at this
            cases this
          · omega
        subst ej
        exact ⟨yj, tw.hj, tw.gj⟩
      · refine ⟨(lvm.op (.inr s2)).2.2.1, ?_⟩
        obtain ⟨g1, tw, _⟩ := op2 s2
        have el : l = i := by
          have b := hp'.pr
          rw [epr, tw.pr] at b
          cases b
          rfl
        subst el
        exact ⟨g1, tw.hi, tw.gi⟩
    obtain ⟨ot, ly, hly, lyl⟩ := ot
    rw [hj] at hly
    cases hly
    have yl' := dv.alv hr hj lyl hj'
    refine ⟨yl', .inl rt0, fun zp _ => ?_⟩
    exfalso
    rw [hr.ne l hne] at zp
    have zz := sys.inv.zero k gm hm ot
    have wc : g'.wc = false := by rw [(dv.ds.sr k gm g' hm hk').2.2]; exact zz.f.2.2.2
    have lvl := sys'.liv hj' yl'
    rw [hr.ne l hne] at lvl
    have hst := lvl.ok.st
    have hnz := lvl.nz
    have hwl := h.wy l y hj lyl
    by_cases c12 : (X l).st = 1 ∨ (X l).st = 2
    · have := (lvl.ok.opening c12).2.2.2.2
      rw [zp] at this
      cases this
    · have oo := sys'.ooJ hk' hj' hp' yl' (by rw [hr.ne l hne]; omega)
      rw [hr.ne l hne] at oo
      obtain ⟨d1, _⟩ := hp'.dirs
      have f1 := (d1.pf (by rw [← oo.pf]; exact zp)).1
      have := (d1.fs f1).2
      rw [wc] at this
      cases this
end
end Go.Proofs.Qxb6500424aGreat
