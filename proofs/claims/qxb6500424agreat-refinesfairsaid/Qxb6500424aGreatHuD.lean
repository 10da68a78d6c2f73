/-
  host: fair weather: a datagram at a row: what it does there.
-/
import Derived.Test.Qxb6500424aGreatHuC
set_option linter.unusedVariables false
set_option linter.unusedSimpArgs false
namespace Go.Proofs.Qxb6500424aGreat
structure DvF (T : Int) (t t' : Nat → TC) (H : Nat → HS) (Wo Wo1 Fs : List FL) (G G' : List GE) (X X' : Nat → CS) (M M' : Nat → List DG) (Lg Lg' : List LE) (d c n k : Nat) (f : FL) (q : DG) (O : List OutS) : Prop where
  ds : DSt T t t' G G' X X' Lg Lg' d (c, q) O
  lk : ∀ c, c < 3 → LinkOk c T (H c) (M c) Lg
  fo : FrOk T M f c n k q
  fW : f ∈ Wo
  sub : ∀ x ∈ Wo, x = f ∨ x ∈ Wo1
  sub1 : ∀ x ∈ Wo1, x ∈ Wo
  mx : MExt M M'
  mo : ∀ c', c' < 3 → ∀ g ∈ M' c', g ∈ M c' ∨ ∃ o ∈ O, g = dgO T o
  new : ∀ o ∈ O, encB d o = true → o.2.2 = [] → Sn T M' Fs (d, dgO T o)
  nfs : ∀ x ∈ Fs, x.fl = false ∧ x.age = 0 ∧ ∃ n i, ∃ o ∈ O, FrOk T M' x d n i (dgO T o)
section
variable {x x' y z : CS} {s s' : SegV}
theorem acked_st3 (ak wn : Int) (x : CS) : (ackedF ak wn x).2.st = x.st := by
  unfold ackedF
  split
  · rfl
  split
  · rfl
  split
  · rfl
  show (if 0 < flying (ackC ak wn x) then armF (ackC ak wn x) else ackC ak wn x).st = _
  split
  · unfold armF
    split <;> rfl
  · rfl
/-- A block that ends well is quiet for ten ticks. -/
theorem in_qt (hx : x.st = 3) (hf : Fai s) (h4 : (inputF s.1 s.2 x).1.st = 4) : (inputF s.1 s.2 x).1.qt = 10 := by
  have fin : ∀ z : CS, z.st = 3 → (endF z).st = 4 → (endF z).qt = 10 := fun z h3 h4 => by
    unfold endF at h4 ⊢
    split
    · rfl
    · rename_i q; rw [if_neg q] at h4; omega
  rcases hf with h | h | h
  · exfalso
    rw [sync3 hx, h, fl1.1] at h4
    unfold syncF at h4
    rw [if_neg (by rw [fl1.2.1]; simp), if_pos fl1.2.2.1, if_neg (by omega)] at h4
    have : x.st = 4 := h4
    omega
  · exfalso
    rw [in_sa3 hx h] at h4
    have : x.st = 4 := h4
    omega
  · rw [ack3 hx h] at h4 ⊢
    unfold openF at h4 ⊢
    split
    · rename_i q
      rw [if_pos q] at h4
      unfold goonF at h4 ⊢
      split
      · rename_i q2
        rw [if_pos q2] at h4
        exact fin _ (by rw [pump_st, (take_st _ _ _ _).1, acked_st3]; exact hx) h4
      · rename_i q2
        rw [if_neg q2] at h4
        exact fin _ (by rw [pump_st, acked_st3]; exact hx) h4
    · rename_i q
      rw [if_neg q] at h4
      have : x.st = 4 := h4
      omega
theorem opened_ack (h : CsOk x) (h2 : x.st = 2) (hr : 0 ≤ s.1.ak ∧ s.1.ak < 256) (hk : s.1.ak = sqAdd x.iss 1) : (ackedF (sqAdd s.1.ak 0) s.1.wn (openedF x)).1 = true := by
  have fa := (h.opening (.inr h2)).2.2.2.1
  have e : ackD (sqAdd s.1.ak 0) (openedF x) = 0 := by
    unfold ackD sndUna
    rw [if_neg (by show ¬ x.fa = true; rw [fa]; simp), sqAdd0 hr, hk]
    have eu : (openedF x).S.una = sqAdd x.iss 1 := by
      show (resetS (sqAdd x.iss 1)).una = _
      show sqAdd (sqAdd x.iss 1) 0 = _
      unfold sqAdd
      omega
    rw [eu]
    unfold sqDiff
    have : (sqAdd x.iss 1 - sqAdd x.iss 1) = 0 := by omega
    rw [this]
    decide
  unfold ackedF
  have hf := flying_nonneg (openedF x)
  rw [if_neg (by omega), if_neg (by omega), if_pos e]
end
section
variable {b T T0 T1 : Int} {t t' : Nat → TC} {H : Nat → HS} {Wo Wo1 Wn Fs : List FL} {G G' : List GE} {X X' : Nat → CS} {M M' : Nat → List DG} {Lg Lg' : List LE} {i j k l c n d m kk : Nat} {g y g' y' gm gm' : GE} {x z : CS} {f : FL} {q : DG} {O : List OutS}
theorem To.mir (mi : Mirror g y) (T : Int) (s : SegV) : To y (g.h, dgO T (stampG g s)) := ⟨mi.rh, mi.rh2, mi.lp, mi.rp⟩
/-- A row was hit. -/
structure HitR (G G' : List GE) (X X' : Nat → CS) (m : Nat) (gm : GE) (s : SegV) (O : List OutS) : Prop where
  eX : X' m = (inputF s.1 s.2 (X m)).1
  ne : ∀ k, k ≠ m → X' k = X k
  eO : O = (inputF s.1 s.2 (X m)).2.map (stampG gm)
theorem DvF.hit (dv : DvF T t t' H Wo Wo1 Fs G G' X X' M M' Lg Lg' d c n kk f q O) (hm : G[m]? = some gm) (hl : gm.gone = false) (to : To gm (c, q)) : HitR G G' X X' m gm q.s O ∧ gm.h = d := by
  have ds := dv.ds
  obtain ⟨e1, O0, e2, e3⟩ := ds.hx.hit (ds.s0.tab d ds.d3) ds.s0.inv.ends hm hl to ds.hd
  refine ⟨⟨by rw [e1]; simp [updX], fun k hk => by rw [e1]; unfold updX; rw [if_neg hk], by rw [e2]; exact e3⟩, ?_⟩
  have := to.d
  have := ds.hd
  omega
/-- Nobody goes. -/
theorem DvF.alv (dv : DvF T t t' H Wo Wo1 Fs G G' X X' M M' Lg Lg' d c n kk f q O) (hr : HitR G G' X X' m gm q.s O) (hk : G[k]? = some g) (hl : g.gone = false) (hk' : G'[k]? = some g') : g'.gone = false := by
  cases e : g'.gone with
  | false => rfl
  | true =>
    exfalso
    obtain ⟨x4, x0, _⟩ := (dv.ds.tr.at hk hk' hl).go e
    by_cases c1 : k = m
    · subst c1
      rw [hr.eX, (in_q4 x4).1] at x0
      omega
    · rw [hr.ne k c1] at x0
      omega
theorem DvF.ages (dv : DvF T t t' H Wo Wo1 Fs G G' X X' M M' Lg Lg' d c n kk f q O) (h : Ages Wo Wn) : Ages Wo1 (Wn ++ Fs) :=
  ⟨fun x hx => h.o x (dv.sub1 x hx), fun x hx => by
    rcases List.mem_append.1 hx with z | z
    · exact h.n x z
    · have := dv.nfs x z; exact ⟨this.1, this.2.1⟩⟩
/-- What the row is, and that all it says acknowledges. -/
structure RowF (T : Int) (G : List GE) (X : Nat → CS) (i m : Nat) (gm : GE) (q : DG) : Prop where
  fai : Fai q.s
  outs : ∀ s' ∈ (inputF q.s.1 q.s.2 (X m)).2, AckT s' ∧ Rng s'
  kind : (ArrS G i m gm q ∧ ((X m).st = 1 ∨ (X m).st = 3 ∨ (X m).st = 4)) ∨ ((∃ o x0 a, ArrA T G m gm q o x0 a) ∧ (((X m).st = 2 ∧ q.s.1.ak = sqAdd (X m).iss 1) ∨ (X m).st = 3 ∨ (X m).st = 4))
  rng : 0 ≤ q.s.1.ak ∧ q.s.1.ak < 256
theorem FW.rowF (h : FW b T t Wo Wn G X M i) (dv : DvF T t t' H Wo Wo1 Fs G G' X X' M M' Lg Lg' d c n kk f q O) (hm : G[m]? = some gm) (hl : gm.gone = false) (ha : ArrS G i m gm q ∨ ∃ o x0 a, ArrA T G m gm q o x0 a) : RowF T G X i m gm q := by
  have sys := dv.ds.s0
  have lv := sys.liv hm hl
  have hst := lv.ok.st
  have hnz := lv.nz
  have hw := h.wy m gm hm hl
  obtain ⟨flg, il⟩ := dv.ds.il.seg sys
  have eA : ∀ w : CS, CsW w → AckT (ackF w) ∧ Rng (ackF w) := fun w hw => ⟨.inl rfl, rng_ack hw⟩
  rcases ha with s | ⟨o, x0, a, s⟩
  · have hk : 0 ≤ q.s.1.ak ∧ q.s.1.ak < 256 := by rw [s.ak]; unfold sqAdd; omega
    have n2 : (X m).st ≠ 2 := fun z => by have := (lv.s2 z).1; rw [s.cl] at this; cases this
    have kd : (X m).st = 1 ∨ (X m).st = 3 ∨ (X m).st = 4 := by omega
    refine ⟨.inr (.inl s.fl), fun s' hs => ?_, .inl ⟨s, kd⟩, hk⟩
    rcases kd with z | z | z
    · have ei : (X m).iss = gm.iss := (lv.op (.inl z)).1
      rw [in_st1 z s.fl hk (by rw [ei]; exact s.ak)] at hs
      rw [List.mem_singleton.1 hs]
      refine eA _ (opened_ok lv.ok (.inl z) (resetR_ok _) ?_).toCsW
      unfold windowF
      split
      · omega
      · split <;> omega
    · rw [in_sa3 z s.fl] at hs
      rw [List.mem_singleton.1 hs]
      exact eA _ lv.ok.toCsW
    · rw [in_sa4 z s.fl s.D] at hs
      cases hs
  · obtain ⟨hk, hB, _⟩ := il s.ak
    have n1 : (X m).st ≠ 1 := fun z => by
      have cl := lv.s1 z
      have ot := (lv.op (.inl z)).2.2.1
      rcases s.pair with ⟨_, es⟩ | ⟨_, es⟩
      · have := es.cl2; rw [cl] at this; cases this
      · obtain ⟨o1, ho1, _⟩ := es.ot; rw [ot] at ho1; cases ho1
    have a2 : (X m).st = 2 → q.s.1.ak = sqAdd (X m).iss 1 := fun z => by
      have ot := (lv.op (.inr z)).2.2.1
      have zz := sys.inv.zero m gm hm ot
      obtain ⟨d1, d2⟩ := s.pair.dirs
      have r1 := d2.rc
      have r2 := zz.n
      have r3 : x0.pf = false := by
        cases e : x0.pf with
        | false => rfl
        | true => have := (d2.pf e).1; rw [zz.f.1] at this; cases this
      have r4 := s.rc
      rw [r3] at r4
      have r5 : b2i false = 0 := rfl
      have a0 : a = 0 := by omega
      rw [s.num, a0, (lv.op (.inr z)).1]
      unfold sqAdd
      omega
    refine ⟨.inr (.inr s.ak), fun s' hs => ?_, .inr ⟨⟨o, x0, a, s⟩, ?_⟩, hk⟩
    · by_cases c4 : (X m).st = 4
      · obtain ⟨e, _⟩ := (in_q4 c4).2 s' hs
        rw [e]
        exact eA _ lv.ok.toCsW
      by_cases c3 : (X m).st = 3
      · rw [ack3 c3 s.ak] at hs
        obtain ⟨r1, r2, _⟩ := open_outs lv.ok.toCsW c3 hB s' hs
        exact ⟨r2, r1⟩
      · have c2 : (X m).st = 2 := by omega
        rw [in_sync2 c2 s.ak hk (a2 c2), ack3 (show (openedF (X m)).st = 3 from rfl) s.ak] at hs
        obtain ⟨r1, r2, _⟩ := open_outs (opened0_ok lv.ok (.inr c2)).toCsW rfl hB s' hs
        exact ⟨r2, r1⟩
    · by_cases c2 : (X m).st = 2
      · exact .inl ⟨c2, a2 c2⟩
      · exact .inr (by omega)
/-- Whatever bears data or a FIN is answered. -/
theorem DvF.answer (dv : DvF T t t' H Wo Wo1 Fs G G' X X' M M' Lg Lg' d c n kk f q O) (hm : G[m]? = some gm) (hl : gm.gone = false) (hr : HitR G G' X X' m gm q.s O) (hd : gm.h = d) (rf : RowF T G X i m gm q) (hw : (X m).why = 0) (to : To gm (c, q)) (hA : AckT q.s) (hD : 0 < q.s.2.length ∨ q.s.1.fl = 6) (mi : Mirror gm g') : ∃ q1, Sn T M' Fs q1 ∧ To g' q1 ∧ AckT q1.2.s ∧ q1.2.s.1.ak = rcvNxt (X' m) ∧ (0 ≤ q1.2.s.1.ak ∧ q1.2.s.1.ak < 256) ∧ ((X' m).st = 3 ∨ ((X' m).st = 4 ∧ (X' m).why = 0)) := by
  have sys := dv.ds.s0
  obtain ⟨flg, il⟩ := dv.ds.il.seg sys
  have lv := sys.liv hm hl
  have key : ∃ s' ∈ (inputF q.s.1 q.s.2 (X m)).2, s'.1.fl = 2 ∧ s'.2 = [] ∧ s'.1.ak = rcvNxt (inputF q.s.1 q.s.2 (X m)).1 := by
    rcases rf.kind with ⟨s, _⟩ | ⟨_, st⟩
    · exfalso
      have := s.fl
      rcases hA with z | z <;> omega
    rcases st with ⟨c2, e⟩ | c3 | c4
    · rw [in_sync2 c2 hA rf.rng e]
      have ok2 := opened0_ok lv.ok (.inr c2)
      have ak2 := opened_ack (s := q.s) lv.ok c2 rf.rng e
      have st2 : (openedF (X m)).st = 3 := rfl
      generalize openedF (X m) = w at ok2 ak2 st2
      exact out_ack (.inl st2) ok2 hA hD (fun _ => ak2)
    · exact out_ack (.inl c3) lv.ok hA hD (fun _ => acked_true (q := (c, q)) sys hm hl c3 dv.ds.il to hA)
    · exact out_ack (.inr ⟨c4, hw⟩) lv.ok hA hD (fun z => by omega)
  obtain ⟨s', hs, e1, e2, e3⟩ := key
  have rg := (rf.outs s' hs).2
  have enc := sys.enc hm hl rg
  rw [hd] at enc
  have ho : stampG gm s' ∈ O := by rw [hr.eO]; exact List.mem_map.2 ⟨s', hs, rfl⟩
  refine ⟨(d, dgO T (stampG gm s')), dv.new _ ho enc e2, ?_, .inl e1, ?_, rg.ak, by rw [hr.eX]; exact (in_outs lv.ok flg (fun a => (il a).2.1) s' hs (.inl e1)).2.1⟩
  · rw [← hd]; exact To.mir mi T s'
  · rw [hr.eX]; exact e3
end
end Go.Proofs.Qxb6500424aGreat
