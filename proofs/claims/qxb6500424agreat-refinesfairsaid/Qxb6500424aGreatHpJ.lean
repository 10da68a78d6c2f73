/-
  host: the plain law of the network: a segment comes to a row: the whole.
-/
import Derived.Test.Qxb6500424aGreatHpI
set_option linter.unusedVariables false
set_option linter.unusedSimpArgs false
namespace Go.Proofs.Qxb6500424aGreat
section
variable {T dp : Int} {tk tk' : Nat → Bool} {G : List GE} {X : Nat → CS} {Lg N : List LE} {i j jj o a : Nat} {g y g' g1 g2 x0 yy : GE} {x x' : CS} {L : List SegV} {e : LE}
theorem Inv.inSynSent (h : Inv T tk G X Lg) (hi : G[i]? = some g) (hl : g.gone = false) (hti : tk i = true) (h1 : (X i).st = 1) (hem : e ∈ Lg) (ht : T - 4 ≤ e.t) (hat : At g e) (ho : Out T g i (inputF e.s.1 e.s.2 (X i)).2 N) :
    ∃ g2, Inv T tk (G.set i g2) (updX X i (inputF e.s.1 e.s.2 (X i)).1) (Lg ++ N) ∧ InRes T G i g g2 (X i) (inputF e.s.1 e.s.2 (X i)).1 := by
  have lv := h.live i g hi hl
  have hok := synSentF_ok (sq := sqAdd e.s.1.sq 0) (ak := sqAdd e.s.1.ak 0) (f := fAnd e.s.1.fl 15) (wn := e.s.1.wn) lv.ok h1
  obtain ⟨tle, inv⟩ := h.seg e hem ht
  unfold inputF at ho ⊢
  rw [if_neg (by omega), if_pos h1] at ho ⊢
  have same : (synSentF (sqAdd e.s.1.sq 0) (sqAdd e.s.1.ak 0) (fAnd e.s.1.fl 15) e.s.1.wn (X i)) = (X i, []) → ∃ g2, Inv T tk (G.set i g2) (updX X i (synSentF (sqAdd e.s.1.sq 0) (sqAdd e.s.1.ak 0) (fAnd e.s.1.fl 15) e.s.1.wn (X i)).1) (Lg ++ N) ∧ InRes T G i g g2 (X i) (synSentF (sqAdd e.s.1.sq 0) (sqAdd e.s.1.ak 0) (fAnd e.s.1.fl 15) e.s.1.wn (X i)).1 := fun q => by
    rw [q] at ho ⊢
    exact h.inSame hi hl (fun e he => nil_out ho he)
  have rst : ∀ n, (synSentF (sqAdd e.s.1.sq 0) (sqAdd e.s.1.ak 0) (fAnd e.s.1.fl 15) e.s.1.wn (X i)) = (X i, [rstF n]) → ∃ g2, Inv T tk (G.set i g2) (updX X i (synSentF (sqAdd e.s.1.sq 0) (sqAdd e.s.1.ak 0) (fAnd e.s.1.fl 15) e.s.1.wn (X i)).1) (Lg ++ N) ∧ InRes T G i g g2 (X i) (synSentF (sqAdd e.s.1.sq 0) (sqAdd e.s.1.ak 0) (fAnd e.s.1.fl 15) e.s.1.wn (X i)).1 := fun n q => by
    rw [q] at ho ⊢
    exact h.inSame hi hl (fun e he => ⟨(rst_out n ho he).1, .inl (rst_out n ho he).2⟩)
  rcases inv with s | ⟨y, s⟩ | ⟨y, q0, p, s⟩ | ⟨y, yy, jj, o, a, s⟩
  · rcases s with s | s
    · refine same ?_
      rw [s]
      unfold synSentF
      rw [f8.1, if_neg (fun q => q.1 f8.2.2), if_pos f8.2.1, if_neg (fun q => q f8.2.2)]
    · by_cases c : sqAdd e.s.1.ak 0 ≠ sqAdd (X i).iss 1
      · refine same ?_
        rw [s]
        unfold synSentF
        rw [f10.1, if_pos ⟨f10.2.2, c⟩, if_pos f10.2.1]
      · have q : (synSentF (sqAdd e.s.1.sq 0) (sqAdd e.s.1.ak 0) (fAnd e.s.1.fl 15) e.s.1.wn (X i)) = (failF 18, []) := by
          rw [s]
          unfold synSentF
          rw [f10.1, if_neg (fun q => c q.2), if_pos f10.2.1, if_pos f10.2.2]
        rw [q] at ho ⊢
        exact h.inFail hi hl hti (by omega) (by decide) ho
  · refine same ?_
    rw [s.fl]
    unfold synSentF
    rw [f1.1, if_neg (fun q => q.1 f1.2.2.2), if_neg (fun q => q f1.2.1), if_pos (.inr f1.2.2.2)]
  · have hak : sqAdd e.s.1.ak 0 = e.s.1.ak := by rw [s.ak]; unfold sqAdd; omega
    have hsq : sqAdd e.s.1.sq 0 = e.s.1.sq := by rw [s.sq]; exact sqAdd0 (iss_bd (h.ends.time e.o y s.at_))
    by_cases c : sqAdd e.s.1.ak 0 ≠ sqAdd (X i).iss 1
    · refine rst (sqAdd e.s.1.ak 0) ?_
      rw [s.fl]
      unfold synSentF
      rw [f3.1, if_pos ⟨f3.2.2.2, c⟩, if_neg (fun q => q f3.2.1)]
    · have q : (synSentF (sqAdd e.s.1.sq 0) (sqAdd e.s.1.ak 0) (fAnd e.s.1.fl 15) e.s.1.wn (X i)) = ({ openedF (X i) with B := resetR (sqAdd e.s.1.sq 1), pw := windowF e.s.1.wn }, [ackF { openedF (X i) with B := resetR (sqAdd e.s.1.sq 1), pw := windowF e.s.1.wn }]) := by
        rw [s.fl]
        unfold synSentF
        rw [f3.1, if_neg (fun q => c q.2), if_neg (fun q => q f3.2.1), if_neg (fun q => by rcases q with q | q; exact f3.2.2.1 q; exact f3.2.2.2 q), hsq]
      rw [q] at ho hok ⊢
      exact h.open1 hi hl hti h1 ht tle hat s (by rw [← hak]; simpa using c) hok ho
  · by_cases c : sqAdd e.s.1.ak 0 ≠ sqAdd (X i).iss 1
    · refine rst (sqAdd e.s.1.ak 0) ?_
      rcases s.fl with f | ⟨f, _⟩
      · rw [f]
        unfold synSentF
        rw [f2.1, if_pos ⟨f2.2.2.2.1, c⟩, if_neg (fun q => q f2.2.1)]
      · rw [f]
        unfold synSentF
        rw [f6.1, if_pos ⟨f6.2.2.2.1, c⟩, if_neg (fun q => q f6.2.1)]
    · refine same ?_
      rcases s.fl with f | ⟨f, _⟩
      · rw [f]
        unfold synSentF
        rw [f2.1, if_neg (fun q => c q.2), if_neg (fun q => q f2.2.1), if_pos (.inl f2.2.2.1)]
      · rw [f]
        unfold synSentF
        rw [f6.1, if_neg (fun q => c q.2), if_neg (fun q => q f6.2.1), if_pos (.inl f6.2.2.1)]
theorem InS.mv {s : SegV} (h : InS g y s o a) (m : Mv g g1) : InS g1 y s o a := ⟨h.fl, h.sq, by rw [m.iss]; exact h.ak, h.dat, h.fin, h.rc, by rw [m.pot]; exact h.pot, h.len, h.isB⟩
theorem goon_go {s : SegV} {f : Int} (h : Cn g y x) (hi : InS g y s o a) (hf : f = s.1.fl) : ∃ g' x3, Go1 g y g' x3 (goonF s.1.sq f s.2 x).2 ∧ (goonF s.1.sq f s.2 x).1 = endF x3 := by
  subst hf
  unfold goonF
  by_cases c : 0 < s.2.length ∨ fAnd s.1.fl 4 ≠ 0
  · rw [if_pos c]
    obtain ⟨g1, k1⟩ := take_go h hi
    obtain ⟨g2, k2⟩ := pump_go k1.cn
    have k3 := k1.trans k2
    have ka := (k1.cn.ack).mv k2.mv k1.cn.d1.un.2.1
    exact ⟨g2, _, ⟨k3.cn, k3.mv, fun t ht => (by
      rcases List.mem_cons.1 ht with q | q
      · rw [q]; exact ka
      · exact k2.seg t q), k3.kp⟩, rfl⟩
  · rw [if_neg c]
    obtain ⟨g2, k2⟩ := pump_go h
    exact ⟨g2, _, k2, rfl⟩
theorem open_go {s : SegV} {f ak wn : Int} (h : Cn g y x) (hi : InS g y s o a) (hf : f = s.1.fl) (hak : ak = s.1.ak) : ∃ g' x3, Go1 g y g' x3 (openF ak wn s.1.sq f s.2 x).2 ∧ (openF ak wn s.1.sq f s.2 x).1 = endF x3 := by
  obtain ⟨a1, g1, k1, _, _⟩ := acked_go (ak := ak) (wn := wn) h (by rw [hak]; exact hi.ak) hi.rc hi.pot
  unfold openF
  rw [if_pos a1]
  obtain ⟨g2, x3, k2, e2⟩ := goon_go k1.cn (hi.mv k1.mv) hf
  exact ⟨g2, x3, by simpa using k1.trans k2, e2⟩
theorem SegA.ins (s : SegA (tau T tk) G e x0 g i o a) (ht : T - 4 ≤ e.t) (sq : Int) : InS g x0 e.s o a := by
  have t1 := tau_ge T tk e.o
  have t2 := tau_ge T tk i
  exact ⟨s.fl, s.sq, s.ak, fun hd => by obtain ⟨d1, d2, d3, _⟩ := s.dat hd; exact ⟨d1, d2, by omega⟩, s.fin, s.rc, by have := s.pot; omega, s.len, s.isB⟩
theorem endF_cases (hx : x.st = 3) (hw : CsW x) : (endF x = x) ∨ (endF x = { x with st := 4, qt := 10, tm := 0, rt := 0, cr := 0, pw := 0 } ∧ x.why = 0 ∧ x.fa = true) := by
  unfold endF
  split
  · rename_i q
    exact .inr ⟨rfl, (hw.live (.inr (.inr hx))).1, q.1⟩
  · exact .inl rfl
theorem why_arm (x : CS) : (armF x).why = x.why := by unfold armF; split <;> rfl
theorem why_open (ak wn sq f : Int) (D : List Int) (x : CS) : (openF ak wn sq f D x).1.why = x.why := by
  have a1 : (ackedF ak wn x).2.why = x.why := by
    unfold ackedF
    split
    · rfl
    split
    · rfl
    split
    · rfl
    show (if _ then _ else _ : CS).why = _
    split
    · exact why_arm _
    · rfl
  have p1 : ∀ z : CS, (pumpF z).1.why = z.why := fun z => by
    have q1 : ∀ y : CS, (pump1 y).1.why = y.why := fun y => by unfold pump1; split; exact why_arm _; rfl
    have q2 : ∀ y : CS, (pump2 y).1.why = y.why := fun y => by unfold pump2; split; exact why_arm _; rfl
    unfold pumpF
    split
    · show (pump2 (pump1 z).1).1.why = z.why
      rw [q2, q1]
    · rfl
  have e1 : ∀ z : CS, (endF z).why = z.why := fun z => by unfold endF; split <;> rfl
  have t1 : ∀ z : CS, (takeF sq f D z).why = z.why := fun z => by
    unfold takeF
    repeat' split
    all_goals rfl
  unfold openF
  split
  · unfold goonF
    split
    · show (endF _).why = _
      rw [e1, p1, t1, a1]
    · show (endF _).why = _
      rw [e1, p1, a1]
  · rfl
/-- An open row, or one that opens, takes in a segment of its peer's. -/
theorem Inv.inOpen {o1 : Int} {f ak wn : Int} {y0 : CS} (h : Inv T tk G X Lg) (hi : G[i]? = some g) (hl : g.gone = false) (hti : tk i = true) (het : g.et = none) (hb : g.ot = some o1 ∨ (g.ot = none ∧ o1 = T)) (ht : T - 4 ≤ e.t) (s : SegA (tau T tk) G e x0 g i o a)
    (cn : Cn { g with pot := g.pot, ot := some o1 } x0 y0) (hok : CsOk (openF ak wn e.s.1.sq f e.s.2 y0).1) (hf : f = e.s.1.fl) (hak : ak = e.s.1.ak) (ho : Out T g i (openF ak wn e.s.1.sq f e.s.2 y0).2 N) :
    ∃ g2, Inv T tk (G.set i g2) (updX X i (openF ak wn e.s.1.sq f e.s.2 y0).1) (Lg ++ N) ∧ Kp g g2 ∧ g2.pr = g.pr ∧ g2.S = g.S ∧ g2.R = g.R ∧ g2.wc = g.wc ∧ g2.gone = false ∧ g2.ot = some o1 ∧ ((openF ak wn e.s.1.sq f e.s.2 y0).1.st = 3 ∨ ((openF ak wn e.s.1.sq f e.s.2 y0).1.st = 4 ∧ g.wc = true)) := by
  have ins := SegA.ins s ht e.s.1.sq
  obtain ⟨g', x3, k, e3⟩ := open_go (wn := wn) (s := e.s) cn (show InS { g with pot := g.pot, ot := some o1 } x0 e.s o a from ⟨ins.fl, ins.sq, ins.ak, ins.dat, ins.fin, ins.rc, ins.pot, ins.len, ins.isB⟩) hf hak
  have hcs := endF_cases k.cn.st k.cn.w
  obtain ⟨g2, iv, e2⟩ := h.openStep (p := g.pot) (o1 := o1) (dp := 0) (tk' := tk) (x' := (openF ak wn e.s.1.sq f e.s.2 y0).1) hi hl het hb s.at_ s.pair.symm (by omega) (by omega) (fun k _ => rfl) hti k.cn k.mv k.seg (by
    rcases hcs with q | ⟨q, qw, _⟩
    · rw [e3, q] at hok ⊢
      exact .inl ⟨rfl, hok⟩
    · rw [e3, q] at hok ⊢
      exact .inr ⟨rfl, hok, qw⟩) ho
  obtain ⟨k1, k2, k3, k4⟩ := k.mv.kp (g2 := g2)
  refine ⟨g2, iv, by rw [e2]; exact k1, by rw [e2]; exact k2, by rw [e2]; exact k.kp.1, by rw [e2]; exact k.kp.2.1, by rw [e2]; exact k.kp.2.2, by rw [e2]; show g'.gone = false; rw [k4]; exact hl, by rw [e2]; exact k3, ?_⟩
  rw [e3]
  rcases hcs with q | ⟨q, _, qf⟩
  · rw [q]; exact .inl k.cn.st
  · rw [q]
    refine .inr ⟨rfl, ?_⟩
    have f1 : g'.fa = true := by rw [← k.cn.oo.fa]; exact qf
    have f2 := (k.cn.d1.fs (k.cn.d1.fa f1).1).2
    rw [k.kp.2.2] at f2
    exact f2
theorem Inv.inSync (h : Inv T tk G X Lg) (hi : G[i]? = some g) (hl : g.gone = false) (hti : tk i = true) (hs : (X i).st = 2 ∨ (X i).st = 3) (hem : e ∈ Lg) (ht : T - 4 ≤ e.t) (hat : At g e) (ho : Out T g i (inputF e.s.1 e.s.2 (X i)).2 N) :
    ∃ g2, Inv T tk (G.set i g2) (updX X i (inputF e.s.1 e.s.2 (X i)).1) (Lg ++ N) ∧ InRes T G i g g2 (X i) (inputF e.s.1 e.s.2 (X i)).1 := by
  have lv := h.live i g hi hl
  obtain ⟨tle, inv⟩ := h.seg e hem ht
  have het : g.et = none := lv.ne4 (by omega)
  unfold inputF at ho ⊢
  rw [if_neg (by omega), if_neg (by omega), if_pos hs] at ho ⊢
  -- a SYN, or a SYN|ACK: say where we stand
  have syn : fAnd (fAnd e.s.1.fl 15) 8 = 0 → fAnd (fAnd e.s.1.fl 15) 1 ≠ 0 → ∃ g2, Inv T tk (G.set i g2) (updX X i (syncF (sqAdd e.s.1.sq 0) (sqAdd e.s.1.ak 0) (fAnd e.s.1.fl 15) e.s.1.wn e.s.2 (X i)).1) (Lg ++ N) ∧ InRes T G i g g2 (X i) (syncF (sqAdd e.s.1.sq 0) (sqAdd e.s.1.ak 0) (fAnd e.s.1.fl 15) e.s.1.wn e.s.2 (X i)).1 := fun q1 q2 => by
    by_cases c2 : (X i).st = 2
    · have q : (syncF (sqAdd e.s.1.sq 0) (sqAdd e.s.1.ak 0) (fAnd e.s.1.fl 15) e.s.1.wn e.s.2 (X i)) = (X i, [againF (X i)]) := by
        unfold syncF
        rw [if_neg (fun z => z q1), if_pos q2, if_pos c2]
      rw [q] at ho ⊢
      obtain ⟨o1, o2, o3, o4, o5⟩ := lv.op (.inr c2)
      have ti : tau T tk i = T := by unfold tau; rw [if_pos hti]
      rw [ti] at o2
      have tm := h.ends.time i g hi
      have htm : 0 < (X i).tm := ((lv.ok.live (.inr (.inl c2))).2.2).1 (by unfold flying; rw [if_pos (.inr c2)]; decide)
      have pw := pow_rt lv.ok.rt
      refine h.inSame hi hl (ho.inv fun s hs' => ?_)
      simp only [List.mem_singleton] at hs'
      subst hs'
      exact again_inv lv.ok (.inr c2) hi o1 (by unfold el at o2; have := tm.bt; omega) het o3 lv.s1 lv.s2
    · have c3 : (X i).st = 3 := by omega
      have q : (syncF (sqAdd e.s.1.sq 0) (sqAdd e.s.1.ak 0) (fAnd e.s.1.fl 15) e.s.1.wn e.s.2 (X i)) = (X i, [ackF (X i)]) := by
        unfold syncF
        rw [if_neg (fun z => z q1), if_pos q2, if_neg c2]
      rw [q] at ho ⊢
      refine h.inSame hi hl (ho.inv fun s hs' => ?_)
      simp only [List.mem_singleton] at hs'
      subst hs'
      exact ack_inv h hi hl hti c3
  rcases inv with s | ⟨y, s⟩ | ⟨y, q0, p, s⟩ | ⟨x0, yy, jj, o, a, s⟩
  · have hr : fAnd (fAnd e.s.1.fl 15) 8 ≠ 0 := by
      rcases s with s | s <;> rw [s] <;> decide
    by_cases c : 0 ≤ sqDiff (sqAdd e.s.1.sq 0) (rcvNxt (X i)) ∧ sqDiff (sqAdd e.s.1.sq 0) (rcvNxt (X i)) ≤ 17
    · have q : (syncF (sqAdd e.s.1.sq 0) (sqAdd e.s.1.ak 0) (fAnd e.s.1.fl 15) e.s.1.wn e.s.2 (X i)) = (failF 17, []) := by
        unfold syncF
        rw [if_pos hr, if_pos c]
      rw [q] at ho ⊢
      exact h.inFail hi hl hti (by omega) (by decide) ho
    · have q : (syncF (sqAdd e.s.1.sq 0) (sqAdd e.s.1.ak 0) (fAnd e.s.1.fl 15) e.s.1.wn e.s.2 (X i)) = (X i, []) := by
        unfold syncF
        rw [if_pos hr, if_neg c]
      rw [q] at ho ⊢
      exact h.inSame hi hl (fun e he => nil_out ho he)
  · exact syn (by rw [s.fl]; decide) (by rw [s.fl]; decide)
  · exact syn (by rw [s.fl]; decide) (by rw [s.fl]; decide)
  · have hf15 : fAnd e.s.1.fl 15 = e.s.1.fl ∧ fAnd e.s.1.fl 8 = 0 ∧ fAnd e.s.1.fl 1 = 0 ∧ fAnd e.s.1.fl 2 ≠ 0 := by
      rcases s.fl with f | ⟨f, _⟩ <;> rw [f] <;> decide
    have hsq : sqAdd e.s.1.sq 0 = e.s.1.sq := by rw [s.sq]; unfold sqAdd; omega
    have hak : sqAdd e.s.1.ak 0 = e.s.1.ak := by rw [s.ak]; unfold sqAdd; omega
    have hc : g.cl = true → ∃ j2, g.pr = some j2 := fun c => by
      rcases hs with c2 | c3
      · have := (lv.s2 c2).1; rw [c] at this; cases this
      · obtain ⟨j, y, hj, hp, _, _⟩ := lv.s3 (.inl c3)
        rcases hp with ⟨_, es⟩ | ⟨c2, es⟩
        · exact ⟨j, es.pr⟩
        · rw [c] at c2; cases c2
    obtain ⟨pp, rfl, rfl⟩ := h.who hi hl hc s ht hat
    rw [hf15.1, hsq, hak] at ho ⊢
    have hwf := hf15
    by_cases c2 : (X jj).st = 2
    · obtain ⟨o1, o2, o3, o4, o5⟩ := lv.op (.inr c2)
      by_cases ca : e.s.1.ak ≠ sqAdd (X jj).iss 1
      · have q : (syncF e.s.1.sq e.s.1.ak e.s.1.fl e.s.1.wn e.s.2 (X jj)) = (X jj, [rstF e.s.1.ak]) := by
          unfold syncF
          rw [if_neg (fun z => z hwf.2.1), if_neg (fun z => z hwf.2.2.1), if_neg hwf.2.2.2, if_pos c2, if_pos ca]
        rw [q] at ho ⊢
        exact h.inSame hi hl (fun e he => ⟨(rst_out _ ho he).1, .inl (rst_out _ ho he).2⟩)
      · have q : (syncF e.s.1.sq e.s.1.ak e.s.1.fl e.s.1.wn e.s.2 (X jj)) = openF e.s.1.ak e.s.1.wn e.s.1.sq e.s.1.fl e.s.2 (openedF (X jj)) := by
          unfold syncF
          rw [if_neg (fun z => z hwf.2.1), if_neg (fun z => z hwf.2.2.1), if_neg hwf.2.2.2, if_pos c2, if_neg ca]
        rw [q] at ho ⊢
        have hgcl : yy.cl = false := (lv.s2 c2).1
        have es : Est x0 yy e.o jj := by
          rcases s.pair with ⟨c, es⟩ | ⟨c, es⟩
          · exact es
          · have := es.cl; rw [hgcl] at this; cases this
        obtain ⟨_, p, q0, hp, hq0, hB⟩ := lv.s2 c2
        have hpe : p = e.o := by have := es.pr2; rw [hp] at this; cases this; rfl
        subst hpe
        have hq : q0 = x0 := by have := s.at_; rw [hq0] at this; cases this; rfl
        subst hq
        have zg := h.zero jj yy hi o3
        have dd := s.pair.dir
        have ok1 := opened0_ok lv.ok (.inr c2)
        obtain ⟨w1, w2, w3, w4, w5⟩ := lv.ok.opening (.inr c2)
        have b1 := iss_bd (h.ends.time jj yy hi)
        have b2 := iss_bd (h.ends.time e.o q0 s.at_)
        have bz : b2i false = 0 := rfl
        have cn : Cn { yy with pot := yy.pot, ot := some T } q0 (openedF (X jj)) := by
          refine ⟨ok1.toCsW, rfl, ⟨?_, ?_, ?_, ?_, ?_, ?_, ?_, ?_, ?_, fun d v hv => ?_, fun _ => ?_⟩, ⟨dd.2.un, dd.2.fs, dd.2.fa, dd.2.rc, dd.2.pf, dd.2.pot⟩, ⟨dd.1.un, dd.1.fs, dd.1.fa, dd.1.rc, dd.1.pf, dd.1.pot⟩, b1, b2⟩
          · show sqAdd (sqAdd (X jj).iss 1) 0 = (yy.iss + 1 + (yy.ua : Int)) % 256
            rw [o1, zg.n.1]
            unfold sqAdd
            push_cast
            omega
          · show [] = yy.S.drop yy.ua
            rw [zg.S]; simp
          · show yy.ua + 0 = yy.nx
            rw [zg.n.1, zg.n.2.1]
          · show (X jj).fs = yy.fs
            rw [w3, zg.f.1]
          · show (X jj).fa = yy.fa
            rw [w4, zg.f.2.1]
          · show (X jj).pf = yy.pf
            rw [w5, zg.f.2.2.1]
          · show (X jj).wc = yy.wc
            rw [o5, zg.f.2.2.2]
          · show (X jj).B.nxt = (q0.iss + 1 + (yy.rc : Int)) % 256
            rw [hB, zg.n.2.2]
            show sqAdd (sqAdd q0.iss 1) 0 = _
            unfold sqAdd
            push_cast
            omega
          · show yy.R ++ (X jj).B.A = q0.S.take yy.rc
            rw [hB, zg.R, zg.n.2.2]; simp [resetR]
          · have hv' : (X jj).B.hv d = some v := hv
            rw [hB] at hv'
            cases hv'
          · show yy.pot = (yy.nx : Int) + b2i yy.fs + (X jj).cr
            rw [zg.n.2.1, zg.f.1, bz, o4]
            push_cast
            omega
        obtain ⟨g2, iv, k1, k2, k3, k4, k5, k6, k7, k8⟩ := h.inOpen (o1 := T) (wn := e.s.1.wn) hi hl hti het (.inr ⟨o3, rfl⟩) ht s cn (openF_ok ok1 rfl s.isB) rfl rfl ho
        have k9 : (openF e.s.1.ak e.s.1.wn e.s.1.sq e.s.1.fl e.s.2 (openedF (X jj))).1.st = 3 := by
          rcases k8 with z | ⟨_, z⟩
          · exact z
          · rw [zg.f.2.2.2] at z; cases z
        exact ⟨g2, iv, ⟨k1, k3, k4, k5, k6, .inr (.inr ⟨c2, k2, k7, k9⟩), .inr (.inr ⟨.inr c2, k9⟩), fun q => by omega, fun q => (by rcases q with q | ⟨q, _⟩; omega; rw [k9] at q; cases q)⟩⟩
    · have c3 : (X jj).st = 3 := by omega
      have q : (syncF e.s.1.sq e.s.1.ak e.s.1.fl e.s.1.wn e.s.2 (X jj)) = openF e.s.1.ak e.s.1.wn e.s.1.sq e.s.1.fl e.s.2 (X jj) := by
        unfold syncF
        rw [if_neg (fun z => z hwf.2.1), if_neg (fun z => z hwf.2.2.1), if_neg hwf.2.2.2, if_neg c2]
      rw [q] at ho ⊢
      obtain ⟨j, y, hj, hp, cn, o0, hot⟩ := h.cn hi hl c3
      have ej : e.o = j := hp.uniq s.pair.symm
      subst ej
      have : x0 = y := by have := s.at_; rw [hj] at this; cases this; rfl
      subst this
      have eg : ({ yy with pot := yy.pot, ot := some o0 } : GE) = yy := by rw [← hot]
      obtain ⟨g2, iv, k1, k2, k3, k4, k5, k6, k7, k8⟩ := h.inOpen (o1 := o0) (wn := e.s.1.wn) hi hl hti het (.inl hot) ht s (by rw [eg]; exact cn) (openF_ok lv.ok c3 s.isB) rfl rfl ho
      exact ⟨g2, iv, ⟨k1, k3, k4, k5, k6, .inl ⟨k2, by rw [k7, hot], fun _ => c3⟩, by rcases k8 with z | z; exact .inl (by rw [z, c3]); exact .inr (.inl z.1), fun q => by omega, fun q => (by rcases q with q | ⟨_, q⟩; omega; rw [why_open, (lv.ok.live (.inr (.inr c3))).1] at q; exact absurd rfl q)⟩⟩
/-- A segment comes to a row. -/
theorem Inv.input (h : Inv T tk G X Lg) (hi : G[i]? = some g) (hl : g.gone = false) (hti : tk i = true) (hem : e ∈ Lg) (ht : T - 4 ≤ e.t) (hat : At g e) (ho : Out T g i (inputF e.s.1 e.s.2 (X i)).2 N) :
    ∃ g2, Inv T tk (G.set i g2) (updX X i (inputF e.s.1 e.s.2 (X i)).1) (Lg ++ N) ∧ InRes T G i g g2 (X i) (inputF e.s.1 e.s.2 (X i)).1 := by
  have lv := h.live i g hi hl
  have hst := lv.ok.st
  have hnz := lv.nz
  by_cases c4 : (X i).st = 4
  · exact h.inQuiet (s := e.s) hi hl hti c4 hem ht hat ho
  · by_cases c1 : (X i).st = 1
    · exact h.inSynSent hi hl hti c1 hem ht hat ho
    · exact h.inSync hi hl hti (by omega) hem ht hat ho
end
end Go.Proofs.Qxb6500424aGreat
