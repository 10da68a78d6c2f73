/-
  conn: the model's Input whole, Info, Peek, New.
-/
import Derived.Test.Qxb6500422aGreatCnM
set_option linter.unusedVariables false
set_option linter.unusedSimpArgs false
open Go.Vc
namespace Go.Proofs.Qxb6500422aGreat
section
variable {w w' : World} {m : Nat} {X : MC} {C : CS}
theorem mInput_ok {hd : Hd} {k : Nat} {D : List Int} {R : Option Addr → Nat → Nat → World → Prop} (h : MM w m X C) (hC : CsOk C) (hk : Bf w k D) (hl : D.length ≤ 281474976710656) (hR : OutM w m X (inputF hd D C).1 (inputF hd D C).2 R) : connm_Conn_Input.Call (some ⟨m, 0, none⟩) hd.sp hd.dp hd.sq hd.ak hd.fl hd.wn (some ⟨k, 0, none⟩) D.length D.length w R := by
  apply connm_Conn_Input.sound
  unfold connm_Conn_Input.B0
  unfold inputF at hR
  have hst := hC.st
  have e := h.rel
  have hml := h.lt
  have hbl := h.blt
  have id' : ∀ k ∈ X.blks, k ∈ X.blks ∨ w.heap.size ≤ k := fun k hk => .inl hk
  have none' : ∀ {Y : MC}, Y.blks = [] → ∀ k ∈ Y.blks, k ∈ X.blks ∨ w.heap.size ≤ k := fun {Y} hY k hk => by rw [hY] at hk; cases hk
  refine New.mk fun s w1 hs hs1 o1 he1 => LdI.mk o1 rfl (seqAdd_ok (LdI.mk o1 rfl (seqAdd_ok (LdI.mk o1 rfl (New.mk fun nb w4 hnb hs4 o4 he4 => ?_)))))
  have E4 := he1.trans he4
  have h4 := h.ext0 E4
  have os := he4.own o1 (by simp)
  have hk4 := hk.ext0 E4
  have sl4 : SL w4 (some ⟨nb, 0, none⟩) 0 0 w.heap.size [] := SL.new o4 (by omega)
  have hz4 := E4.size
  have hnb' : ∀ k ∈ X.blks, k ≠ nb := fun y hy => by have := hbl y hy; omega
  refine Pn.mk (h4.own.ldSt ?_)
  rw [e.st]
  refine Bm.mk (fun e0 => ?_) fun e0 => Bm.mk (fun e4 => ?_) fun e4 => Bm.mk (fun e1 => ?_) fun e1 => ?_
  · have h0 : C.st = 0 := by simpa using e0
    rw [if_neg (by omega), if_neg (by omega), if_neg (by omega)] at hR
    exact hR _ 0 0 [] X w4 sl4 rfl h4 id' E4.nil (by omega)
  · rw [if_pos (by simpa using e4)] at hR
    unfold quietF at hR
    have yes : (C.why = 0 ∧ fAnd (fAnd hd.fl 15) 8 = 0 ∧ (fAnd (fAnd hd.fl 15) 4 ≠ 0 ∨ 0 < D.length)) → connm_Conn_Input.B1 (some ⟨m, 0, none⟩) (some ⟨nb, 0, none⟩) 0 0 true w4 R := fun hc => by
      rw [if_pos hc] at hR
      unfold connm_Conn_Input.B1
      refine Bm.pos rfl (mAck_ok h4 hC.S hC.B fun ka w5 hka hb5 he5 => ?_)
      exact newSL1 (g := ackF C) (lo := w.heap.size) hb5 (by omega) fun nb' w6 sl he6 => hR _ 1 1 _ X w6 sl rfl (h4.ext0 (he5.trans he6)) id' (E4.trans (he5.trans he6)).nil (by omega)
    have no : ¬ (C.why = 0 ∧ fAnd (fAnd hd.fl 15) 8 = 0 ∧ (fAnd (fAnd hd.fl 15) 4 ≠ 0 ∨ 0 < D.length)) → connm_Conn_Input.B1 (some ⟨m, 0, none⟩) (some ⟨nb, 0, none⟩) 0 0 false w4 R := fun hc => by
      rw [if_neg hc] at hR
      unfold connm_Conn_Input.B1
      exact Bm.neg rfl (hR _ 0 0 [] X w4 sl4 rfl h4 id' E4.nil (by omega))
    refine Pn.mk (h4.own.ldI (o := 1) (by omega) rfl ?_)
    rw [e.why]
    refine Bm.mk (fun q => Bm.mk (fun q8 => Bm.mk (fun q4 => yes ⟨beq_iff_eq.1 q, beq_iff_eq.1 q8, .inl (bne_iff_ne.1 q4)⟩) fun q4 => LdL.mk os rfl ?_) fun q8 => no fun z => beq_eq_false_iff_ne.1 q8 z.2.1) fun q => no fun z => beq_eq_false_iff_ne.1 q z.1
    by_cases hdl : ((D.length : Nat) : Int) > 0
    · rw [decide_eq_true hdl]; exact yes ⟨beq_iff_eq.1 q, beq_iff_eq.1 q8, .inr (by omega)⟩
    · rw [decide_eq_false hdl]; exact no fun z => z.2.2.elim (fun y => y (bne_eq_false_iff_eq.1 q4)) (by omega)
  · have h1 : C.st = 1 := by simpa using e1
    rw [if_neg (by simpa using e4), if_pos h1] at hR
    unfold synSentF at hR
    have b2t : fAnd (fAnd hd.fl 15) 2 ≠ 0 → sqAdd hd.ak 0 ≠ sqAdd C.iss 1 → connm_Conn_Input.B2 (some ⟨m, 0, none⟩) s (sqAdd hd.sq 0) (sqAdd hd.ak 0) (fAnd hd.fl 15) (some ⟨nb, 0, none⟩) 0 0 true w4 R := fun q1 q2 => by
      unfold connm_Conn_Input.B2
      rw [if_pos ⟨q1, q2⟩] at hR
      refine Bm.pos rfl (Bm.mk (fun q8 => ?_) fun q8 => mRst_ok fun ka w5 hka hb5 he5 => ?_)
      · rw [if_pos (bne_iff_ne.1 q8)] at hR
        exact hR _ 0 0 [] X w4 sl4 rfl h4 id' E4.nil (by omega)
      · rw [if_neg (fun z => z (bne_eq_false_iff_eq.1 q8))] at hR
        exact newSL1 (g := rstF (sqAdd hd.ak 0)) (lo := w.heap.size) hb5 (by omega) fun nb' w6 sl he6 => hR _ 1 1 _ X w6 sl rfl (h4.ext0 (he5.trans he6)) id' (E4.trans (he5.trans he6)).nil (by omega)
    have b2f : ¬ (fAnd (fAnd hd.fl 15) 2 ≠ 0 ∧ sqAdd hd.ak 0 ≠ sqAdd C.iss 1) → connm_Conn_Input.B2 (some ⟨m, 0, none⟩) s (sqAdd hd.sq 0) (sqAdd hd.ak 0) (fAnd hd.fl 15) (some ⟨nb, 0, none⟩) 0 0 false w4 R := fun q1 => by
      unfold connm_Conn_Input.B2
      rw [if_neg q1] at hR
      refine Bm.neg rfl (Bm.mk (fun q8 => Bm.mk (fun q2 => mFail_ok h4.own fun X5 w5 h5 hb5 he5 => ?_) fun q2 => ?_) fun q8 => ?_)
      · rw [if_pos (bne_iff_ne.1 q8), if_pos (bne_iff_ne.1 q2)] at hR
        exact hR _ 0 0 [] X5 w5 (sl4.keep he5 (fun y hy => by simp at hy; omega)) rfl h5 (none' hb5) (E4.nil.trans he5) (by omega)
      · rw [if_pos (bne_iff_ne.1 q8), if_neg (fun z => z (bne_eq_false_iff_eq.1 q2))] at hR
        exact hR _ 0 0 [] X w4 sl4 rfl h4 id' E4.nil (by omega)
      · rw [if_neg (fun z => z (bne_eq_false_iff_eq.1 q8))] at hR
        have b5t : (fAnd (fAnd hd.fl 15) 1 = 0 ∨ fAnd (fAnd hd.fl 15) 2 = 0) → connm_Conn_Input.B5 (some ⟨m, 0, none⟩) s (sqAdd hd.sq 0) (sqAdd hd.ak 0) (some ⟨nb, 0, none⟩) 0 0 true w4 R := fun hc => by
          unfold connm_Conn_Input.B5
          rw [if_pos hc] at hR
          exact Bm.pos rfl (hR _ 0 0 [] X w4 sl4 rfl h4 id' E4.nil (by omega))
        refine Bm.mk (fun q5 => b5t (.inl (beq_iff_eq.1 q5))) fun q5 => ?_
        have q5' : fAnd (fAnd hd.fl 15) 1 ≠ 0 := beq_eq_false_iff_ne.1 q5
        by_cases q2 : fAnd (fAnd hd.fl 15) 2 = 0
        · rw [show (fAnd (fAnd hd.fl 15) 2 == 0) = true from beq_iff_eq.2 q2]
          exact b5t (.inr q2)
        · rw [show (fAnd (fAnd hd.fl 15) 2 == 0) = false from beq_eq_false_iff_ne.2 q2]
          rw [if_neg (fun z => z.elim q5' q2)] at hR
          have eak : sqAdd hd.ak 0 = sqAdd C.iss 1 := Decidable.byContradiction fun z => q1 ⟨q2, z⟩
          unfold connm_Conn_Input.B5
          refine Bm.neg rfl (seqAdd_ok (LdI.mk os rfl (mWnd_ok (Pn.mk (h4.own.stSt fun w5 _ g5 f5 => Pn.mk (g5.stUna fun w6 _ g6 f6 => Pn.mk (g6.stRnxt fun w7 _ g7 f7 => Pn.mk (g7.stPw fun w8 _ g8 f8 => Pn.mk (g8.stTm fun w9 _ g9 f9 => Pn.mk (g9.stRt fun w10 _ g10 f10 => ?_))))))))))
          have E10 := f5.trans (f6.trans (f7.trans (f8.trans (f9.trans f10))))
          obtain ⟨p1, p2, p3, p4, p5⟩ := hC.opening (.inl h1)
          have hB0 := hC.syn h1
          have hi := sqAdd_bd C.iss 1
          have hj := sqAdd_bd (sqAdd hd.sq 0) 1
          have hsent : X.sent = 0 := by
            have := hC.S.sent
            rw [p1] at this
            rw [e.sent]
            simp at this
            omega
          have h10 : MM w10 m { X with st := 3, una := sqAdd hd.ak 0, rnxt := sqAdd (sqAdd hd.sq 0) 1, pw := windowF hd.wn, tm := 0, rt := 0 } { openedF C with B := resetR (sqAdd (sqAdd hd.sq 0) 1), pw := windowF hd.wn } := by
            refine h4.turn g10 E10 ⟨rfl, rfl, rfl⟩ ⟨rfl, rfl, rfl⟩ p1.symm (by rw [hB0]; rfl) ⟨rfl, e.why, e.wc, e.fs, e.fa, e.pf, e.iss, ?_, hsent, ?_, rfl, rfl, rfl, e.cr, e.qt, ?_, fun d x hx => (by cases hx)⟩
            · show sqAdd hd.ak 0 = if C.fa = true then _ else sqAdd (sqAdd C.iss 1) 0
              rw [if_neg (by rw [p4]; simp), sqAdd_low hi]
              exact eak
            · show sqAdd (sqAdd hd.sq 0) 1 = if C.pf = true then _ else sqAdd (sqAdd (sqAdd hd.sq 0) 1) 0
              rw [if_neg (by rw [p5]; simp), sqAdd_low hj]
            · intro d hd'
              have := e.has d hd'
              rw [hB0] at this
              exact this
          refine mAck_ok h10 (resetS_ok _) (resetR_ok _) fun ka w11 hka hb11 he11 => ?_
          have hz10 := E10.size
          exact newSL1 (g := ackF { openedF C with B := resetR (sqAdd (sqAdd hd.sq 0) 1), pw := windowF hd.wn }) (lo := w.heap.size) hb11 (by omega) fun nb' w12 sl he12 => hR _ 1 1 _ _ w12 sl rfl (h10.ext0 (he11.trans he12)) id' (E4.nil.trans (E10.trans (he11.trans he12).nil)) (by omega)
    refine Bm.mk (fun q => Pn.mk (h4.own.ldI (o := 6) (by omega) rfl (seqAdd_ok ?_))) fun q => b2f fun z => z.1 (bne_eq_false_iff_eq.1 q)
    rw [e.iss]
    by_cases q2 : sqAdd hd.ak 0 = sqAdd C.iss 1
    · rw [show (sqAdd hd.ak 0 != sqAdd C.iss 1) = false from bne_eq_false_iff_eq.2 q2]
      exact b2f fun z => z.2 q2
    · rw [show (sqAdd hd.ak 0 != sqAdd C.iss 1) = true from bne_iff_ne.2 q2]
      exact b2t (bne_iff_ne.1 q) q2
  · have h0 : C.st ≠ 0 := by simpa using e0
    have hn4 : C.st ≠ 4 := by simpa using e4
    have h1 : C.st ≠ 1 := by simpa using e1
    rw [if_neg hn4, if_neg h1, if_pos (by omega)] at hR
    unfold syncF at hR
    refine Bm.mk (fun q8 => Pn.mk (h4.own.ldI (o := 10) (by omega) rfl (seqDiff_ok ?_))) fun q8 => ?_
    · rw [if_pos (bne_iff_ne.1 q8)] at hR
      rw [e.rnxt]
      have no : ¬ (0 ≤ sqDiff (sqAdd hd.sq 0) (rcvNxt C) ∧ sqDiff (sqAdd hd.sq 0) (rcvNxt C) ≤ 17) → connm_Conn_Input.B3 (some ⟨m, 0, none⟩) (some ⟨nb, 0, none⟩) 0 0 false w4 R := fun hc => by
        unfold connm_Conn_Input.B3
        rw [if_neg hc] at hR
        exact Bm.neg rfl (hR _ 0 0 [] X w4 sl4 rfl h4 id' E4.nil (by omega))
      refine Bm.ite (fun c => ?_) fun c => no fun z => c z.1
      by_cases c2 : sqDiff (sqAdd hd.sq 0) (rcvNxt C) ≤ 17
      · rw [decide_eq_true c2]
        rw [if_pos ⟨c, c2⟩] at hR
        unfold connm_Conn_Input.B3
        exact Bm.pos rfl (mFail_ok h4.own fun X5 w5 h5 hb5 he5 => hR _ 0 0 [] X5 w5 (sl4.keep he5 (fun y hy => by simp at hy; omega)) rfl h5 (none' hb5) (E4.nil.trans he5) (by omega))
      · rw [decide_eq_false c2]
        exact no fun z => c2 z.2
    rw [if_neg (fun z => z (bne_eq_false_iff_eq.1 q8))] at hR
    refine Bm.mk (fun q1 => Pn.mk (h4.own.ldSt ?_)) fun q1 => ?_
    · rw [if_pos (bne_iff_ne.1 q1)] at hR
      rw [e.st]
      refine Bm.mk (fun e2 => ?_) fun e2 => mAck_ok h4 hC.S hC.B fun ka w5 hka hb5 he5 => ?_
      · have h2 : C.st = 2 := by simpa using e2
        rw [if_pos h2] at hR
        refine mAgain_ok h4 hC.S hC.B (hC.opening (.inr h2)).2.2.2.1 fun ka w5 hka hb5 he5 => ?_
        exact newSL1 (g := againF C) (lo := w.heap.size) hb5 (by omega) fun nb' w6 sl he6 => hR _ 1 1 _ X w6 sl rfl (h4.ext0 (he5.trans he6)) id' (E4.trans (he5.trans he6)).nil (by omega)
      · rw [if_neg (by simpa using e2)] at hR
        exact newSL1 (g := ackF C) (lo := w.heap.size) hb5 (by omega) fun nb' w6 sl he6 => hR _ 1 1 _ X w6 sl rfl (h4.ext0 (he5.trans he6)) id' (E4.trans (he5.trans he6)).nil (by omega)
    rw [if_neg (fun z => z (bne_eq_false_iff_eq.1 q1))] at hR
    refine Bm.mk (fun q2 => ?_) fun q2 => Pn.mk (h4.own.ldSt ?_)
    · rw [if_pos (beq_iff_eq.1 q2)] at hR
      exact hR _ 0 0 [] X w4 sl4 rfl h4 id' E4.nil (by omega)
    rw [if_neg (beq_eq_false_iff_ne.1 q2)] at hR
    rw [e.st]
    refine Bm.mk (fun e2 => Pn.mk (h4.own.ldI (o := 6) (by omega) rfl (seqAdd_ok ?_))) fun e2 => ?_
    · have h2 : C.st = 2 := by simpa using e2
      rw [if_pos h2] at hR
      rw [e.iss]
      refine Bm.mk (fun q3 => mRst_ok fun ka w5 hka hb5 he5 => ?_) fun q3 => Pn.mk (h4.own.stSt fun w5 _ g5 f5 => Pn.mk (g5.stUna fun w6 _ g6 f6 => Pn.mk (g6.stTm fun w7 _ g7 f7 => Pn.mk (g7.stRt fun w8 _ g8 f8 => ?_))))
      · rw [if_pos (bne_iff_ne.1 q3)] at hR
        exact newSL1 (g := rstF (sqAdd hd.ak 0)) (lo := w.heap.size) hb5 (by omega) fun nb' w6 sl he6 => hR _ 1 1 _ X w6 sl rfl (h4.ext0 (he5.trans he6)) id' (E4.trans (he5.trans he6)).nil (by omega)
      · rw [if_neg (fun z => z (bne_eq_false_iff_eq.1 q3))] at hR
        have eak : sqAdd hd.ak 0 = sqAdd C.iss 1 := bne_eq_false_iff_eq.1 q3
        have E8 := f5.trans (f6.trans (f7.trans f8))
        obtain ⟨p1, p2, p3, p4, p5⟩ := hC.opening (.inr h2)
        have hi := sqAdd_bd C.iss 1
        have hsent : X.sent = 0 := by
          have := hC.S.sent
          rw [p1] at this
          rw [e.sent]
          simp at this
          omega
        have h8 : MM w8 m { X with st := 3, una := sqAdd hd.ak 0, tm := 0, rt := 0 } (openedF C) := by
          refine h4.turn g8 E8 ⟨rfl, rfl, rfl⟩ ⟨rfl, rfl, rfl⟩ p1.symm rfl ⟨rfl, e.why, e.wc, e.fs, e.fa, e.pf, e.iss, ?_, hsent, e.rnxt, e.pw, rfl, rfl, e.cr, e.qt, e.has, e.val⟩
          show sqAdd hd.ak 0 = if C.fa = true then _ else sqAdd (sqAdd C.iss 1) 0
          rw [if_neg (by rw [p4]; simp), sqAdd_low hi]
          exact eak
        have hX := Tys.one h4.own
        exact mOpen_ok (w0 := w) (X0 := X) h8 (opened0_ok hC (.inr h2)) rfl (ownT E8 hX os (by decide)) ⟨ownT E8 hX hk4.1 (by decide), hk.2⟩ hl (sl4.keep E8 (fun y hy => by simp at hy; omega)) (E4.nil.trans E8) hml id' hnb' hR
    · have h2 : C.st ≠ 2 := by simpa using e2
      rw [if_neg h2] at hR
      exact mOpen_ok (w0 := w) (X0 := X) h4 hC (by omega) os hk4 hl sl4 E4.nil hml id' hnb' hR
theorem mInfo_ok {R : Option Addr → World → Prop} (h : MM w m X C) (hS : SbOk C.S) (hR : ∀ b w', w.heap.size ≤ b → InAt w' b C → Ext [] w w' → R (some ⟨b, 0, none⟩) w') : connm_Conn_Info.Call (some ⟨m, 0, none⟩) w R := by
  apply connm_Conn_Info.sound
  unfold connm_Conn_Info.B0 connm_Conn_Info.L1
  have e := h.rel
  refine ⟨fun mm b n d w' => ∃ k : Nat, k ≤ 16 ∧ mm = 16 - k ∧ some ⟨m, 0, none⟩ = b ∧ n = (((List.range k).filter fun d => (C.B.hv d).isSome).length : Int) ∧ d = (k : Int) ∧ w = w', _, ⟨0, by omega, rfl, rfl, rfl, rfl, rfl⟩, ?_⟩
  rintro mm b n d w' ⟨k, hk, rfl, rfl, rfl, rfl, rfl⟩
  have hle := List.length_filter_le (fun d => (C.B.hv d).isSome) (List.range k)
  rw [List.length_range] at hle
  unfold connm_Conn_Info.L1b connm_Conn_Info.B1
  refine Bm.ite (fun hlt => Pn.mk ⟨⟨by omega, by omega⟩, h.own.ldH (by omega) ?_⟩) fun hge => ?_
  · rw [e.has k (by omega)]
    refine Bm.mk (fun e => ⟨16 - (k + 1), by omega, k + 1, by omega, rfl, rfl, ?_, by rw [w64 (by omega) (by omega)]; omega, rfl⟩) fun e => ⟨16 - (k + 1), by omega, k + 1, by omega, rfl, rfl, ?_, by rw [w64 (by omega) (by omega)]; omega, rfl⟩
    · rw [w64 (by omega) (by omega), List.range_succ, List.filter_append, List.length_append, List.filter_cons_of_pos (p := fun d => (C.B.hv d).isSome) (a := k) e]
      simp
    · rw [List.range_succ, List.filter_append, List.length_append, List.filter_cons_of_neg (p := fun d => (C.B.hv d).isSome) (a := k) (by simpa using e)]
      simp
  · have ek : k = 16 := by omega
    subst ek
    have hs := hS.sent
    have hsl := hS.len
    have hql := h.ql
    have hrl := h.rl
    refine mOut_ok h hS (Pn.mk (h.own.ldI (o := 7) (by omega) rfl (seqAdd_ok ?_)))
    have g := h.drew.own
    refine Pn.mk (g.ldSt (Pn.mk (g.ldI (o := 1) (by omega) rfl (Pn.mk (g.ldB (o := 2) (by omega) rfl (Pn.mk (g.ldB (o := 3) (by omega) rfl (Pn.mk (g.ldB (o := 4) (by omega) rfl (Pn.mk (g.ldB (o := 5) (by omega) rfl (Pn.mk (g.ldI (o := 7) (by omega) rfl (Pn.mk (g.ldI (o := 10) (by omega) rfl (Pn.mk (g.ldQ (Pn.mk (g.ldQ (Pn.mk (g.ldI (o := 9) (by omega) rfl (Pn.mk (g.ldR (Pn.mk (g.ldI (o := 44) (by omega) rfl (Pn.mk (g.ldI (o := 45) (by omega) rfl (Pn.mk (g.ldI (o := 46) (by omega) rfl (Pn.mk (g.ldI (o := 47) (by omega) rfl (Pn.mk (g.ldI (o := 48) (by omega) rfl ?_)))))))))))))))))))))))))))))))))
    rw [e.st, e.why, e.wc, e.fs, e.fa, e.pf, e.una, e.rnxt, e.sent, e.pw, e.tm, e.rt, e.cr, e.qt, w64 (by omega) (by omega), ← hql, ← hrl]
    refine New.mk fun b w3 hb hs3 o3 he3 => hR b w3 (by have : w.drew.heap.size = w.heap.size := rfl; omega) ?_ ((Ext.drew _ _).trans he3)
    exact o3
theorem mPeek_ok {R : Option Addr → Nat → Nat → Option Addr → Nat → Nat → Option Addr → Nat → Nat → World → Prop} (h : MM w m X C) (hS : SbOk C.S) (hB : RbOk C.B) (hR : ∀ k1 k2 k3 w', w.heap.size ≤ k1 → w.heap.size ≤ k2 → w.heap.size ≤ k3 → Bf w' k1 C.S.D → Bf w' k2 C.B.A → IAt w' k3 (aheadL C.B) → Ext [] w w' → R (some ⟨k1, 0, none⟩) C.S.D.length C.S.D.length (some ⟨k2, 0, none⟩) C.B.A.length C.B.A.length (some ⟨k3, 0, none⟩) 16 16 w') : connm_Conn_Peek.Call (some ⟨m, 0, none⟩) w R := by
  apply connm_Conn_Peek.sound
  unfold connm_Conn_Peek.B0
  have e := h.rel
  refine IAt.make (n := 16) (by omega) fun k w1 e1 s1 o1 he1 => ?_
  unfold connm_Conn_Peek.L1
  refine ⟨fun mm b ob ol oc d w' => ∃ n : Nat, n ≤ 16 ∧ mm = 16 - n ∧ some ⟨m, 0, none⟩ = b ∧ some ⟨k, 0, none⟩ = ob ∧ 16 = ol ∧ 16 = oc ∧ d = (n : Int) ∧ IAt w' k ((aheadL C.B).take n ++ List.replicate (16 - n) 0) ∧ Ext [k] w1 w', _,
    ⟨0, by omega, rfl, rfl, rfl, rfl, rfl, rfl, by simpa using o1, Ext.refl _ _⟩, ?_⟩
  rintro mm b ob ol oc d w' ⟨n, hn, rfl, rfl, rfl, rfl, rfl, rfl, o', he'⟩
  have hx' : Ext [] w w' := he1.trans' he' (fun x hx hlt => by simp at hx; omega)
  have hL := aheadL_len C.B
  unfold connm_Conn_Peek.L1b connm_Conn_Peek.B1
  refine Bm.ite (fun hlt => Pn.mk ⟨⟨by omega, by omega⟩, ?_⟩) fun hge => ?_
  · have el : ((aheadL C.B).take n).length = n := by simp; omega
    have setl : ∀ x, ((aheadL C.B).take n ++ List.replicate (16 - n) 0).set n x = (aheadL C.B).take n ++ (x :: List.replicate (16 - (n + 1)) 0) := fun x => by
      rw [List.set_append_right _ _ (by omega), el, Nat.sub_self, show 16 - n = (16 - (n + 1)) + 1 by omega, List.replicate_succ, List.set_cons_zero]
    refine o'.st (addr_i k n) (by simp; omega) fun w2 hs2 o2 he2 => Pn.mk ⟨⟨by omega, by omega⟩, ?_⟩
    rw [setl] at o2
    have hx2 : Ext [] w w2 := hx'.trans' he2 (fun x hx hlt => by simp at hx; omega)
    have g2 := (h.ext0 hx2).own
    have nextl : ∀ x, (aheadL C.B)[n]? = some x → (aheadL C.B).take n ++ (x :: List.replicate (16 - (n + 1)) 0) = (aheadL C.B).take (n + 1) ++ List.replicate (16 - (n + 1)) 0 := fun x hx => by
      rw [take1 hx]
      simp
    have hgetn := aheadL_get C.B (d := n) (by omega)
    refine g2.ldH (by omega) ?_
    rw [e.has n (by omega)]
    cases hv : C.B.hv n with
    | some x =>
      rw [hv] at hgetn
      refine Bm.pos rfl (Pn.mk ⟨⟨by omega, by omega⟩, g2.ldV (by omega) (Pn.mk ⟨⟨by omega, by omega⟩, ?_⟩)⟩)
      rw [e.val n x hv, w64b (hB.hv n x hv).2]
      refine o2.st (addr_i k n) (by simp; omega) fun w3 hs3 o3 he3 => ⟨16 - (n + 1), by omega, n + 1, by omega, rfl, rfl, rfl, rfl, rfl, by rw [w64 (by omega) (by omega)]; omega, ?_, (he'.trans he2).trans he3⟩
      rw [List.set_append_right _ _ (by omega), el, Nat.sub_self, List.set_cons_zero, nextl x hgetn] at o3
      exact o3
    | none =>
      rw [hv] at hgetn
      refine Bm.neg rfl ⟨16 - (n + 1), by omega, n + 1, by omega, rfl, rfl, rfl, rfl, rfl, by rw [w64 (by omega) (by omega)]; omega, ?_, he'.trans he2⟩
      rw [nextl (-1) hgetn] at o2
      exact o2
  · have en : n = 16 := by omega
    subst en
    rw [List.take_of_length_le (by omega)] at o'
    simp only [Nat.sub_self, List.replicate_zero, List.append_nil] at o'
    have h' := h.ext0 hx'
    have hql := h.ql
    have hrl := h.rl
    have hsl := hS.len
    have hal := hB.len
    refine Pn.mk (h'.own.ldQ (copyBytes_ok (h'.qrd hS) hql (by omega) fun k1 w3 hk1 hs3 hb3 he3 => ?_))
    have h3 := h'.ext0 he3
    refine Pn.mk (h3.own.ldR (copyBytes_ok (h3.ard hB) hrl (by omega) fun k2 w4 hk2 hs4 hb4 he4 => ?_))
    rw [← hql, ← hrl]
    have hz := hx'.size
    have hz3 := he3.size
    exact hR k1 k2 k w4 (by omega) (by omega) (by omega) (hb3.ext0 he4) hb4 ((o'.ext he3 (by simp)).ext he4 (by simp)) ((hx'.trans he3).trans he4)
theorem mNew_ok {R : Option Addr → World → Prop} (hR : ∀ m X w', w.heap.size ≤ m → MM w' m X C0 → X.blks = [] → Ext [] w w' → R (some ⟨m, 0, none⟩) w') : connm_New.Call w R := by
  apply connm_New.sound
  unfold connm_New.B0
  refine New.mk fun m w1 hm hs1 o1 he1 => hR m (Z0 (fun _ => false) (fun _ => 0) 0 0 0 0 0) w1 (by omega) ⟨o1, Row.nil _ _ _, Row.nil _ _ _, ⟨rfl, rfl, rfl, rfl, rfl, rfl, rfl, rfl, rfl, rfl, rfl, rfl, rfl, rfl, rfl, fun d hd => rfl, fun d x hx => (by cases hx)⟩⟩ rfl he1
theorem cNew_ok {p r : Nat} {R : Option Addr → World → Prop} (hp : SR w p S0s) (hr : RR w r R0s) (hR : ∀ x w', w.heap.size ≤ x → CnR w' x p r C0 → Ext [] w w' → R (some ⟨x, 0, none⟩) w') : conn_New.Call (some ⟨p, 0, none⟩) (some ⟨r, 0, none⟩) w R := by
  apply conn_New.sound
  unfold conn_New.B0
  exact New.mk fun x w1 hx hs1 o1 he1 => hR x w1 (by omega) ⟨o1, hp.ext0 he1, hr.ext0 he1⟩ he1
end
end Go.Proofs.Qxb6500422aGreat
