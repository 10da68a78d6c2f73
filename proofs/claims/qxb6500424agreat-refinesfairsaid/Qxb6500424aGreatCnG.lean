/-
  conn: the real block's Input.
-/
import Derived.Test.Qxb6500424aGreatCnF
set_option linter.unusedVariables false
set_option linter.unusedSimpArgs false
open Go.Vc
namespace Go.Proofs.Qxb6500424aGreat
section
variable {w w' : World} {x p r : Nat} {C : CS}
theorem cAcked_ok {s0 s1 s2 ak f wn : Int} {db : Option Addr} {dl dc : Nat} {R : Bool → World → Prop} (h : CnR w x p r C) (hC : CsW C) (hR : ∀ w', CnR w' x p r (ackedF ak wn C).2 → Ext [x, p, r] w w' → R (ackedF ak wn C).1 w') : conn_Conn_acked.Call (some ⟨x, 0, none⟩) s0 s1 s2 ak f wn db dl dc w R := by
  apply conn_Conn_acked.sound
  unfold conn_Conn_acked.B0
  unfold ackedF at hR
  refine New.mk fun s w1 hs hs1 o1 he1 => ?_
  have h1 := h.ext0 he1
  refine cUna_ok h1 hC.S (LdI.mk o1 rfl (seqDiff_ok (cFly_ok h1 hC.S fun w4 he4 => ?_)))
  have h4 := h1.ext0 he4
  have E4 := he1.trans he4
  have o4 := he4.own o1 (by simp)
  have eD : sqDiff ak (sndUna C) = ackD ak C := rfl
  rw [eD]
  have hbd := sqDiff_bd ak (sndUna C)
  rw [eD] at hbd
  refine Bm.ite (fun c => ?_) fun c => Bm.ite (fun c2 => ?_) fun c2 => LdI.mk o4 rfl (cWindow_ok (Pn.mk (h4.stPw fun w6 hs6 h6 he6 => Pn.mk (h6.stRt fun w7 hs7 h7 he7 => ?_))))
  · rw [if_pos c] at hR
    exact hR w4 h4 E4.nil
  · rw [if_neg c, if_pos c2] at hR
    exact hR w4 h4 E4.nil
  rw [if_neg c, if_neg c2] at hR
  have E7 : Ext [x, p, r] w w7 := E4.nil.trans ((x3 (y := 0) _ _ he6).trans (x3 (y := 0) _ _ he7))
  refine Bm.mk (fun c3 => ?_) fun c3 => cSent_ok h7 hC.S fun w8 he8 => ?_
  · rw [if_pos (by simpa using c3)] at hR
    exact hR w7 h7 E7
  have c3' : ackD ak C ≠ 0 := by simpa using c3
  rw [if_neg c3'] at hR
  have h8 := h7.ext0 he8
  have E8 := E7.trans he8.nil
  have b1 : ∀ (w9 : World) (fa' : Bool), CnR w9 x p r { C with pw := windowF wn, rt := 0, fa := fa' } → Ext [x, p, r] w w9 → (fa' = if (C.S.sent : Int) < ackD ak C then true else C.fa) → conn_Conn_acked.B1 (some ⟨x, 0, none⟩) (ackK ak C) w9 R := fun w9 fa' h9 E9 efa => by
    unfold conn_Conn_acked.B1
    refine Pn.mk (h9.ldS (sUna_ok h9.s hC.S (seqAdd_ok (Pn.mk (h9.ldS (sAck_ok h9.s hC.S fun w10 s10 he10 => ?_))))))
    have h10 := h9.setS s10 he10
    refine Pn.mk (h10.stTm fun w11 hs11 h11 he11 => ?_)
    have E11 := E9.trans ((p3 _ _ he10).trans (x3 (y := 0) _ _ he11))
    have h11' : CnR w11 x p r (ackC ak wn C) := by
      have e : ackC ak wn C = { C with pw := windowF wn, rt := 0, fa := fa', S := (ackA (sqAdd C.S.una (ackK ak C)) C.S).2, tm := 0 } := by unfold ackC; rw [efa]
      rw [e]
      exact h11
    have okS : SbOk (ackC ak wn C).S := ackA_ok hC.S _
    refine cFly_ok h11' okS fun w12 he12 => Bm.ite (fun q => cArm_ok (h11'.ext0 he12) (by show (0 : Int) ≤ 0 ∧ (0 : Int) ≤ 3; omega) fun w13 hs13 h13 he13 => ?_) fun q => ?_
    · refine hR w13 ?_ (E11.trans (he12.nil.trans (x3 (y := 0) _ _ he13)))
      show CnR w13 x p r (if 0 < flying (ackC ak wn C) then _ else _)
      rw [if_pos q]
      exact h13
    · refine hR w12 ?_ (E11.trans he12.nil)
      show CnR w12 x p r (if 0 < flying (ackC ak wn C) then _ else _)
      rw [if_neg q]
      exact h11'.ext0 he12
  refine Bm.ite (fun c4 => Pn.mk (h8.stFa fun w9 hs9 h9 he9 => ?_)) fun c4 => ?_
  · have c4' : (C.S.sent : Int) < ackD ak C := c4
    have ek : ackK ak C = (C.S.sent : Int) := by unfold ackK; rw [if_pos c4']
    have := b1 w9 true h9 (E8.trans (x3 (y := 0) _ _ he9)) (by rw [if_pos c4'])
    rw [ek] at this
    exact this
  · have c4' : ¬ (C.S.sent : Int) < ackD ak C := c4
    have ek : ackK ak C = ackD ak C := by unfold ackK; rw [if_neg c4']
    have := b1 w8 C.fa h8 E8 (by rw [if_neg c4'])
    rw [ek] at this
    exact this
theorem cTake_ok {s0 s1 sq ak f wn : Int} {k : Nat} {D : List Int} {R : World → Prop} (h : CnR w x p r C) (hB : RbOk C.B) (hk : Bf w k D) (hl : D.length ≤ 281474976710656) (hR : ∀ w', CnR w' x p r (takeF sq f D C) → Ext [x, p, r] w w' → R w') : conn_Conn_take.Call (some ⟨x, 0, none⟩) s0 s1 sq ak f wn (some ⟨k, 0, none⟩) D.length D.length w R := by
  apply conn_Conn_take.sound
  unfold conn_Conn_take.B0
  unfold takeF at hR
  refine New.mk fun s w1 hs hs1 o1 he1 => ?_
  have h1 := h.ext0 he1
  refine Pn.mk (h1.ldB (o := 7) (by omega) rfl (Bm.mk (fun e => ?_) fun e => ?_))
  · rw [if_pos e] at hR
    exact hR w1 h1 he1.nil
  rw [if_neg (by rw [e]; simp)] at hR
  have hd := h1.drew
  have od : Own w1.drew s _ _ := Own.drew o1
  have Ed : Ext [] w w1.drew := he1.trans (Ext.drew _ _)
  have kd := hk.ext0 Ed
  obtain ⟨Y1, y1, y2⟩ := hd.b
  have hX := Tys.one y1
  refine Pn.mk (hd.ldR (LdI.mk od rfl (LdL.mk od rfl (rInsert_ok hd.b hB.toRbW (fun w' he => Bf.rd0 ⟨ownT he hX kd.1 (by decide), kd.2⟩) rfl hl fun w2 s2 he2 => ?_))))
  have h2 := hd.setB s2 he2
  have o2 := ownT he2 hX od (by decide)
  have E2 : Ext [x, p, r] w w2 := Ed.nil.trans (r3 _ _ he2)
  have hB2 : RbOk (insA sq D C.B).2 := insA_ok hB.toRbW sq hk.2
  have stop : (fAnd f 4 = 0 ∨ 16 < D.length) → conn_Conn_take.B1 (some ⟨x, 0, none⟩) s true w2 R := fun hc => by
    unfold conn_Conn_take.B1
    rw [if_pos hc] at hR
    exact Bm.pos rfl (hR w2 h2 E2)
  refine LdI.mk o2 rfl (Bm.mk (fun q => stop (.inl (beq_iff_eq.1 q))) fun q => LdL.mk o2 rfl ?_)
  have q' : fAnd f 4 ≠ 0 := beq_eq_false_iff_ne.1 q
  by_cases q2 : ((D.length : Nat) : Int) > 16
  · rw [decide_eq_true q2]; exact stop (.inr (by omega))
  rw [decide_eq_false q2]
  rw [if_neg (fun z => z.elim q' (by omega))] at hR
  unfold conn_Conn_take.B1
  refine Bm.neg rfl (LdI.mk o2 rfl (LdL.mk o2 rfl (seqAdd_ok (Pn.mk (h2.ldR (rNxt_ok h2.b hB2.toRbW (Bm.mk (fun q3 => Pn.mk (h2.stPf fun w3 hs3 h3 he3 => ?_)) fun q3 => ?_)))))))
  · rw [if_pos (beq_iff_eq.1 q3)] at hR
    exact hR w3 h3 (E2.trans (x3 (y := 0) _ _ he3))
  · rw [if_neg (beq_eq_false_iff_ne.1 q3)] at hR
    exact hR w2 h2 E2
theorem cQuiet_ok {s0 s1 s2 s3 f s5 : Int} {k : Nat} {D : List Int} {R : Option Addr → Nat → Nat → World → Prop} (h : CnR w x p r C) (hC : CsOk C) (hR : OutR w x p r (quietF f D C).1 (quietF f D C).2 R) : conn_Conn_inQuiet.Call (some ⟨x, 0, none⟩) s0 s1 s2 s3 f s5 (some ⟨k, 0, none⟩) D.length D.length w R := by
  apply conn_Conn_inQuiet.sound
  unfold conn_Conn_inQuiet.B0
  unfold quietF at hR
  refine New.mk fun s w1 hs hs1 o1 he1 => ?_
  have h1 := h.ext0 he1
  have yes : (C.why = 0 ∧ fAnd f 8 = 0 ∧ (fAnd f 4 ≠ 0 ∨ 0 < D.length)) → conn_Conn_inQuiet.B1 (some ⟨x, 0, none⟩) true w1 R := fun hc => by
    rw [if_pos hc] at hR
    unfold conn_Conn_inQuiet.B1
    refine Bm.pos rfl (cAck_ok h1 hC.S hC.B fun k w2 hk hb2 he2 => ?_)
    exact lay1 (g := ackF C) (lo := w.heap.size) hb2 (by have := he1.size; omega) fun nb w3 sl he3 => hR _ 1 1 _ w3 sl rfl (h1.ext0 (he2.trans he3)) (he1.trans (he2.trans he3)).nil (by omega)
  have no : ¬ (C.why = 0 ∧ fAnd f 8 = 0 ∧ (fAnd f 4 ≠ 0 ∨ 0 < D.length)) → conn_Conn_inQuiet.B1 (some ⟨x, 0, none⟩) false w1 R := fun hc => by
    rw [if_neg hc] at hR
    unfold conn_Conn_inQuiet.B1
    exact Bm.neg rfl (New.mk fun nb w2 hnb hs2 o2 he2 => hR _ 0 0 [] w2 (SL.new o2 (by have := he1.size; omega)) rfl (h1.ext0 he2) (he1.trans he2).nil (by omega))
  refine Pn.mk (h1.ldI (o := 3) (by omega) rfl (Bm.mk (fun e => LdI.mk o1 rfl (Bm.mk (fun e8 => LdI.mk o1 rfl (Bm.mk (fun e4 => yes ⟨beq_iff_eq.1 e, beq_iff_eq.1 e8, .inl (bne_iff_ne.1 e4)⟩) fun e4 => LdL.mk o1 rfl ?_)) fun e8 => no fun q => beq_eq_false_iff_ne.1 e8 q.2.1)) fun e => no fun q => beq_eq_false_iff_ne.1 e q.1))
  by_cases hd : ((D.length : Nat) : Int) > 0
  · rw [decide_eq_true hd]; exact yes ⟨beq_iff_eq.1 e, beq_iff_eq.1 e8, .inr (by omega)⟩
  · rw [decide_eq_false hd]; exact no fun q => q.2.2.elim (fun z => z (bne_eq_false_iff_eq.1 e4)) (by omega)
theorem cSynSent_ok {s0 s1 sq ak f wn : Int} {db : Option Addr} {dl dc : Nat} {R : Option Addr → Nat → Nat → World → Prop} (h : CnR w x p r C) (hC : CsOk C) (hR : OutR w x p r (synSentF sq ak f wn C).1 (synSentF sq ak f wn C).2 R) : conn_Conn_inSynSent.Call (some ⟨x, 0, none⟩) s0 s1 sq ak f wn db dl dc w R := by
  apply conn_Conn_inSynSent.sound
  unfold conn_Conn_inSynSent.B0
  unfold synSentF at hR
  obtain ⟨lx, lp, lr⟩ := h.lt
  refine New.mk fun s w1 hs hs1 o1 he1 => New.mk fun nb w2 hnb hs2 o2 he2 => ?_
  have E2 := he1.trans he2
  have h2 := h.ext0 E2
  have os := he2.own o1 (by simp)
  have hz1 := he1.size
  have hz2 := he2.size
  have sl2 : SL w2 (some ⟨nb, 0, none⟩) 0 0 w.heap.size [] := SL.new o2 (by omega)
  refine Pn.mk (h2.ldI (o := 8) (by omega) rfl (seqAdd_ok (LdI.mk os rfl ?_)))
  have b1t : fAnd f 2 ≠ 0 → ak ≠ sqAdd C.iss 1 → ∀ acks, conn_Conn_inSynSent.B1 (some ⟨x, 0, none⟩) s (some ⟨nb, 0, none⟩) 0 0 acks true w2 R := fun q1 q2 acks => by
    unfold conn_Conn_inSynSent.B1
    rw [if_pos ⟨q1, q2⟩] at hR
    refine Bm.pos rfl (LdI.mk os rfl (Bm.mk (fun q3 => ?_) fun q3 => LdI.mk os rfl (cRst_ok fun k w3 hk hb3 he3 => ?_)))
    · rw [if_pos (bne_iff_ne.1 q3)] at hR
      exact hR _ 0 0 [] w2 sl2 rfl h2 E2.nil (by omega)
    · rw [if_neg (fun z => z (bne_eq_false_iff_eq.1 q3))] at hR
      exact lay1 (g := rstF ak) (lo := w.heap.size) hb3 (by omega) fun nb w4 sl he4 => hR _ 1 1 _ w4 sl rfl (h2.ext0 (he3.trans he4)) (E2.trans (he3.trans he4)).nil (by omega)
  have b1f : ¬ (fAnd f 2 ≠ 0 ∧ ak ≠ sqAdd C.iss 1) → ∀ acks, (acks = true ↔ fAnd f 2 ≠ 0) → conn_Conn_inSynSent.B1 (some ⟨x, 0, none⟩) s (some ⟨nb, 0, none⟩) 0 0 acks false w2 R := fun q1 acks ha => by
    unfold conn_Conn_inSynSent.B1
    rw [if_neg q1] at hR
    refine Bm.neg rfl (LdI.mk os rfl (Bm.mk (fun q3 => Bm.mk (fun q4 => cFail_ok h2 fun w3 h3 he3 => ?_) fun q4 => ?_) fun q3 => ?_))
    · rw [if_pos (bne_iff_ne.1 q3), if_pos (ha.1 q4)] at hR
      exact hR _ 0 0 [] w3 (sl2.keep he3 (fun y hy => by simp only [List.mem_cons, List.not_mem_nil, or_false] at hy; omega)) rfl h3 (E2.nil.trans he3) (by omega)
    · rw [if_pos (bne_iff_ne.1 q3), if_neg (fun z => by rw [ha.2 z] at q4; cases q4)] at hR
      exact hR _ 0 0 [] w2 sl2 rfl h2 E2.nil (by omega)
    · rw [if_neg (fun z => z (bne_eq_false_iff_eq.1 q3))] at hR
      have b2t : (fAnd f 1 = 0 ∨ fAnd f 2 = 0) → conn_Conn_inSynSent.B2 (some ⟨x, 0, none⟩) s (some ⟨nb, 0, none⟩) 0 0 true w2 R := fun hc => by
        unfold conn_Conn_inSynSent.B2
        rw [if_pos hc] at hR
        exact Bm.pos rfl (hR _ 0 0 [] w2 sl2 rfl h2 E2.nil (by omega))
      refine LdI.mk os rfl (Bm.mk (fun q5 => b2t (.inl (beq_iff_eq.1 q5))) fun q5 => ?_)
      have q5' : fAnd f 1 ≠ 0 := beq_eq_false_iff_ne.1 q5
      cases acks with
      | false =>
        have : fAnd f 2 = 0 := Decidable.byContradiction fun z => by have := ha.2 z; cases this
        exact b2t (.inr this)
      | true =>
        have ha' := ha.1 rfl
        rw [if_neg (fun z => z.elim q5' ha')] at hR
        unfold conn_Conn_inSynSent.B2
        refine Bm.neg rfl (cOpened_ok h2 fun w3 h3 he3 => ?_)
        have os3 := ownT he3 h2.tys os (by decide)
        refine LdI.mk os3 rfl (seqAdd_ok (Pn.mk (h3.ldR (rReset_ok h3.b fun w4 s4 he4 => ?_))))
        have h4 := h3.setB s4 he4
        have hX4 : Tys w3 [r] [T_conn_Conn, T_seg_SendBuf, T_seg_RecvBuf] := fun k hk hl => h3.tys k (by simp at hk; simp [hk]) hl
        have os4 := ownT he4 hX4 os3 (by decide)
        refine LdI.mk os4 rfl (cWindow_ok (Pn.mk (h4.stPw fun w5 hs5 h5 he5 => cAck_ok h5 (resetS_ok _) (resetR_ok _) fun k w6 hk hb6 he6 => ?_)))
        have hz3 := he3.size
        have hz4 := he4.size
        exact lay1 (g := ackF { openedF C with B := resetR (sqAdd sq 1), pw := windowF wn }) (lo := w.heap.size) hb6 (by omega) fun nb w7 sl he7 => hR _ 1 1 _ w7 sl rfl (h5.ext0 (he6.trans he7)) (E2.nil.trans (he3.trans ((r3 _ _ he4).trans ((x3 (y := 0) _ _ he5).trans (he6.trans he7).nil)))) (by omega)
  refine Bm.mk (fun q => LdI.mk os rfl ?_) fun q => b1f (fun z => z.1 (bne_eq_false_iff_eq.1 q)) _ bne_iff_ne
  by_cases q2 : ak = sqAdd C.iss 1
  · rw [show (ak != sqAdd C.iss 1) = false by simpa using q2]
    exact b1f (fun z => z.2 q2) _ bne_iff_ne
  · rw [show (ak != sqAdd C.iss 1) = true by simpa using q2]
    exact b1t (bne_iff_ne.1 q) q2 _
theorem cSyncB4 {ob : Option Addr} {ol oc lo : Nat} {E : List (SegV × Nat)} {R : Option Addr → Nat → Nat → World → Prop} (h : CnR w x p r C) (hC : CsW C) (sl : SL w ob ol oc lo E) (hlo : lo ≤ w.heap.size) (hx : x < lo ∧ p < lo ∧ r < lo) (hol : ol ≤ 5)
    (hR : ∀ b l c E' w', SL w' b l c lo E' → E'.map (·.1) = E.map (·.1) ++ (pumpF C).2 → CnR w' x p r (endF (pumpF C).1) → Ext ([x, p, r] ++ rowBlk ob) w w' → l ≤ ol + 2 → R b l c w') : conn_Conn_inSync.B4 (some ⟨x, 0, none⟩) ob ol oc w R := by
  unfold conn_Conn_inSync.B4
  refine catPump (K := fun b l c w2 => Pn (some ⟨x, 0, none⟩) fun a => LdB (a.add 6) w2 fun f1 => Bm f1 (Pn (some ⟨x, 0, none⟩) fun a1 => LdB (a1.add 7) w2 fun f2 => conn_Conn_inSync.B5 (some ⟨x, 0, none⟩) b l c f2 w2 R) (conn_Conn_inSync.B5 (some ⟨x, 0, none⟩) b l c false w2 R)) h hC sl hlo hx hol fun b l c E' w2 sl2 hE' h2 he2 hl2 => ?_
  have no : ¬ ((pumpF C).1.fa = true ∧ (pumpF C).1.pf = true) → conn_Conn_inSync.B5 (some ⟨x, 0, none⟩) b l c false w2 R := fun hc => by
    unfold conn_Conn_inSync.B5
    have : endF (pumpF C).1 = (pumpF C).1 := by unfold endF; rw [if_neg hc]
    rw [this] at hR
    exact Bm.neg rfl (hR b l c E' w2 sl2 hE' h2 he2 hl2)
  refine Pn.mk (h2.ldB (o := 6) (by omega) rfl (Bm.mk (fun e => Pn.mk (h2.ldB (o := 7) (by omega) rfl ?_)) fun e => no fun q => by rw [q.1] at e; cases e))
  by_cases e2 : (pumpF C).1.pf = true
  · rw [e2]
    unfold conn_Conn_inSync.B5
    have : endF (pumpF C).1 = { (pumpF C).1 with st := 4, qt := 10, tm := 0, rt := 0, cr := 0, pw := 0 } := by unfold endF; rw [if_pos ⟨e, e2⟩]
    rw [this] at hR
    refine Bm.pos rfl (Pn.mk (h2.stSt fun w3 _ h3 he3 => Pn.mk (h3.stQt fun w4 _ h4 he4 => Pn.mk (h4.stTm fun w5 _ h5 he5 => Pn.mk (h5.stRt fun w6 _ h6 he6 => Pn.mk (h6.stCr fun w7 _ h7 he7 => Pn.mk (h7.stPw fun w8 _ h8 he8 => ?_)))))))
    have e28 : Ext [x] w2 w8 := he3.trans (he4.trans (he5.trans (he6.trans (he7.trans he8))))
    exact hR b l c E' w8 (sl2.keep e28 (fun y hy => by simp at hy; omega)) hE' h8 (he2.trans (e28.mono (fun y hy _ => by simp at hy; simp [hy]))) hl2
  · have e2' : (pumpF C).1.pf = false := by simpa using e2
    rw [e2']
    exact no fun q => e2 q.2
theorem cSyncB2 {w0 : World} {s0 s1 sq ak f wn : Int} {s k nb : Nat} {D : List Int} {R : Option Addr → Nat → Nat → World → Prop} (h : CnR w x p r C) (hC : CsOk C) (h3 : C.st = 3) (os : Own w s #[.int .i64 s0, .int .i64 s1, .int .i64 sq, .int .i64 ak, .int .i64 f, .int .i64 wn, .slice (some ⟨k, 0, none⟩) D.length D.length] T_api_Segment) (hk : Bf w k D) (hl : D.length ≤ 281474976710656) (sl : SL w (some ⟨nb, 0, none⟩) 0 0 w0.heap.size []) (E0 : Ext [x, p, r] w0 w) (hx : x < w0.heap.size ∧ p < w0.heap.size ∧ r < w0.heap.size)
    (hR : OutR w0 x p r (openF ak wn sq f D C).1 (openF ak wn sq f D C).2 R) : conn_Conn_inSync.B2 (some ⟨x, 0, none⟩) s (some ⟨nb, 0, none⟩) 0 0 w R := by
  have hlo := E0.size
  unfold conn_Conn_inSync.B2
  unfold openF at hR
  refine LdI.mk os rfl (LdI.mk os rfl (LdI.mk os rfl (LdI.mk os rfl (LdI.mk os rfl (LdI.mk os rfl (LdL.mk os rfl (cAcked_ok h hC.toCsW fun w1 h1 he1 => ?_)))))))
  obtain ⟨aw, a3⟩ := ackedF_w (ak := ak) (wn := wn) hC.toCsW h3
  have hz1 := he1.size
  have sl1 := sl.keep he1 (fun y hy => by simp only [List.mem_cons, List.not_mem_nil, or_false] at hy; omega)
  refine Bm.mk (fun e => ?_) fun e => ?_
  · have e' : (ackedF ak wn C).1 = false := by simpa using e
    rw [if_neg (by rw [e']; simp)] at hR
    have ec : (ackedF ak wn C).2 = C := by
      unfold ackedF at e' ⊢
      split
      · rfl
      · rename_i q1
        rw [if_neg q1] at e'
        split at e'
        · cases e'
        · split at e' <;> cases e'
    rw [ec] at h1
    refine cAck_ok h1 hC.S hC.B fun ka w2 hka hb2 he2 => ?_
    exact lay1 (g := ackF C) (lo := w0.heap.size) hb2 (by omega) fun nb' w3 sl3 he3 => hR _ 1 1 _ w3 sl3 rfl (h1.ext0 (he2.trans he3)) (E0.trans (he1.trans (he2.trans he3).nil)) (by omega)
  · have e' : (ackedF ak wn C).1 = true := by simpa using e
    rw [if_pos e'] at hR
    generalize (ackedF ak wn C).2 = C1 at hR h1 aw a3
    have os1 := ownT he1 h.tys os (by decide)
    have hk1 : Bf w1 k D := ⟨ownT he1 h.tys hk.1 (by decide), hk.2⟩
    unfold goonF at hR
    have b3t : (0 < D.length ∨ fAnd f 4 ≠ 0) → conn_Conn_inSync.B3 (some ⟨x, 0, none⟩) s (some ⟨nb, 0, none⟩) 0 0 true w1 R := fun hc => by
      unfold conn_Conn_inSync.B3
      rw [if_pos hc] at hR
      obtain ⟨tw, t3⟩ := takeF_w (sq := sq) (f := f) aw a3 hk.2
      refine Bm.pos rfl (LdI.mk os1 rfl (LdI.mk os1 rfl (LdI.mk os1 rfl (LdI.mk os1 rfl (LdI.mk os1 rfl (LdI.mk os1 rfl (LdL.mk os1 rfl (cTake_ok h1 aw.B hk1 hl fun w2 h2 he2 => ?_))))))))
      have hz2 := he2.size
      have sl2 := sl1.keep he2 (fun y hy => by simp only [List.mem_cons, List.not_mem_nil, or_false] at hy; omega)
      refine cAck_ok h2 tw.S tw.B fun ka w3 hka hb3 he3 => NewSet.mk rfl rfl fun a w5 ha hz5 o5 he5 => ?_
      have E35 := he3.trans he5
      have hz3 := he3.size
      refine push1_ok (g := ackF (takeF sq f D C1)) (sl2.ext0 E35) o5 (hb3.ext0 he5) (by omega) (by omega) (fun e he => (by cases he)) (by omega) fun b' c' w6 sl6 he6 => ?_
      have hrb := sl.blk
      have h6 := (h2.ext0 E35).ext he6 (fun q => by have := hrb _ q; omega) (fun q => by have := hrb _ q; omega) (fun q => by have := hrb _ q; omega)
      have E6 : Ext [x, p, r] w0 w6 := (E0.trans (he1.trans (he2.trans E35.nil))).trans' he6 (fun y hy hlt => by have := hrb y hy; omega)
      have hz6 := he6.size
      exact cSyncB4 h6 tw sl6 (by omega) hx (by omega) fun b l c E' w7 sl7 hE' h7 he7 hl7 => hR b l c E' w7 sl7 (by rw [hE']; rfl) h7 (exOut E6 he7 sl6.blk) (by omega)
    have b3f : ¬ (0 < D.length ∨ fAnd f 4 ≠ 0) → conn_Conn_inSync.B3 (some ⟨x, 0, none⟩) s (some ⟨nb, 0, none⟩) 0 0 false w1 R := fun hc => by
      unfold conn_Conn_inSync.B3
      rw [if_neg hc] at hR
      exact Bm.neg rfl (cSyncB4 h1 aw sl1 (by omega) hx (by omega) fun b l c E' w7 sl7 hE' h7 he7 hl7 => hR b l c E' w7 sl7 (by rw [hE']; rfl) h7 (exOut (E0.trans he1) he7 sl.blk) (by omega))
    refine LdL.mk os1 rfl (Bm.ite (fun q => b3t (.inl (by omega))) fun q => LdI.mk os1 rfl ?_)
    by_cases q4 : fAnd f 4 = 0
    · rw [show (fAnd f 4 != 0) = false from bne_eq_false_iff_eq.2 q4]
      exact b3f fun z => z.elim (by omega) (fun z => z q4)
    · rw [show (fAnd f 4 != 0) = true from bne_iff_ne.2 q4]
      exact b3t (.inr q4)
theorem cSync_ok {s0 s1 sq ak f wn : Int} {k : Nat} {D : List Int} {R : Option Addr → Nat → Nat → World → Prop} (h : CnR w x p r C) (hC : CsOk C) (hst : C.st = 2 ∨ C.st = 3) (hk : Bf w k D) (hl : D.length ≤ 281474976710656) (hR : OutR w x p r (syncF sq ak f wn D C).1 (syncF sq ak f wn D C).2 R) : conn_Conn_inSync.Call (some ⟨x, 0, none⟩) s0 s1 sq ak f wn (some ⟨k, 0, none⟩) D.length D.length w R := by
  apply conn_Conn_inSync.sound
  unfold conn_Conn_inSync.B0
  unfold syncF at hR
  obtain ⟨lx, lp, lr⟩ := h.lt
  refine New.mk fun s w1 hs hs1 o1 he1 => New.mk fun nb w2 hnb hs2 o2 he2 => ?_
  have E2 := he1.trans he2
  have h2 := h.ext0 E2
  have os := he2.own o1 (by simp)
  have hz1 := he1.size
  have hz2 := he2.size
  have sl2 : SL w2 (some ⟨nb, 0, none⟩) 0 0 w.heap.size [] := SL.new o2 (by omega)
  refine LdI.mk os rfl (Bm.mk (fun q8 => cRNxt_ok h2 hC.B (LdI.mk os rfl (seqDiff_ok ?_))) fun q8 => ?_)
  · rw [if_pos (bne_iff_ne.1 q8)] at hR
    have no : ¬ (0 ≤ sqDiff sq (rcvNxt C) ∧ sqDiff sq (rcvNxt C) ≤ 17) → conn_Conn_inSync.B1 (some ⟨x, 0, none⟩) (some ⟨nb, 0, none⟩) 0 0 false w2 R := fun hc => by
      unfold conn_Conn_inSync.B1
      rw [if_neg hc] at hR
      exact Bm.neg rfl (hR _ 0 0 [] w2 sl2 rfl h2 E2.nil (by omega))
    refine Bm.ite (fun c => ?_) fun c => no fun z => c z.1
    by_cases c2 : sqDiff sq (rcvNxt C) ≤ 17
    · rw [decide_eq_true c2]
      rw [if_pos ⟨c, c2⟩] at hR
      unfold conn_Conn_inSync.B1
      exact Bm.pos rfl (cFail_ok h2 fun w3 h3 he3 => hR _ 0 0 [] w3 (sl2.keep he3 (fun y hy => by simp only [List.mem_cons, List.not_mem_nil, or_false] at hy; omega)) rfl h3 (E2.nil.trans he3) (by omega))
    · rw [decide_eq_false c2]
      exact no fun z => c2 z.2
  rw [if_neg (fun z => z (bne_eq_false_iff_eq.1 q8))] at hR
  refine LdI.mk os rfl (Bm.mk (fun q1 => Pn.mk (h2.ldI (o := 2) (by omega) rfl (Bm.mk (fun e2 => cAgain_ok h2 hC.S hC.B fun ka w3 hka hb3 he3 => ?_) fun e2 => cAck_ok h2 hC.S hC.B fun ka w3 hka hb3 he3 => ?_))) fun q1 => ?_)
  · rw [if_pos (bne_iff_ne.1 q1), if_pos (by simpa using e2)] at hR
    exact lay1 (g := againF C) (lo := w.heap.size) hb3 (by omega) fun nb w4 sl he4 => hR _ 1 1 _ w4 sl rfl (h2.ext0 (he3.trans he4)) (E2.trans (he3.trans he4)).nil (by omega)
  · rw [if_pos (bne_iff_ne.1 q1), if_neg (by simpa using e2)] at hR
    exact lay1 (g := ackF C) (lo := w.heap.size) hb3 (by omega) fun nb w4 sl he4 => hR _ 1 1 _ w4 sl rfl (h2.ext0 (he3.trans he4)) (E2.trans (he3.trans he4)).nil (by omega)
  rw [if_neg (fun z => z (bne_eq_false_iff_eq.1 q1))] at hR
  refine LdI.mk os rfl (Bm.mk (fun q2 => ?_) fun q2 => ?_)
  · rw [if_pos (beq_iff_eq.1 q2)] at hR
    exact hR _ 0 0 [] w2 sl2 rfl h2 E2.nil (by omega)
  rw [if_neg (beq_eq_false_iff_ne.1 q2)] at hR
  refine Pn.mk (h2.ldI (o := 2) (by omega) rfl (Bm.mk (fun e2 => ?_) fun e2 => ?_))
  · have e2' : C.st = 2 := by simpa using e2
    rw [if_pos e2'] at hR
    have h2d := h2.drew
    have osd : Own w2.drew s _ _ := Own.drew os
    have Ed : Ext [] w w2.drew := E2.trans (Ext.drew _ _)
    refine LdI.mk osd rfl (Pn.mk (h2d.ldI (o := 8) (by omega) rfl (seqAdd_ok ⟨osd.cell rfl, Bm.mk (fun e3 => LdI.mk osd rfl (cRst_ok fun ka w3 hka hb3 he3 => ?_)) fun e3 => cOpened_ok h2d fun w3 h3 he3 => ?_⟩)))
    · rw [if_pos (bne_iff_ne.1 e3)] at hR
      have hzd : w2.drew.heap.size = w2.heap.size := rfl
      exact lay1 (g := rstF ak) (lo := w.heap.size) hb3 (by omega) fun nb w4 sl he4 => hR _ 1 1 _ w4 sl rfl (h2d.ext0 (he3.trans he4)) (Ed.trans (he3.trans he4)).nil (by omega)
    · rw [if_neg (fun z => z (bne_eq_false_iff_eq.1 e3))] at hR
      have hX := h2d.tys
      exact cSyncB2 (w0 := w) h3 (opened0_ok hC (.inr e2')) rfl (ownT he3 hX osd (by decide)) ⟨ownT he3 hX (hk.ext0 Ed).1 (by decide), hk.2⟩ hl ((sl2.ext0 (Ext.drew _ _)).keep he3 (fun y hy => by simp only [List.mem_cons, List.not_mem_nil, or_false] at hy; omega)) (Ed.nil.trans he3) ⟨lx, lp, lr⟩ hR
  · have e2' : C.st ≠ 2 := by simpa using e2
    rw [if_neg e2'] at hR
    exact cSyncB2 (w0 := w) h2 hC (by omega) os (hk.ext0 E2) hl sl2 E2.nil ⟨lx, lp, lr⟩ hR
theorem OutR.pre {w1 : World} {C' : CS} {G : List SegV} {R : Option Addr → Nat → Nat → World → Prop} (hR : OutR w x p r C' G R) (he : Ext [] w w1) : OutR w1 x p r C' G R := fun b l c E w' sl hE h he' hl =>
  hR b l c E w' ⟨sl.row, sl.dat, sl.asc, fun e hm => (by have := sl.ge e hm; have := he.size; omega), fun y hy => (by have := sl.blk y hy; have := he.size; omega), sl.cap⟩ hE h (he.nil.trans he') hl
theorem cInput_ok {hd : Hd} {k : Nat} {D : List Int} {R : Option Addr → Nat → Nat → World → Prop} (h : CnR w x p r C) (hC : CsOk C) (hk : Bf w k D) (hl : D.length ≤ 281474976710656) (hR : OutR w x p r (inputF hd D C).1 (inputF hd D C).2 R) : conn_Conn_Input.Call (some ⟨x, 0, none⟩) hd.sp hd.dp hd.sq hd.ak hd.fl hd.wn (some ⟨k, 0, none⟩) D.length D.length w R := by
  apply conn_Conn_Input.sound
  unfold conn_Conn_Input.B0
  unfold inputF at hR
  have hst := hC.st
  refine New.mk fun s w1 hs hs1 o1 he1 => LdI.mk o1 rfl (seqAdd_ok (Sts.mk o1 (by simp) rfl fun w3 hs3 o3 he3 => LdI.mk o3 rfl (seqAdd_ok (Sts.mk o3 (by simp [size_putArr]) rfl fun w5 hs5 o5 he5 => LdI.mk o5 rfl (Sts.mk o5 (by simp [size_putArr]) rfl fun w6 hs6 o6 he6 => ?_)))))
  have os : Own w6 s #[.int .i64 hd.sp, .int .i64 hd.dp, .int .i64 (sqAdd hd.sq 0), .int .i64 (sqAdd hd.ak 0), .int .i64 (fAnd hd.fl 15), .int .i64 hd.wn, .slice (some ⟨k, 0, none⟩) D.length D.length] T_api_Segment := o6
  have E6 : Ext [] w w6 := he1.trans' (he3.trans (he5.trans he6)) (fun y hy hlt => by simp at hy; omega)
  have h6 := h.ext0 E6
  have hk6 := hk.ext0 E6
  refine Pn.mk (h6.ldI (o := 2) (by omega) rfl (Bm.mk (fun e4 => ?_) fun e4 => Bm.mk (fun e1 => ?_) fun e1 => ?_))
  · rw [if_pos (by simpa using e4)] at hR
    exact LdI.mk os rfl (LdI.mk os rfl (LdI.mk os rfl (LdI.mk os rfl (LdI.mk os rfl (LdI.mk os rfl (LdL.mk os rfl (cQuiet_ok h6 hC (OutR.pre hR E6))))))))
  · rw [if_neg (by simpa using e4), if_pos (by simpa using e1)] at hR
    exact LdI.mk os rfl (LdI.mk os rfl (LdI.mk os rfl (LdI.mk os rfl (LdI.mk os rfl (LdI.mk os rfl (LdL.mk os rfl (cSynSent_ok h6 hC (OutR.pre hR E6))))))))
  have h4 : C.st ≠ 4 := by simpa using e4
  have h1 : C.st ≠ 1 := by simpa using e1
  rw [if_neg h4, if_neg h1] at hR
  have yes : (C.st = 2 ∨ C.st = 3) → conn_Conn_Input.B1 (some ⟨x, 0, none⟩) s true w6 R := fun hc => by
    unfold conn_Conn_Input.B1
    rw [if_pos hc] at hR
    exact Bm.pos rfl (LdI.mk os rfl (LdI.mk os rfl (LdI.mk os rfl (LdI.mk os rfl (LdI.mk os rfl (LdI.mk os rfl (LdL.mk os rfl (cSync_ok h6 hC hc hk6 hl (OutR.pre hR E6)))))))))
  refine Bm.mk (fun e2 => ?_) fun e2 => ?_
  · rw [e2]; exact yes (.inl (by simpa using e2))
  · by_cases e3 : C.st = 3
    · rw [show (C.st == 3) = true by simpa using e3]; exact yes (.inr e3)
    · rw [show (C.st == 3) = false by simpa using e3]
      have e2' : C.st ≠ 2 := by simpa using e2
      rw [if_neg (fun z => z.elim e2' e3)] at hR
      unfold conn_Conn_Input.B1
      exact Bm.neg rfl (New.mk fun nb w7 hnb hs7 o7 he7 => hR _ 0 0 [] w7 (SL.new o7 (by have := E6.size; omega)) rfl (h6.ext0 he7) (E6.trans he7).nil (by omega))
end
end Go.Proofs.Qxb6500424aGreat
