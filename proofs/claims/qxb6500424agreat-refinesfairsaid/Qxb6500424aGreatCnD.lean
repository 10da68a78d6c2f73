/-
  conn: the real block's small functions and its pump.
-/
import Derived.Test.Qxb6500424aGreatCnC
set_option linter.unusedVariables false
set_option linter.unusedSimpArgs false
open Go.Vc
namespace Go.Proofs.Qxb6500424aGreat

abbrev RSeg (R : Int → Int → Int → Int → Int → Int → Option Addr → Nat → Nat → World → Prop) (g : SegV) (k : Nat) (w : World) : Prop := R g.1.sp g.1.dp g.1.sq g.1.ak g.1.fl g.1.wn (some ⟨k, 0, none⟩) g.2.length g.2.length w
section
variable {w w' : World} {x p r : Nat} {C : CS}
theorem cSent_ok {R : Int → World → Prop} (h : CnR w x p r C) (hS : SbOk C.S) (hR : ∀ w', Ext [] w w' → R (C.S.sent : Int) w') : conn_Conn_sent.Call (some ⟨x, 0, none⟩) w R := by
  apply conn_Conn_sent.sound
  unfold conn_Conn_sent.B0
  have h1 := hS.sent
  have h2 := hS.len
  refine Pn.mk (h.ldS (sLen_ok h.s (Pn.mk (h.ldS (sUnsent_ok h.s hS fun w1 he1 => ?_)))))
  rw [w64 (by omega) (by omega), show (C.S.D.length : Int) - ((C.S.D.length : Int) - (C.S.sent : Int)) = (C.S.sent : Int) by omega]
  exact hR w1 he1
theorem cFly_ok {R : Int → World → Prop} (h : CnR w x p r C) (hS : SbOk C.S) (hR : ∀ w', Ext [] w w' → R (flying C) w') : conn_Conn_flying.Call (some ⟨x, 0, none⟩) w R := by
  apply conn_Conn_flying.sound
  unfold conn_Conn_flying.B0
  have h1 := hS.sent
  have h2 := hS.len
  unfold flying at hR
  have b1 : (C.st = 1 ∨ C.st = 2) → conn_Conn_flying.B1 (some ⟨x, 0, none⟩) true w R := fun hc => by
    unfold conn_Conn_flying.B1
    rw [if_pos hc] at hR
    exact Bm.pos rfl (hR w (Ext.refl _ _))
  refine Pn.mk (h.ldI (o := 2) (by omega) rfl (Bm.mk (fun e => b1 (.inl (by simpa using e))) fun e => Pn.mk (h.ldI (o := 2) (by omega) rfl ?_)))
  have e1 : C.st ≠ 1 := by simpa using e
  by_cases e2 : C.st = 2
  · rw [show (C.st == 2) = true by simpa using e2]; exact b1 (.inr e2)
  rw [show (C.st == 2) = false by simpa using e2]
  rw [if_neg (by omega)] at hR
  unfold conn_Conn_flying.B1
  refine Bm.neg rfl (cSent_ok h hS fun w1 he1 => ?_)
  have g := h.ext0 he1
  unfold conn_Conn_flying.B2
  refine Pn.mk (g.ldB (o := 5) (by omega) rfl (Bm.mk (fun f1 => Pn.mk (g.ldB (o := 6) (by omega) rfl (Bm.mk (fun f2 => ?_) fun f2 => ?_))) fun f1 => Bm.neg rfl ?_))
  · rw [if_pos ⟨f1, by simpa using f2⟩] at hR
    rw [w64 (by omega) (by omega)]
    exact hR w1 he1
  · rw [if_neg (fun q => by rw [q.2] at f2; cases f2)] at hR
    exact hR w1 he1
  · rw [if_neg (fun q => by rw [f1] at q; cases q.1)] at hR
    exact hR w1 he1
theorem cUna_ok {R : Int → World → Prop} (h : CnR w x p r C) (hS : SbOk C.S) (hR : R (sndUna C) w) : conn_Conn_sndUna.Call (some ⟨x, 0, none⟩) w R := by
  apply conn_Conn_sndUna.sound
  unfold conn_Conn_sndUna.B0
  unfold sndUna at hR
  refine Pn.mk (h.ldS (sUna_ok h.s hS (Pn.mk (h.ldB (o := 6) (by omega) rfl (Bm.mk (fun f => seqAdd_ok ?_) fun f => ?_)))))
  · rw [if_pos f] at hR; exact hR
  · rw [if_neg (by rw [f]; simp)] at hR; exact hR
theorem cSNxt_ok {R : Int → World → Prop} (h : CnR w x p r C) (hS : SbOk C.S) (hR : ∀ w', Ext [] w w' → R (sndNxt C) w') : conn_Conn_sndNxt.Call (some ⟨x, 0, none⟩) w R := by
  apply conn_Conn_sndNxt.sound
  unfold conn_Conn_sndNxt.B0
  exact cUna_ok h hS (cFly_ok h hS fun w1 he1 => seqAdd_ok (hR w1 he1))
theorem cRNxt_ok {R : Int → World → Prop} (h : CnR w x p r C) (hB : RbOk C.B) (hR : R (rcvNxt C) w) : conn_Conn_rcvNxt.Call (some ⟨x, 0, none⟩) w R := by
  apply conn_Conn_rcvNxt.sound
  unfold conn_Conn_rcvNxt.B0
  unfold rcvNxt at hR
  refine Pn.mk (h.ldR (rNxt_ok h.b hB.toRbW (Pn.mk (h.ldB (o := 7) (by omega) rfl (Bm.mk (fun f => seqAdd_ok ?_) fun f => ?_)))))
  · rw [if_pos f] at hR; exact hR
  · rw [if_neg (by rw [f]; simp)] at hR; exact hR
theorem cMk1_ok {fl seq : Int} {k t : Nat} {D : List Int} {c : Array Value} {R : Int → Int → Int → Int → Int → Int → Option Addr → Nat → Nat → World → Prop} (h : CnR w x p r C) (hB : RbOk C.B) (hk : Bf w k D) (ht : Own w t c T_api_Segment) (hc : c.size = 7)
    (hR : ∀ w', Bf w' k D → Ext [t] w w' → RSeg R (mkF C fl seq D) k w') : conn_Conn_mk.B1 (some ⟨x, 0, none⟩) fl seq (some ⟨k, 0, none⟩) D.length D.length t w R := by
  unfold conn_Conn_mk.B1
  refine Pn.mk (h.ldR (rWindow_ok h.b hB.toRbW (NewSet.mk rfl rfl fun s w2 hs hs2 o2 he2 => ?_)))
  have h2 := h.ext0 he2
  have t2 := he2.own ht (by simp)
  have k2 := hk.ext0 he2
  have htl := ht.lt
  have hkl := hk.lt
  have hst : s ≠ t := by omega
  have hkt : k ≠ t := fun e => by subst e; exact Own.ne_type hk.1 ht (by decide) rfl
  unfold mkF at hR
  refine Bm.mk (fun hb => cRNxt_ok h2 hB ?_) fun hb => ?_
  · rw [if_pos hb] at hR
    refine Sts.mk o2 (by simp) rfl fun w3 hs3 o3 he3 => ?_
    unfold conn_Conn_mk.B2
    refine LdI.mk o3 rfl (LdI.mk o3 rfl (LdI.mk o3 rfl (LdI.mk o3 rfl (LdI.mk o3 rfl (LdI.mk o3 rfl (LdL.mk o3 rfl ?_))))))
    refine retC (g := (⟨0, 0, seq, rcvNxt C, fl, 16 - (C.B.A.length : Int)⟩, D)) (he3.own t2 (by simp; omega)) hc fun w4 hs4 he4 => hR w4 ?_ ?_
    · exact (k2.ext he3 (by simp; omega)).ext he4 (by simpa using hkt)
    · have e23 : Ext [] w w3 := he2.trans' he3 (fun y hy hlt => by simp at hy; omega)
      exact e23.nil.trans he4
  · rw [if_neg (by rw [hb]; simp)] at hR
    unfold conn_Conn_mk.B2
    refine LdI.mk o2 rfl (LdI.mk o2 rfl (LdI.mk o2 rfl (LdI.mk o2 rfl (LdI.mk o2 rfl (LdI.mk o2 rfl (LdL.mk o2 rfl ?_))))))
    refine retC (g := (⟨0, 0, seq, 0, fl, 16 - (C.B.A.length : Int)⟩, D)) t2 hc fun w4 hs4 he4 => hR w4 (k2.ext he4 (by simpa using hkt)) (he2.nil.trans he4)
theorem cMkN_ok {fl seq : Int} {R : Int → Int → Int → Int → Int → Int → Option Addr → Nat → Nat → World → Prop} (h : CnR w x p r C) (hB : RbOk C.B)
    (hR : ∀ k w', w.heap.size ≤ k → Bf w' k [] → Ext [] w w' → RSeg R (mkF C fl seq []) k w') : conn_Conn_mk.Call (some ⟨x, 0, none⟩) fl seq none 0 0 w R := by
  apply conn_Conn_mk.sound
  unfold conn_Conn_mk.B0
  refine New.mk fun t w1 ht hs1 o1 he1 => Bm.pos rfl (New.mk fun k w2 hk hs2 o2 he2 => ?_)
  have hb : Bf w2 k [] := ⟨o2, IsB.nil⟩
  exact cMk1_ok (D := []) (h.ext0 (he1.trans he2)) hB hb (he2.own o1 (by simp)) rfl fun w3 hb3 he3 => hR k w3 (by omega) hb3 ((he1.trans he2).trans' he3 (fun y hy hlt => by simp at hy; omega))
theorem cMkD_ok {fl seq : Int} {k : Nat} {D : List Int} {R : Int → Int → Int → Int → Int → Int → Option Addr → Nat → Nat → World → Prop} (h : CnR w x p r C) (hB : RbOk C.B) (hk : Bf w k D)
    (hR : ∀ w', Bf w' k D → Ext [] w w' → RSeg R (mkF C fl seq D) k w') : conn_Conn_mk.Call (some ⟨x, 0, none⟩) fl seq (some ⟨k, 0, none⟩) D.length D.length w R := by
  apply conn_Conn_mk.sound
  unfold conn_Conn_mk.B0
  refine New.mk fun t w1 ht hs1 o1 he1 => Bm.neg rfl ?_
  exact cMk1_ok (h.ext0 he1) hB (hk.ext0 he1) o1 rfl fun w3 hb3 he3 => hR w3 hb3 (he1.trans' he3 (fun y hy hlt => by simp at hy; omega))
theorem cAck_ok {R : Int → Int → Int → Int → Int → Int → Option Addr → Nat → Nat → World → Prop} (h : CnR w x p r C) (hS : SbOk C.S) (hB : RbOk C.B)
    (hR : ∀ k w', w.heap.size ≤ k → Bf w' k [] → Ext [] w w' → RSeg R (ackF C) k w') : conn_Conn_ack.Call (some ⟨x, 0, none⟩) w R := by
  apply conn_Conn_ack.sound
  unfold conn_Conn_ack.B0
  refine New.mk fun t w1 ht hs1 o1 he1 => cSNxt_ok (h.ext0 he1) hS fun w2 he2 => cMkN_ok (h.ext0 (he1.trans he2)) hB fun k w3 hk hb3 he3 => ?_
  have hz1 := he1.size
  have hz2 := he2.size
  refine retC (g := ackF C) (k := k) (he3.own (he2.own o1 (by simp)) (by simp)) rfl fun w4 hs4 he4 => hR k w4 (by omega) (hb3.ext he4 (by simp; omega)) (((he1.trans he2).trans he3).trans' he4 (fun y hy hlt => by simp at hy; omega))
theorem cRst_ok {seq : Int} {R : Int → Int → Int → Int → Int → Int → Option Addr → Nat → Nat → World → Prop}
    (hR : ∀ k w', w.heap.size ≤ k → Bf w' k [] → Ext [] w w' → RSeg R (rstF seq) k w') : conn_rst.Call seq w R := by
  apply conn_rst.sound
  unfold conn_rst.B0
  refine New.mk fun t w1 ht hs1 o1 he1 => seqAdd_ok (New.mk fun k w2 hk hs2 o2 he2 => ?_)
  have hz1 := he1.size
  have hb : Bf w2 k [] := ⟨o2, IsB.nil⟩
  refine retC (g := rstF seq) (k := k) (he2.own o1 (by simp)) rfl fun w4 hs4 he4 => hR k w4 (by omega) (hb.ext he4 (by simp; omega)) ((he1.trans he2).trans' he4 (fun y hy hlt => by simp at hy; omega))
theorem cWindow_ok {y : Int} {R : Int → World → Prop} (hR : R (windowF y) w) : conn_window.Call y w R := by
  apply conn_window.sound
  unfold conn_window.B0
  unfold windowF at hR
  refine Bm.ite (fun c => ?_) fun c => Bm.ite (fun c2 => ?_) fun c2 => ?_
  · rw [if_pos c] at hR; exact hR
  · rw [if_neg c, if_pos c2] at hR; exact hR
  · rw [if_neg c, if_neg c2] at hR; exact hR
theorem cArm_ok {R : World → Prop} (h : CnR w x p r C) (hr : 0 ≤ C.rt ∧ C.rt ≤ 3) (hR : ∀ w', w'.heap.size = w.heap.size → CnR w' x p r (armF C) → Ext [x] w w' → R w') : conn_Conn_arm.Call (some ⟨x, 0, none⟩) w R := by
  apply conn_Conn_arm.sound
  unfold conn_Conn_arm.B0
  have ha := arm_tm hr
  unfold armF at hR
  refine Pn.mk (h.ldI (o := 10) (by omega) rfl (Bm.mk (fun e => Pn.mk (h.ldI (o := 11) (by omega) rfl ?_)) fun e => ?_))
  · rw [if_pos (by simpa using e)] at hR
    rw [wu64 (by omega) (by omega)]
    refine ⟨by omega, Pn.mk ?_⟩
    rw [show min C.rt.toNat IntKind.i64.bits = C.rt.toNat from Nat.min_eq_left (by show C.rt.toNat ≤ 64; omega), w64 (by omega) (by omega)]
    exact h.stTm hR
  · rw [if_neg (by simpa using e)] at hR
    exact hR w rfl h (Ext.refl _ _)
theorem cAgain_ok {R : Int → Int → Int → Int → Int → Int → Option Addr → Nat → Nat → World → Prop} (h : CnR w x p r C) (hS : SbOk C.S) (hB : RbOk C.B)
    (hR : ∀ k w', w.heap.size ≤ k → Bf w' k (againF C).2 → Ext [] w w' → RSeg R (againF C) k w') : conn_Conn_again.Call (some ⟨x, 0, none⟩) w R := by
  apply conn_Conn_again.sound
  unfold conn_Conn_again.B0
  unfold againF at hR
  refine New.mk fun t w1 ht hs1 o1 he1 => ?_
  have h1 := h.ext0 he1
  have hz1 := he1.size
  refine Pn.mk (h1.ldI (o := 2) (by omega) rfl (Bm.mk (fun e => Pn.mk (h1.ldI (o := 8) (by omega) rfl (cMkN_ok h1 hB fun k w2 hk hb2 he2 => ?_))) fun e => Pn.mk (h1.ldI (o := 2) (by omega) rfl (Bm.mk (fun e2 => Pn.mk (h1.ldI (o := 8) (by omega) rfl (cMkN_ok h1 hB fun k w2 hk hb2 he2 => ?_))) fun e2 => Pn.mk (h1.ldS (sAgain_ok h1.s hS fun k w2 hk hb2 he2 => ?_))))))
  · rw [if_pos (by simpa using e)] at hR
    refine retC (g := mkF C 1 C.iss []) (k := k) (he2.own o1 (by simp)) rfl fun w4 hs4 he4 => hR k w4 (by omega) (hb2.ext he4 (by simp; omega)) ((he1.trans he2).trans' he4 (fun y hy hlt => by simp at hy; omega))
  · rw [if_neg (by simpa using e), if_pos (by simpa using e2)] at hR
    refine retC (g := mkF C 3 C.iss []) (k := k) (he2.own o1 (by simp)) rfl fun w4 hs4 he4 => hR k w4 (by omega) (hb2.ext he4 (by simp; omega)) ((he1.trans he2).trans' he4 (fun y hy hlt => by simp at hy; omega))
  · rw [if_neg (by simpa using e), if_neg (by simpa using e2)] at hR
    have hlen : (C.S.D.take (leastN 12 C.S.sent)).length = leastN 12 C.S.sent := by
      have := leastN_le 12 C.S.sent
      have := hS.sent
      simp
      omega
    refine Bm.ite (fun hp => ?_) fun hp => ?_
    · rw [if_pos (by omega)] at hR
      rw [← hlen]
      refine cMkD_ok (h1.ext0 he2) hB hb2 fun w3 hb3 he3 => ?_
      refine retC (g := mkF C 2 C.S.una (C.S.D.take (leastN 12 C.S.sent))) (k := k) (he3.own (he2.own o1 (by simp)) (by simp)) rfl fun w4 hs4 he4 => hR k w4 (by omega) (hb3.ext he4 (by simp; omega)) (((he1.trans he2).trans he3).trans' he4 (fun y hy hlt => by simp at hy; omega))
    · rw [if_neg (by omega)] at hR
      refine cMkN_ok (h1.ext0 he2) hB fun k2 w3 hk2 hb3 he3 => ?_
      have hz2 := he2.size
      refine retC (g := mkF C 6 C.S.una []) (k := k2) (he3.own (he2.own o1 (by simp)) (by simp)) rfl fun w4 hs4 he4 => hR k2 w4 (by omega) (hb3.ext he4 (by simp; omega)) (((he1.trans he2).trans he3).trans' he4 (fun y hy hlt => by simp at hy; omega))
theorem cWipe_ok {R : World → Prop} (h : CnR w x p r C) (hR : ∀ w', CnR w' x p r C0 → Ext [x, p, r] w w' → R w') : conn_Conn_wipe.Call (some ⟨x, 0, none⟩) w R := by
  apply conn_Conn_wipe.sound
  unfold conn_Conn_wipe.B0
  refine Pn.mk (h.ldS (sReset_ok h.s fun w1 s1 he1 => ?_))
  have h1 := h.setS s1 he1
  refine Pn.mk (h1.ldR (rReset_ok h1.b fun w2 s2 he2 => ?_))
  have h2 := (h1.setB s2 he2).drew
  refine Pn.mk (h2.ldS (Pn.mk (h2.ldR (Pn.mk (Sts.full h2.own (by simp [fnArr_size]) rfl fun w3 hs3 o3 he3 => hR w3 ?_ ?_)))))
  · obtain ⟨X1, x1, x2⟩ := h2.s
    obtain ⟨Y1, y1, y2⟩ := h2.b
    have hX := Tys.one h2.own
    exact ⟨o3, ⟨X1, ownT he3 hX x1 (by decide), x2⟩, ⟨Y1, ownT he3 hX y1 (by decide), y2⟩⟩
  · exact (he1.mono (fun y hy _ => by simp at hy; simp [hy])).trans ((he2.mono (fun y hy _ => by simp at hy; simp [hy])).trans ((Ext.drew _ _).trans (he3.mono (fun y hy _ => by simp at hy; simp [hy]))))
theorem x3 {y : Nat} (w w' : World) (he : Ext [x] w w') : Ext [x, p, r] w w' := he.mono (fun y hy _ => by simp at hy; simp [hy])
theorem p3 (w w' : World) (he : Ext [p] w w') : Ext [x, p, r] w w' := he.mono (fun y hy _ => by simp at hy; simp [hy])
theorem r3 (w w' : World) (he : Ext [r] w w') : Ext [x, p, r] w w' := he.mono (fun y hy _ => by simp at hy; simp [hy])
theorem cFail_ok {why : Int} {R : World → Prop} (h : CnR w x p r C) (hR : ∀ w', CnR w' x p r (failF why) → Ext [x, p, r] w w' → R w') : conn_Conn_fail.Call (some ⟨x, 0, none⟩) why w R := by
  apply conn_Conn_fail.sound
  unfold conn_Conn_fail.B0
  refine cWipe_ok h fun w1 h1 he1 => Pn.mk (h1.stSt fun w2 hs2 h2 he2 => Pn.mk (h2.stWhy fun w3 hs3 h3 he3 => Pn.mk (h3.stQt fun w4 hs4 h4 he4 => hR w4 h4 ?_)))
  exact he1.trans ((x3 (y := 0) _ _ he2).trans ((x3 (y := 0) _ _ he3).trans (x3 (y := 0) _ _ he4)))
theorem cBegin_ok {st iss : Int} {R : World → Prop} (h : CnR w x p r C) (hR : ∀ w', CnR w' x p r (beginF st iss) → Ext [x, p, r] w w' → R w') : conn_Conn_begin.Call (some ⟨x, 0, none⟩) st iss w R := by
  apply conn_Conn_begin.sound
  unfold conn_Conn_begin.B0
  refine cWipe_ok h fun w1 h1 he1 => Pn.mk (h1.stSt fun w2 hs2 h2 he2 => seqAdd_ok (Pn.mk (h2.stIss fun w3 hs3 h3 he3 => ?_)))
  have h3d := h3.drew
  refine Pn.mk (h3d.ldS (Pn.mk (h3d.ldI (o := 8) (by omega) rfl (sReset_ok h3d.s fun w4 s4 he4 => ?_))))
  have h4 := h3d.setS s4 he4
  refine Pn.mk (h4.stCr fun w5 hs5 h5 he5 => Pn.mk (h5.stTm fun w6 hs6 h6 he6 => hR w6 h6 ?_))
  exact he1.trans ((x3 (y := 0) _ _ he2).trans ((x3 (y := 0) _ _ he3).trans ((Ext.drew _ _).trans ((p3 _ _ he4).trans ((x3 (y := 0) _ _ he5).trans (x3 (y := 0) _ _ he6))))))
theorem cOpened_ok {R : World → Prop} (h : CnR w x p r C) (hR : ∀ w', CnR w' x p r (openedF C) → Ext [x, p, r] w w' → R w') : conn_Conn_opened.Call (some ⟨x, 0, none⟩) w R := by
  apply conn_Conn_opened.sound
  unfold conn_Conn_opened.B0
  refine Pn.mk (h.ldI (o := 8) (by omega) rfl (seqAdd_ok (Pn.mk (h.ldS (sReset_ok h.s fun w1 s1 he1 => ?_)))))
  have h1 := h.setS s1 he1
  refine Pn.mk (h1.stSt fun w2 hs2 h2 he2 => Pn.mk (h2.stTm fun w3 hs3 h3 he3 => Pn.mk (h3.stRt fun w4 hs4 h4 he4 => hR w4 h4 ?_)))
  exact (p3 _ _ he1).trans ((x3 (y := 0) _ _ he2).trans ((x3 (y := 0) _ _ he3).trans (x3 (y := 0) _ _ he4)))
end
end Go.Proofs.Qxb6500424aGreat
