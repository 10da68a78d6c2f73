/-
  conn: the real block's Info, Peek, Check.
-/
import Derived.Test.Qxb6500422aGreatCnG
set_option linter.unusedVariables false
set_option linter.unusedSimpArgs false
open Go.Vc
namespace Go.Proofs.Qxb6500422aGreat
def heldN (S : RbS) : Nat := ((List.range 16).filter fun d => (S.hv d).isSome).length
def setV (v : Nat → Int) (i : Nat) (x : Int) : Nat → Int := fun j => if j = i then x else v j
/-- Info's eighteen fields; the seven numbers that are laid in one by one are v's. -/
def inF (C : CS) (v : Nat → Int) (j : Nat) : Value := if j = 0 then .int .i64 C.st else if j = 1 then .int .i64 C.why else if j = 2 then .bool C.wc else if j = 3 then .bool C.fs else if j = 4 then .bool C.fa else if j = 5 then .bool C.pf else if j < 13 then .int .i64 (v j) else if j = 13 then .int .i64 C.pw else if j = 14 then .int .i64 C.tm else if j = 15 then .int .i64 C.rt else if j = 16 then .int .i64 C.cr else .int .i64 C.qt
def inV (C : CS) (j : Nat) : Int := if j = 6 then sndUna C else if j = 7 then sndNxt C else if j = 8 then rcvNxt C else if j = 9 then (C.S.D.length : Int) else if j = 10 then (C.S.D.length : Int) - (C.S.sent : Int) else if j = 11 then (C.B.A.length : Int) else (heldN C.B : Int)
def InAt (w : World) (b : Nat) (C : CS) : Prop := Own w b (fnArr 18 (inF C (inV C))) T_api_ConnInfo
section
variable {w w' : World} {x p r : Nat} {C : CS}
theorem inF_put (C : CS) (v : Nat → Int) {o : Nat} (ho : 6 ≤ o ∧ o < 13) (y : Int) : ∀ j, j < 18 → fnPut (inF C v) o [.int .i64 y] j = inF C (setV v o y) j := by
  intro j hj
  unfold fnPut
  by_cases e : j = o
  · subst e
    rw [if_pos (by simp)]
    unfold inF setV
    rw [if_neg (by omega), if_neg (by omega), if_neg (by omega), if_neg (by omega), if_neg (by omega), if_neg (by omega), if_pos (by omega), if_pos rfl]
    simp
  · rw [if_neg (by simp; omega)]
    unfold inF setV
    rw [if_neg e]
theorem inF_congr {C : CS} {v u : Nat → Int} (h : ∀ j, 6 ≤ j → j < 13 → v j = u j) : ∀ j, j < 18 → inF C v j = inF C u j := by
  intro j hj
  unfold inF
  by_cases c : 6 ≤ j ∧ j < 13
  · rw [h j c.1 c.2]
  · have : j = 0 ∨ j = 1 ∨ j = 2 ∨ j = 3 ∨ j = 4 ∨ j = 5 ∨ ¬ j < 13 := by omega
    rcases this with e | e | e | e | e | e | e
    · rw [if_pos e, if_pos e]
    · subst e; rfl
    · subst e; rfl
    · subst e; rfl
    · subst e; rfl
    · subst e; rfl
    · simp only [if_neg e]
theorem cInfo_ok {R : Option Addr → World → Prop} (h : CnR w x p r C) (hS : SbOk C.S) (hB : RbOk C.B) (hR : ∀ b w', w.heap.size ≤ b → InAt w' b C → Ext [] w w' → R (some ⟨b, 0, none⟩) w') : conn_Conn_Info.Call (some ⟨x, 0, none⟩) w R := by
  apply conn_Conn_Info.sound
  unfold conn_Conn_Info.B0
  have hd := h.drew
  refine Pn.mk (hd.ldI (o := 2) (by omega) rfl (Pn.mk (hd.ldI (o := 3) (by omega) rfl (Pn.mk (hd.ldB (o := 4) (by omega) rfl (Pn.mk (hd.ldB (o := 5) (by omega) rfl (Pn.mk (hd.ldB (o := 6) (by omega) rfl (Pn.mk (hd.ldB (o := 7) (by omega) rfl (Pn.mk (hd.ldI (o := 9) (by omega) rfl (Pn.mk (hd.ldI (o := 10) (by omega) rfl (Pn.mk (hd.ldI (o := 11) (by omega) rfl (Pn.mk (hd.ldI (o := 12) (by omega) rfl (Pn.mk (hd.ldI (o := 13) (by omega) rfl (New.mk fun b w1 hb hs1 o1 he1 => ?_))))))))))))))))))))))
  have i1 : Own w1 b (fnArr 18 (inF C fun _ => 0)) T_api_ConnInfo := o1
  have hdz : w.drew.heap.size = w.heap.size := rfl
  have E1 : Ext [] w w1 := (Ext.drew _ _).trans he1
  have h1 := h.ext0 E1
  have up : ∀ {wa wb : World}, Ext [] w wa → Ext [b] wa wb → Ext [] w wb := fun ha hb' => ha.trans' hb' (fun y hy hlt => by simp at hy; omega)
  refine cUna_ok h1 hS (Sts.fn i1 (by simp) rfl (inF_put C _ (by omega) _) fun w3 hs3 i3 he3 => ?_)
  have E3 := up E1 he3
  refine cSNxt_ok (h.ext0 E3) hS fun w4 he4 => Sts.fn (he4.own i3 (by simp)) (by simp) rfl (inF_put C _ (by omega) _) fun w5 hs5 i5 he5 => ?_
  have E5 := up (E3.trans he4) he5
  refine cRNxt_ok (h.ext0 E5) hB (Sts.fn i5 (by simp) rfl (inF_put C _ (by omega) _) fun w7 hs7 i7 he7 => ?_)
  have E7 := up E5 he7
  have h7 := h.ext0 E7
  refine Pn.mk (h7.ldS (sLen_ok h7.s (Sts.fn i7 (by simp) rfl (inF_put C _ (by omega) _) fun w9 hs9 i9 he9 => ?_)))
  have E9 := up E7 he9
  have h9 := h.ext0 E9
  refine Pn.mk (h9.ldS (sUnsent_ok h9.s hS fun w10 he10 => Sts.fn (he10.own i9 (by simp)) (by simp) rfl (inF_put C _ (by omega) _) fun w11 hs11 i11 he11 => ?_))
  have E11 := up (E9.trans he10) he11
  have h11 := h.ext0 E11
  refine Pn.mk (h11.ldR (rAvail_ok h11.b (Sts.fn i11 (by simp) rfl (inF_put C _ (by omega) _) fun w13 hs13 i13 he13 => ?_)))
  have E13 := up E11 he13
  have h13 := h.ext0 E13
  refine Pn.mk (h13.ldR (rHeld_ok h13.b (Sts.fn i13 (by simp) rfl (inF_put C _ (by omega) _) fun w15 hs15 i15 he15 => hR b w15 (by omega) ?_ (up E13 he15))))
  unfold InAt
  rw [← fnArr_congr (inF_congr (C := C) (v := setV (setV (setV (setV (setV (setV (setV (fun _ => 0) 6 (sndUna C)) 7 (sndNxt C)) 8 (rcvNxt C)) 9 (C.S.D.length : Int)) 10 ((C.S.D.length : Int) - (C.S.sent : Int))) 11 (C.B.A.length : Int)) 12 (heldN C.B : Int)) (fun j h6 h13 => ?_))]
  · exact i15
  · have : j = 6 ∨ j = 7 ∨ j = 8 ∨ j = 9 ∨ j = 10 ∨ j = 11 ∨ j = 12 := by omega
    rcases this with rfl | rfl | rfl | rfl | rfl | rfl | rfl <;> rfl
theorem cPeek_ok {R : Option Addr → Nat → Nat → Option Addr → Nat → Nat → Option Addr → Nat → Nat → World → Prop} (h : CnR w x p r C) (hS : SbOk C.S) (hB : RbOk C.B) (hR : ∀ k1 k2 k3 w', w.heap.size ≤ k1 → k1 < k2 → k2 < k3 → Bf w' k1 C.S.D → Bf w' k2 C.B.A → IAt w' k3 (aheadL C.B) → Ext [] w w' → R (some ⟨k1, 0, none⟩) C.S.D.length C.S.D.length (some ⟨k2, 0, none⟩) C.B.A.length C.B.A.length (some ⟨k3, 0, none⟩) 16 16 w') : conn_Conn_Peek.Call (some ⟨x, 0, none⟩) w R := by
  apply conn_Conn_Peek.sound
  unfold conn_Conn_Peek.B0
  refine Pn.mk (h.ldS (sBytes_ok h.s hS fun k1 w1 hk1 b1 he1 => ?_))
  have h1 := h.ext0 he1
  refine Pn.mk (h1.ldR (rBytes_ok h1.b hB.toRbW fun k2 w2 hk2 b2 he2 => ?_))
  have h2 := h1.ext0 he2
  refine Pn.mk (h2.ldR (rAhead_ok h2.b hB.toRbW fun k3 w3 hk3 i3 he3 => ?_))
  have l1 := b1.lt
  have l2 := b2.lt
  exact hR k1 k2 k3 w3 hk1 (by omega) (by omega) ((b1.ext0 he2).ext0 he3) (b2.ext0 he3) i3 ((he1.trans he2).trans he3)
theorem InAt.ldI {b o : Nat} {v : Int} {K : Int → Prop} (h : InAt w b C) (ho : o < 18) (hv : inF C (inV C) o = .int .i64 v) (hk : K v) : LdI .i64 (Addr.add ⟨b, 0, none⟩ o) w K := by
  rw [add_mk, Nat.zero_add]
  exact LdI.fn h ho hv hk
/-- The representation invariant holds. -/
theorem cCheck_ok {R : Bool → World → Prop} (h : CnR w x p r C) (hC : CsOk C) (hR : ∀ w', Ext [] w w' → R true w') : conn_Conn_Check.Call (some ⟨x, 0, none⟩) w R := by
  apply conn_Conn_Check.sound
  unfold conn_Conn_Check.B0
  have hst := hC.st
  refine cInfo_ok h hC.S hC.B fun b w1 hb i1 he1 => ?_
  have h1 := h.ext0 he1
  refine Pn.mk (h1.ldI (o := 2) (by omega) rfl (Bm.neg (decide_eq_false (by omega)) (Pn.mk (h1.ldI (o := 2) (by omega) rfl ?_))))
  rw [decide_eq_false (by omega)]
  unfold conn_Conn_Check.B1
  refine Bm.neg rfl (Pn.mk (h1.ldI (o := 2) (by omega) rfl ?_))
  have dead : ∀ q y : Int, 0 ≤ q ∧ q ≤ 10 → (C = C0 ∨ C = { C0 with st := 4, why := y, qt := q }) → conn_Conn_Check.B2 (some ⟨x, 0, none⟩) (some ⟨b, 0, none⟩) true w1 R := fun q y hq hc => by
    have f6 : sndUna C = 0 := by rcases hc with e | e <;> rw [e] <;> rfl
    have f7 : sndNxt C = 0 := by rcases hc with e | e <;> rw [e] <;> rfl
    have f8 : rcvNxt C = 0 := by rcases hc with e | e <;> rw [e] <;> rfl
    have f9 : C.S.D.length = 0 := by rcases hc with e | e <;> rw [e] <;> rfl
    have f11 : C.B.A.length = 0 := by rcases hc with e | e <;> rw [e] <;> rfl
    have f12 : heldN C.B = 0 := by rcases hc with e | e <;> rw [e] <;> rfl
    have g1 : C.wc = false ∧ C.fs = false ∧ C.fa = false ∧ C.pf = false ∧ C.tm = 0 ∧ C.rt = 0 ∧ C.cr = 0 ∧ C.pw = 0 ∧ C.iss = 0 := by rcases hc with e | e <;> rw [e] <;> exact ⟨rfl, rfl, rfl, rfl, rfl, rfl, rfl, rfl, rfl⟩
    obtain ⟨gw, gs, ga, gp, gt, gr, gc, gpw, gi⟩ := g1
    unfold conn_Conn_Check.B2
    refine Bm.pos rfl (Pn.mk (i1.ldI (o := 9) (v := (C.S.D.length : Int)) (by omega) rfl (Bm.neg (by rw [f9]; rfl) (Pn.mk (i1.ldI (o := 11) (v := (C.B.A.length : Int)) (by omega) rfl (Bm.neg (by rw [f11]; rfl) (Pn.mk (i1.ldI (o := 12) (v := (heldN C.B : Int)) (by omega) rfl (Bm.neg (by rw [f12]; rfl) (Pn.mk (i1.ldI (o := 6) (v := sndUna C) (by omega) rfl (Bm.neg (by rw [f6]; rfl) (Pn.mk (i1.ldI (o := 7) (v := sndNxt C) (by omega) rfl (Bm.neg (by rw [f7]; rfl) (Pn.mk (i1.ldI (o := 8) (v := rcvNxt C) (by omega) rfl ?_)))))))))))))))))
    rw [f8]
    unfold conn_Conn_Check.B3
    refine Bm.neg rfl (Pn.mk (h1.ldB (o := 4) (by omega) rfl (Bm.neg gw (Pn.mk (h1.ldB (o := 5) (by omega) rfl (Bm.neg gs (Pn.mk (h1.ldB (o := 6) (by omega) rfl (Bm.neg ga (Pn.mk (h1.ldB (o := 7) (by omega) rfl (Bm.neg gp (Pn.mk (h1.ldI (o := 10) (by omega) rfl (Bm.neg (by rw [gt]; rfl) (Pn.mk (h1.ldI (o := 11) (by omega) rfl ?_)))))))))))))))))
    rw [gr]
    unfold conn_Conn_Check.B6
    refine Bm.neg rfl (Pn.mk (h1.ldI (o := 12) (by omega) rfl (Bm.neg (by rw [gc]; rfl) (Pn.mk (h1.ldI (o := 9) (by omega) rfl (Bm.neg (by rw [gpw]; rfl) (Pn.mk (h1.ldI (o := 8) (by omega) rfl ?_))))))))
    rw [gi]
    unfold conn_Conn_Check.B8
    refine Bm.neg rfl (Pn.mk (h1.ldI (o := 2) (by omega) rfl ?_))
    rcases hc with e | e
    · have a1 : C.st = 0 := by rw [e]; rfl
      have a2 : C.qt = 0 := by rw [e]; rfl
      have a3 : C.why = 0 := by rw [e]; rfl
      exact Bm.pos (by rw [a1]; rfl) (Pn.mk (h1.ldI (o := 13) (by omega) rfl (Bm.pos (by rw [a2]; rfl) (Pn.mk (h1.ldI (o := 3) (by omega) rfl (Bm.pos (by rw [a3]; rfl) (hR w1 he1)))))))
    · have a1 : C.st = 4 := by rw [e]
      have a2 : C.qt = q := by rw [e]
      refine Bm.neg (by rw [a1]; rfl) (Pn.mk (h1.ldI (o := 2) (by omega) rfl (Bm.pos (by rw [a1]; rfl) (Pn.mk (h1.ldI (o := 13) (by omega) rfl (Bm.pos (decide_eq_true (by omega)) (Pn.mk (h1.ldI (o := 13) (by omega) rfl ?_))))))))
      rw [decide_eq_true (by omega)]
      exact hR w1 he1
  refine Bm.mk (fun e0 => dead 0 0 (by omega) (.inl (hC.free (by simpa using e0)))) fun e0 => Pn.mk (h1.ldI (o := 2) (by omega) rfl ?_)
  have h0 : C.st ≠ 0 := by simpa using e0
  by_cases h4 : C.st = 4
  · refine Bm.pos (by simpa using h4) (Pn.mk (h1.ldI (o := 3) (by omega) rfl ?_))
    by_cases hw : C.why = 0
    · obtain ⟨gw, gs, ga, gp, gD, gt, gr, gc, gpw⟩ := hC.good h4 hw
      have hq := hC.qt
      rw [show (C.why != 0) = false by simpa using hw]
      unfold conn_Conn_Check.B2
      refine Bm.neg rfl (Pn.mk (h1.ldI (o := 2) (by omega) rfl (Bm.pos (by simpa using h4) (Pn.mk (h1.ldB (o := 4) (by omega) rfl (Bm.neg (by rw [gw]; rfl) (Pn.mk (h1.ldB (o := 5) (by omega) rfl (Bm.neg (by rw [gs]; rfl) (Pn.mk (h1.ldB (o := 6) (by omega) rfl (Bm.neg (by rw [ga]; rfl) (Pn.mk (h1.ldB (o := 7) (by omega) rfl (Bm.neg (by rw [gp]; rfl) (Pn.mk (i1.ldI (o := 9) (v := (C.S.D.length : Int)) (by omega) rfl ?_)))))))))))))))))
      rw [gD]
      unfold conn_Conn_Check.B4
      refine Bm.neg rfl (Pn.mk (h1.ldI (o := 10) (by omega) rfl (Bm.pos (by rw [gt]; rfl) (Pn.mk (h1.ldI (o := 11) (by omega) rfl (Bm.pos (by rw [gr]; rfl) (Pn.mk (h1.ldI (o := 12) (by omega) rfl (Bm.pos (by rw [gc]; rfl) (Pn.mk (h1.ldI (o := 9) (by omega) rfl (Bm.pos (by rw [gpw]; rfl) (Pn.mk (h1.ldI (o := 13) (by omega) rfl (Bm.pos (decide_eq_true (by omega)) (Pn.mk (h1.ldI (o := 13) (by omega) rfl ?_)))))))))))))))))
      rw [decide_eq_true (by omega)]
      exact hR w1 he1
    · rw [show (C.why != 0) = true by simpa using hw]
      exact dead C.qt C.why hC.qt (.inr (hC.bad h4 hw))
  · refine Bm.neg (by simpa using h4) ?_
    have hl : C.st = 1 ∨ C.st = 2 ∨ C.st = 3 := by omega
    obtain ⟨l1, l2, l3⟩ := hC.live hl
    have htm := hC.tm
    have hrt := hC.rt
    have hcr := hC.cr
    have hpw := hC.pw
    unfold conn_Conn_Check.B2
    refine Bm.neg rfl (Pn.mk (h1.ldI (o := 2) (by omega) rfl (Bm.neg (by simpa using h4) (Pn.mk (h1.ldI (o := 3) (by omega) rfl (Bm.neg (by rw [l1]; rfl) (Pn.mk (h1.ldI (o := 13) (by omega) rfl (Bm.neg (by rw [l2]; rfl) (Pn.mk (h1.ldI (o := 11) (by omega) rfl (Bm.neg (decide_eq_false (by omega)) (Pn.mk (h1.ldI (o := 11) (by omega) rfl (Bm.neg (decide_eq_false (by omega)) (Pn.mk (h1.ldI (o := 12) (by omega) rfl (Bm.neg (decide_eq_false (by omega)) (Pn.mk (h1.ldI (o := 12) (by omega) rfl ?_))))))))))))))))))))
    rw [decide_eq_false (by omega)]
    unfold conn_Conn_Check.B5
    refine Bm.neg rfl (Pn.mk (h1.ldI (o := 10) (by omega) rfl (Bm.neg (decide_eq_false (by omega)) (Pn.mk (h1.ldI (o := 10) (by omega) rfl (Bm.neg (decide_eq_false (by omega)) (Pn.mk (h1.ldI (o := 9) (by omega) rfl (Bm.neg (decide_eq_false (by omega)) (Pn.mk (h1.ldI (o := 9) (by omega) rfl ?_)))))))))))
    rw [decide_eq_false (by omega)]
    unfold conn_Conn_Check.B7
    refine Bm.neg rfl (cFly_ok h1 hC.S fun w2 he2 => ?_)
    have h2 := h1.ext0 he2
    have i2 : InAt w2 b C := he2.own i1 (by simp)
    have E2 := he1.trans he2
    refine Pn.mk (h2.ldI (o := 10) (by omega) rfl (Bm.neg ?_ (Pn.mk (h2.ldI (o := 2) (by omega) rfl ?_))))
    · have : decide (flying C > 0) = decide (C.tm > 0) := decide_eq_decide.2 l3
      rw [this]
      simp
    by_cases h3 : C.st = 3
    · obtain ⟨o1, o2, o3, o4⟩ := hC.openn h3
      have nf := hC.nofp h3
      refine Bm.neg (by simpa using h3) ?_
      have b9 : conn_Conn_Check.B9 (some ⟨x, 0, none⟩) false w2 R := by
        unfold conn_Conn_Check.B9
        refine Bm.neg rfl (Pn.mk (h2.ldB (o := 6) (by omega) rfl (Bm.mk (fun f1 => Pn.mk (h2.ldB (o := 7) (by omega) rfl ?_)) fun f1 => hR w2 E2)))
        have : C.pf = false := by
          cases e : C.pf with
          | false => rfl
          | true => exact absurd ⟨f1, e⟩ nf
        rw [this]
        exact hR w2 E2
      have last : C.fs = true → conn_Conn_Check.B9 (some ⟨x, 0, none⟩) (((C.S.D.length : Int) - (C.S.sent : Int)) != 0) w2 R := fun f => by
        have := o3 f
        rw [show (((C.S.D.length : Int) - (C.S.sent : Int)) != 0) = false by rw [bne_eq_false_iff_eq]; omega]
        exact b9
      refine Pn.mk (h2.ldB (o := 6) (by omega) rfl (Bm.mk (fun f1 => Pn.mk (h2.ldB (o := 5) (by omega) rfl (Bm.neg (by rw [o1 f1]; rfl) (Pn.mk (h2.ldB (o := 5) (by omega) rfl (Bm.pos (o1 f1) (Pn.mk (h2.ldB (o := 4) (by omega) rfl (Bm.neg (by rw [o2 (o1 f1)]; rfl) (Pn.mk (h2.ldB (o := 5) (by omega) rfl (Bm.pos (o1 f1) (Pn.mk (i2.ldI (o := 10) (by omega) rfl (last (o1 f1))))))))))))))))  fun f1 => Pn.mk (h2.ldB (o := 5) (by omega) rfl (Bm.mk (fun f2 => Pn.mk (h2.ldB (o := 4) (by omega) rfl (Bm.neg (by rw [o2 f2]; rfl) (Pn.mk (h2.ldB (o := 5) (by omega) rfl (Bm.pos f2 (Pn.mk (i2.ldI (o := 10) (by omega) rfl (last f2))))))))) fun f2 => Pn.mk (h2.ldB (o := 5) (by omega) rfl (Bm.neg f2 b9))))))
    · have ho : C.st = 1 ∨ C.st = 2 := by omega
      obtain ⟨o1, o2, o3, o4, o5⟩ := hC.opening ho
      have eu : sndUna C = C.iss := by unfold sndUna; rw [if_neg (by rw [o4]; simp)]; exact o2
      have h2d := h2.drew
      have i2d : InAt w2.drew b C := Own.drew i2
      have Ed := E2.trans (Ext.drew [] w2)
      refine Bm.pos (by simpa using h3) (Pn.mk (i2d.ldI (o := 9) (v := (C.S.D.length : Int)) (by omega) rfl (Bm.pos (by rw [o1]; rfl) (Pn.mk (i2d.ldI (o := 6) (v := sndUna C) (by omega) rfl (Pn.mk (h2d.ldI (o := 8) (by omega) rfl (Bm.pos (by rw [eu]; simp) (Pn.mk (h2d.ldB (o := 5) (by omega) rfl (Bm.pos (by rw [o3]; rfl) (Pn.mk (h2d.ldB (o := 6) (by omega) rfl (Bm.pos (by rw [o4]; rfl) (Pn.mk (h2d.ldB (o := 7) (by omega) rfl ?_))))))))))))))))
      rw [o5]
      exact hR _ Ed
end
end Go.Proofs.Qxb6500422aGreat
