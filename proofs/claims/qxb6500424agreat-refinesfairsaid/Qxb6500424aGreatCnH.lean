/-
  conn: the real block's Info, Peek, Check.
-/
import Derived.Test.Qxb6500424aGreatCnG
set_option linter.unusedVariables false
set_option linter.unusedSimpArgs false
open Go.Vc
namespace Go.Proofs.Qxb6500424aGreat
def heldN (S : RbS) : Nat := ((List.range 16).filter fun d => (S.hv d).isSome).length
def setV (v : Nat → Int) (i : Nat) (x : Int) : Nat → Int := fun j => if j = i then x else v j
/-- Info's eighteen fields; the seven numbers that are laid in one by one are v's. -/
def inF (C : CS) (v : Nat → Int) (j : Nat) : Value := if j = 0 then .int .i64 C.st else if j = 1 then .int .i64 C.why else if j = 2 then .bool C.wc else if j = 3 then .bool C.fs else if j = 4 then .bool C.fa else if j = 5 then .bool C.pf else if j < 13 then .int .i64 (v j) else if j = 13 then .int .i64 C.pw else if j = 14 then .int .i64 C.tm else if j = 15 then .int .i64 C.rt else if j = 16 then .int .i64 C.cr else .int .i64 C.qt
def inV (C : CS) (j : Nat) : Int := if j = 6 then sndUna C else if j = 7 then sndNxt C else if j = 8 then rcvNxt C else if j = 9 then (C.S.D.length : Int) else if j = 10 then (C.S.D.length : Int) - (C.S.sent : Int) else if j = 11 then (C.B.A.length : Int) else (heldN C.B : Int)
def InAt (w : World) (b : Nat) (C : CS) : Prop := Own w b (fnArr 18 (inF C (inV C))) T_api_ConnInfo
section
variable {w w' : World} {x p r : Nat} {C : CS}
theorem inF_put (C : CS) (v : Nat → Int) {o : Nat} (ho : 6 ≤ o ∧ o < 13) (y : Int) : ∀ j, j < 18 → fnPut (inF C v) o [.int .i64 y] j = inF C (setV v o y) j := by
  intro j hj
  unfold fnPut
  by_cases e : j = o
  · subst e
    rw [if_pos (by simp)]
    unfold inF setV
    rw [if_neg (by omega), if_neg (by omega), if_neg (by omega), if_neg (by omega), if_neg (by omega), if_neg (by omega), if_pos (by omega), if_pos rfl]
    simp
  · rw [if_neg (by simp; omega)]
    unfold inF setV
    rw [if_neg e]
theorem inF_congr {C : CS} {v u : Nat → Int} (h : ∀ j, 6 ≤ j → j < 13 → v j = u j) : ∀ j, j < 18 → inF C v j = inF C u j := by
  intro j hj
  unfold inF
  by_cases c : 6 ≤ j ∧ j < 13
  · rw [h j c.1 c.2]
  · have : j = 0 ∨ j = 1 ∨ j = 2 ∨ j = 3 ∨ j = 4 ∨ j = 5 ∨ ¬ j < 13 := by omega
    rcases this with e | e | e | e | e | e | e
    · rw [if_pos e, if_pos e]
    · subst e; rfl
    · subst e; rfl
    · subst e; rfl
    · subst e; rfl
    · subst e; rfl
    · simp only [if_neg e]
theorem cInfo_ok {R : Option Addr → World → Prop} (h : CnR w x p r C) (hS : SbOk C.S) (hB : RbOk C.B) (hR : ∀ b w', w.heap.size ≤ b → InAt w' b C → Ext [] w w' → R (some ⟨b, 0, none⟩) w') : conn_Conn_Info.Call (some ⟨x, 0, none⟩) w R := by
  apply conn_Conn_Info.sound
  unfold conn_Conn_Info.B0
  have hd := h.drew
  refine Pn.mk (hd.ldI (o := 2) (by omega) rfl (Pn.mk (hd.ldI (o := 3) (by omega) rfl (Pn.mk (hd.ldB (o := 4) (by omega) rfl (Pn.mk (hd.ldB (o := 5) (by omega) rfl (Pn.mk (hd.ldB (o := 6) (by omega) rfl (Pn.mk (hd.ldB (o := 7) (by omega) rfl (Pn.mk (hd.ldI (o := 9) (by omega) rfl (Pn.mk (hd.ldI (o := 10) (by omega) rfl (Pn.mk (hd.ldI (o := 11) (by omega) rfl (Pn.mk (hd.ldI (o := 12) (by omega) rfl (Pn.mk (hd.ldI (o := 13) (by omega) rfl (New.mk fun b w1 hb hs1 o1 he1 => ?_))))))))))))))))))))))
  have i1 : Own w1 b (fnArr 18 (inF C fun _ => 0)) T_api_ConnInfo := o1
  have hdz : w.drew.heap.size = w.heap.size := rfl
  have E1 : Ext [] w w1 := (Ext.drew _ _).trans he1
  have h1 := h.ext0 E1
  have up : ∀ {wa wb : World}, Ext [] w wa → Ext [b] wa wb → Ext [] w wb := fun ha hb' => ha.trans' hb' (fun y hy hlt => by simp at hy; omega)
  refine cUna_ok h1 hS (Sts.fn i1 (by simp) rfl (inF_put C _ (by omega) _) fun w3 hs3 i3 he3 => ?_)
  have E3 := up E1 he3
  refine cSNxt_ok (h.ext0 E3) hS fun w4 he4 => Sts.fn (he4.own i3 (by simp)) (by simp) rfl (inF_put C _ (by omega) _) fun w5 hs5 i5 he5 => ?_
  have E5 := up (E3.trans he4) he5
  refine cRNxt_ok (h.ext0 E5) hB (Sts.fn i5 (by simp) rfl (inF_put C _ (by omega) _) fun w7 hs7 i7 he7 => ?_)
  have E7 := up E5 he7
  have h7 := h.ext0 E7
  refine Pn.mk (h7.ldS (sLen_ok h7.s (Sts.fn i7 (by simp) rfl (inF_put C _ (by omega) _) fun w9 hs9 i9 he9 => ?_)))
  have E9 := up E7 he9
  have h9 := h.ext0 E9
  refine Pn.mk (h9.ldS (sUnsent_ok h9.s hS fun w10 he10 => Sts.fn (he10.own i9 (by simp)) (by simp) rfl (inF_put C _ (by omega) _) fun w11 hs11 i11 he11 => ?_))
  have E11 := up (E9.trans he10) he11
  have h11 := h.ext0 E11
  refine Pn.mk (h11.ldR (rAvail_ok h11.b (Sts.fn i11 (by simp) rfl (inF_put C _ (by omega) _) fun w13 hs13 i13 he13 => ?_)))
  have E13 := up E11 he13
  have h13 := h.ext0 E13
  refine Pn.mk (h13.ldR (rHeld_ok h13.b (Sts.fn i13 (by simp) rfl (inF_put C _ (by omega) _) fun w15 hs15 i15 he15 => hR b w15 (by omega) ?_ (up E13 he15))))
  unfold InAt
  rw [← fnArr_congr (inF_congr (C := C) (v := setV (setV (setV (setV (setV (setV (setV (fun _ => 0) 6 (sndUna C)) 7 (sndNxt C)) 8 (rcvNxt C)) 9 (C.S.D.length : Int)) 10 ((C.S.D.length : Int) - (C.S.sent : Int))) 11 (C.B.A.length : Int)) 12 (heldN C.B : Int)) (fun j h6 h13 => ?_))]
  · exact i15
  · have : j = 6 ∨ j = 7 ∨ j = 8 ∨ j = 9 ∨ j = 10 ∨ j = 11 ∨ j = 12 := by omega
    rcases this with rfl | rfl | rfl | rfl | rfl | rfl | rfl <;> rfl
theorem InAt.ldI {b o : Nat} {v : Int} {K : Int → Prop} (h : InAt w b C) (ho : o < 18) (hv : inF C (inV C) o = .int .i64 v) (hk : K v) : LdI .i64 (Addr.add ⟨b, 0, none⟩ o) w K := by
  rw [add_mk, Nat.zero_add]
  exact LdI.fn h ho hv hk
end
end Go.Proofs.Qxb6500424aGreat
