/-
  host: what a call must answer (Want), FirstFragment.
-/
import Derived.Test.Qxb6500424aGreatHnF
set_option linter.unusedVariables false
set_option linter.unusedSimpArgs false
open Go.Vc
namespace Go.Proofs.Qxb6500424aGreat
section
variable {lo : Nat} {w w' : World} {ib : Nat} {X : CS}
theorem inLdI {o : Nat} {v : Int} {K : Int → Prop} (h : InAt w ib X) (ho : o < 18) (hv : inF X (inV X) o = .int .i64 v) (hk : K v) : LdI .i64 (Addr.add ⟨ib, 0, none⟩ o) w K := by rw [add_mk, Nat.zero_add]; exact LdI.fn h ho hv hk
theorem inLdB {o : Nat} {v : Bool} {K : Bool → Prop} (h : InAt w ib X) (ho : o < 18) (hv : inF X (inV X) o = .bool v) (hk : K v) : LdB (Addr.add ⟨ib, 0, none⟩ o) w K := by rw [add_mk, Nat.zero_add]; exact LdB.mk h (by rw [fnArr_get _ ho, hv]) hk
theorem ended_ok {R : Int → World → Prop} (h : InAt w ib X) (hR : R (endedF X) w) : hostm_ended.Call (some ⟨ib, 0, none⟩) w R := by
  apply hostm_ended.sound
  unfold hostm_ended.B0
  unfold endedF at hR
  refine Pn.mk (inLdI (o := 1) h (by omega) rfl (Bm.mk (fun q => ?_) (fun q => ?_)))
  · rw [if_pos (bneT q)] at hR
    exact Pn.mk (inLdI (o := 1) h (by omega) rfl hR)
  · rw [if_neg (bneF q)] at hR
    exact hR
/-- What Send must answer is what the block answers. -/
theorem wantSend_ok {P : List Int} {R : Int → Int → World → Prop} (h : InAt w ib X) (hX : CsOk X) (h0 : X.st ≠ 0) (hR : R (sendF P X).1 (sendF P X).2.e w) : hostm_WantSend.Call (some ⟨ib, 0, none⟩) (P.length : Int) w R := by
  apply hostm_WantSend.sound
  unfold hostm_WantSend.B0
  have hst := hX.st
  unfold sendF at hR
  rw [if_neg h0] at hR
  have go : ∀ b : Bool, b = decide (X.st = 1 ∨ X.st = 2) → hostm_WantSend.B1 (some ⟨ib, 0, none⟩) (P.length : Int) X.st b w R := fun b hb => by
    unfold hostm_WantSend.B1
    subst hb
    refine Bm.ite (fun q => ?_) (fun q => ?_)
    · rw [if_pos q] at hR; exact hR
    rw [if_neg q] at hR
    refine Bm.mk (fun q4 => ?_) (fun q4 => ?_)
    · rw [if_pos (beqT q4)] at hR
      exact ended_ok h hR
    rw [if_neg (beqF q4)] at hR
    refine Pn.mk (inLdB (o := 2) h (by omega) rfl (Bm.mk (fun qw => ?_) (fun qw => ?_)))
    · rw [if_pos qw] at hR; exact hR
    rw [if_neg (by rw [qw]; decide)] at hR
    have hD := hX.S.len
    have eQ : inV X 9 = (X.S.D.length : Int) := rfl
    have eP : ((putA P X.S).1 : Nat) = min P.length (16 - X.S.D.length) := rfl
    refine Pn.mk (inLdI (o := 9) (v := (X.S.D.length : Int)) h (by omega) rfl ?_)
    rw [w64 (by omega) (by omega)]
    refine Bm.ite (fun q1 => Pn.mk (inLdI (o := 9) (v := (X.S.D.length : Int)) h (by omega) rfl ?_)) (fun q1 => ?_)
    · rw [w64 (by omega) (by omega)]
      refine Bm.mk (fun q2 => ?_) (fun q2 => ?_)
      · have := beqT q2
        rw [if_pos ⟨by omega, by omega⟩] at hR
        exact hR
      · have := beqF q2
        rw [if_neg (fun z => by omega)] at hR
        have e : ((putA P X.S).1 : Int) = 16 - (X.S.D.length : Int) := by rw [eP]; omega
        rw [e] at hR
        exact hR
    · rw [if_neg (fun z => by omega)] at hR
      have e : ((putA P X.S).1 : Int) = (P.length : Int) := by rw [eP]; omega
      rw [e] at hR
      exact hR
  refine Pn.mk (LdI.fn (o := 0) h (by omega) rfl (Bm.mk (fun q => go _ ?_) (fun q => go _ ?_)))
  · have := beqT q
    simp [this]
  · have := beqF q
    by_cases z : X.st = 2 <;> simp [z, this]
/-- What Recv must answer is what the block answers. -/
theorem wantRecv_ok {mx : Int} {R : Int → Int → World → Prop} (h : InAt w ib X) (hX : CsOk X) (h0 : X.st ≠ 0) (hR : ∀ w', Ext [] w w' → R ((recvF mx X).1.length : Int) (recvF mx X).2.e w') : hostm_WantRecv.Call (some ⟨ib, 0, none⟩) mx w R := by
  apply hostm_WantRecv.sound
  unfold hostm_WantRecv.B0
  unfold recvF at hR
  rw [if_neg h0] at hR
  have r0 := Ext.refl [] w
  refine Bm.ite (fun q => ?_) (fun q => Pn.mk (inLdI (o := 11) (v := (X.B.A.length : Int)) h (by omega) rfl (Bm.mk (fun qa => ?_) (fun qa => ?_))))
  · rw [if_pos q] at hR
    exact hR w r0
  · rw [if_neg q, if_pos (by have := beqT qa; omega)] at hR
    refine Pn.mk (inLdB (o := 5) h (by omega) rfl (Bm.mk (fun qp => ?_) (fun qp => Pn.mk (LdI.fn (o := 0) h (by omega) rfl (Bm.mk (fun q4 => ?_) (fun q4 => ?_))))))
    · rw [if_pos qp] at hR
      exact hR w r0
    · rw [if_neg (by rw [qp]; decide), if_pos (beqT q4)] at hR
      exact Pn.mk (inLdI (o := 1) (Own.drew h) (by omega) rfl (hR w.drew (Ext.drew _ _)))
    · rw [if_neg (by rw [qp]; decide), if_neg (beqF q4)] at hR
      exact hR w r0
  · have hA := beqF qa
    rw [if_neg q, if_neg (by omega)] at hR
    have hlen : ((X.B.A.take (leastN mx X.B.A.length)).length : Int) = if (X.B.A.length : Int) < mx then (X.B.A.length : Int) else mx := by
      rw [List.length_take]
      unfold leastN
      split <;> omega
    have hR' := hR w r0
    have e : ((X.B.A.take (leastN mx X.B.A.length)).length : Int) = ((X.B.A.take (leastN mx X.B.A.length), (⟨{ X with B := readA mx X.B }, if X.B.A.length = 16 ∧ X.st = 3 then [ackF { X with B := readA mx X.B }] else [], 0⟩ : OutC)).1.length : Int) := rfl
    rw [← e, hlen] at hR'
    refine Pn.mk (inLdI (o := 11) (v := (X.B.A.length : Int)) h (by omega) rfl (Bm.ite (fun q2 => Pn.mk (inLdI (o := 11) (v := (X.B.A.length : Int)) h (by omega) rfl ?_)) (fun q2 => ?_)))
    · rw [if_pos (by omega)] at hR'
      exact hR'
    · rw [if_neg (by omega)] at hR'
      exact hR'
theorem wantClose_ok {R : Int → World → Prop} (h : InAt w ib X) (hX : CsOk X) (h0 : X.st ≠ 0) (hR : R (closeF X).e w) : hostm_WantClose.Call (some ⟨ib, 0, none⟩) w R := by
  apply hostm_WantClose.sound
  unfold hostm_WantClose.B0
  unfold closeF at hR
  rw [if_neg h0] at hR
  refine Pn.mk (LdI.fn (o := 0) h (by omega) rfl (Bm.mk (fun q => ?_) (fun q => Pn.mk (LdI.fn (o := 0) h (by omega) rfl (Bm.mk (fun q1 => ?_) (fun q1 => ?_))))))
  · rw [if_pos (beqT q)] at hR
    exact ended_ok h hR
  · rw [if_neg (beqF q), if_neg (bneT q1)] at hR
    refine Pn.mk (inLdB (o := 2) h (by omega) rfl ?_)
    unfold hostm_WantClose.B1
    refine Bm.mk (fun qw => ?_) (fun qw => ?_)
    · rw [if_pos qw] at hR; exact hR
    · rw [if_neg (by rw [qw]; decide)] at hR; exact hR
  · have q1' : X.st = 1 := by simpa using q1
    rw [if_neg (beqF q), if_pos q1'] at hR
    unfold hostm_WantClose.B1
    exact Bm.neg rfl hR
end
end Go.Proofs.Qxb6500424aGreat
