/-
  ip: the real layer's New, numbers and Tick.
-/
import Derived.Test.Qxb6500424aGreatIpJ
set_option linter.unusedVariables false
set_option linter.unusedSimpArgs false
open Go.Vc
namespace Go.Proofs.Qxb6500424aGreat.Ip

/-- The state with the first n slots ticked. -/
def tickN (S : IPS) (n : Nat) : IPS := { S with credit := 24, sl := fun i => if i < n then tickS (S.sl i) else S.sl i }
theorem tickN_step (S : IPS) (n : Nat) (s' : Slot) (h : s' = tickS (S.sl n)) : (tickN S n).setS n s' = tickN S (n + 1) := by
  subst h
  unfold tickN IPS.setS updS
  congr 1
  funext j
  by_cases h1 : j = n
  · subst h1; simp
  · by_cases h2 : j < n
    · simp [h1, h2, show j < n + 1 by omega]
    · simp [h1, h2, show ¬ j < n + 1 by omega]
theorem tickN_at (S : IPS) (n : Nat) : (tickN S n).sl n = S.sl n := by simp [tickN]
theorem realTick_ok {w : World} {p : Nat} {S : IPS} {A : List AR} {R : World → Prop} (h : RealAt w p S) (hrel : Rel A S) (hR : ∀ w', w'.heap.size = w.heap.size → RealAt w' p (tickAll S) → Ext [p] w w' → R w') : ip_IP_Tick.Call (some ⟨p, 0, none⟩) w R := by
  apply ip_IP_Tick.sound
  unfold ip_IP_Tick.B0
  refine Pn.mk ?_
  rw [add_mk, Nat.zero_add]
  refine RealAt.st h (by omega) rfl (put_credit S 24) fun w1 hs1 hr1 he1 => ?_
  unfold ip_IP_Tick.L1
  refine ⟨fun m p' i w' => some ⟨p, 0, none⟩ = p' ∧ 0 ≤ i ∧ i ≤ 3 ∧ m = (3 - i).toNat ∧ w'.heap.size = w.heap.size ∧ Ext [p] w w' ∧ RealAt w' p (tickN S i.toNat), 3, ⟨rfl, by omega, by omega, rfl, hs1, he1, ?_⟩, ?_⟩
  · have e : tickN S (0 : Int).toNat = { S with credit := 24 } := by simp [tickN]
    rw [e]
    exact hr1
  rintro m p' i w' ⟨rfl, i0, i3, rfl, hsz, he, hr⟩
  unfold ip_IP_Tick.L1b
  have hat := tickN_at S i.toNat
  refine Bm.ite (fun hi => ?_) (fun hi => ?_)
  · have hi3 : i.toNat < 3 := by omega
    have go : ∀ w2 s', RealAt w2 p ((tickN S i.toNat).setS i.toNat s') → s' = tickS (S.sl i.toNat) → w2.heap.size = w.heap.size → Ext [p] w w2 → ip_IP_Tick.B1 (some ⟨p, 0, none⟩) i w2 (fun p' i' w' => ∃ m', m' < (3 - i).toNat ∧ some ⟨p, 0, none⟩ = p' ∧ 0 ≤ i' ∧ i' ≤ 3 ∧ m' = (3 - i').toNat ∧ w'.heap.size = w.heap.size ∧ Ext [p] w w' ∧ RealAt w' p (tickN S i'.toNat)) R := fun w2 s' h2 e hs he2 => by
      unfold ip_IP_Tick.B1
      rw [w64 (by omega) (by omega)]
      refine ⟨(3 - (i + 1)).toNat, by omega, rfl, by omega, by omega, rfl, hs, he2, ?_⟩
      rw [tickN_step S i.toNat s' e] at h2
      rw [show (i + 1).toNat = i.toNat + 1 by omega]
      exact h2
    have hu0 := hr.used hi3
    rw [hat] at hu0
    refine Pn.mk ⟨⟨i0, by omega⟩, LdB.cell (by rw [add_mk, add_mk, Nat.zero_add]; exact hu0) (Bm.mk (fun hu => ?_) (fun hu => ?_))⟩
    · have hl0 := hr.drew.left hi3
      rw [hat] at hl0
      have hl : 1 ≤ (S.sl i.toNat).left ∧ (S.sl i.toNat).left ≤ 4 := (hrel.rwf _ (hrel.mem hi3 hu)).left
      refine Pn.mk ⟨⟨i0, by omega⟩, LdI.cell (by rw [add_mk, add_mk, add_mk, Nat.zero_add]; exact hl0) (Pn.mk ⟨⟨i0, by omega⟩, ?_⟩)⟩
      rw [add_mk, add_mk, add_mk, Nat.zero_add, w64 (by omega) (by omega)]
      refine RealAt.st hr.drew (by omega) rfl (put_left _ i.toNat _) fun w2 hs2 hr2 he2 => ?_
      rw [hat] at hr2
      have hl2 := hr2.left hi3
      rw [setS_same] at hl2
      have hs2' : w2.heap.size = w.heap.size := by rw [hs2]; exact hsz
      have E2 : Ext [p] w w2 := (he.trans (Ext.drew [p] w')).trans he2
      refine Pn.mk ⟨⟨i0, by omega⟩, LdI.cell (by rw [add_mk, add_mk, add_mk, Nat.zero_add]; exact hl2) (Bm.ite (fun h0 => Pn.mk ⟨⟨i0, by omega⟩, ?_⟩) (fun h0 => ?_))⟩
      · rw [add_mk, add_mk, Nat.zero_add]
        refine RealAt.st hr2 (by omega) rfl (put_used _ i.toNat false) fun w3 hs3 hr3 he3 => ?_
        rw [setS_same, setS_setS] at hr3
        refine go w3 _ hr3 ?_ (by omega) (E2.trans he3)
        have h0' : (S.sl i.toNat).left - 1 ≤ 0 := h0
        unfold tickS
        rw [if_pos hu, decide_eq_false (by omega)]
      · refine go w2 _ hr2 ?_ hs2' E2
        have h0' : ¬ (S.sl i.toNat).left - 1 ≤ 0 := h0
        unfold tickS
        rw [if_pos hu, decide_eq_true (by omega), ← hu]
    · have e : (tickN S i.toNat).setS i.toNat (S.sl i.toNat) = tickN S i.toNat := by
        unfold IPS.setS updS
        have : (fun j => if j = i.toNat then S.sl i.toNat else (tickN S i.toNat).sl j) = (tickN S i.toNat).sl := by
          funext j
          by_cases hj : j = i.toNat
          · subst hj; simp [hat]
          · simp [hj]
        rw [this]
      refine go w' (S.sl i.toNat) (by rw [e]; exact hr) ?_ hsz he
      unfold tickS
      rw [if_neg (by rw [hu]; simp)]
  · have e : i.toNat = 3 := by omega
    rw [e] at hr
    exact hR w' hsz hr he
end Go.Proofs.Qxb6500424aGreat.Ip
