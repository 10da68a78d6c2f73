/-
  node: the invariant.
-/
import Derived.Test.Qxb6500430aGreatNdG
set_option linter.unusedVariables false
set_option linter.unusedSimpArgs false
open Go.Vc
namespace Go.Proofs.Qxb6500430aGreat
open Kv
/-- A row of the pending table. -/
def PendC (n : NS) (c : Nat) : Prop := (n.used c = true → 1 ≤ n.seq c ∧ n.seq c ≤ 72057594037927936 ∧ (n.Y.e.role = 2 → n.idx c ≤ n.Y.L.last)) ∧ (n.used c = false → n.seq c = 0 ∧ n.idx c = 0)
structure NMid (n : NS) : Prop where
  y : YsOk n.Y
  k : KvOk n.kv.A n.kv.S
  ap : 0 ≤ n.ap ∧ n.ap ≤ n.Y.cm
  pend : ∀ c, c < 3 → PendC n c
structure NOk (n : NS) : Prop where
  mid : NMid n
  lo : n.Y.L.base ≤ n.ap
  lead : ∀ c, c < 3 → n.used c = true → n.Y.e.role = 2 ∧ n.ap < n.idx c
section
variable {n : NS}
theorem catchN_Y (n : NS) : (catchN n).Y = n.Y ∧ (catchN n).used = n.used ∧ (catchN n).seq = n.seq ∧ (catchN n).idx = n.idx := by
  unfold catchN
  split <;> exact ⟨rfl, rfl, rfl, rfl⟩
theorem catchN_mid (h : NMid n) : NMid (catchN n) ∧ (catchN n).Y.L.base ≤ (catchN n).ap := by
  have hb := h.y.L.base
  have hlo := h.y.lo
  unfold catchN
  split
  · rename_i hc
    exact ⟨⟨h.y, restoreA_ok h.k, ⟨hb, hlo⟩, h.pend⟩, Int.le_refl _⟩
  · rename_i hc
    exact ⟨h, by omega⟩
theorem uc_catch (n : NS) : uc (catchN n) = uc n := by
  unfold uc
  rw [(catchN_Y n).2.1]
theorem compE_facts (h : YsOk n.Y) (hb : n.Y.L.base ≤ n.ap) : (compE n).Y.cm = n.Y.cm ∧ (compE n).Y.L.last = n.Y.L.last ∧ (compE n).Y.L.base ≤ n.ap := by
  unfold compE compactY
  split
  · exact ⟨rfl, rfl, hb⟩
  · rename_i hc
    refine ⟨rfl, (compact_same h.L).1, ?_⟩
    show (finL n.Y.L (compactS n.ap (snapS n.kv.A n.kv.S) n.Y.L).2).base ≤ n.ap
    unfold compactS
    split
    · exact hb
    · split
      · exact hb
      · split
        · exact hb
        · show n.Y.L.base + (((n.ap - n.Y.L.base).toNat : Nat) : Int) ≤ n.ap
          omega
theorem compN_rest (n : NS) : (compN n).kv = n.kv ∧ (compN n).ap = n.ap ∧ (compN n).used = n.used ∧ (compN n).seq = n.seq ∧ (compN n).idx = n.idx ∧ (compN n).Y.e = n.Y.e := by
  unfold compN
  split
  · exact ⟨rfl, rfl, rfl, rfl, rfl, compE_id n⟩
  · exact ⟨rfl, rfl, rfl, rfl, rfl, rfl⟩
theorem compN_mid (h : NMid n) (hb : n.Y.L.base ≤ n.ap) : NMid (compN n) ∧ (compN n).Y.L.base ≤ (compN n).ap ∧ (compN n).Y.cm = n.Y.cm := by
  have f := compE_facts h.y hb
  unfold compN
  split
  · refine ⟨⟨(compact_inv h.y).1, h.k, ?_, fun c hc => ?_⟩, f.2.2, f.1⟩
    · show 0 ≤ n.ap ∧ n.ap ≤ (compE n).Y.cm
      rw [f.1]
      exact h.ap
    · obtain ⟨p1, p2⟩ := h.pend c hc
      refine ⟨fun hu => ?_, p2⟩
      obtain ⟨q1, q2, q3⟩ := p1 hu
      refine ⟨q1, q2, fun hr => ?_⟩
      show n.idx c ≤ (compE n).Y.L.last
      rw [f.2.1]
      exact q3 (by rw [← compE_id n]; exact hr)
  · exact ⟨h, hb, rfl⟩
theorem compS_len (n : NS) : (compS n).length ≤ 1 := by
  unfold compS compE compactY
  split
  · split
    · simp
    · exact len_compact _ _ _
  · simp
theorem compS_ok (h : NMid n) : AllOk (compS n) := by
  unfold compS
  split
  · exact (compact_inv h.y).2
  · exact AllOk.nil
theorem uc_comp (n : NS) : uc (compN n) = uc n := by
  unfold uc
  rw [(compN_rest n).2.2.1]
theorem clear_pend {c0 c : Nat} (h : PendC n c) : PendC (clearN c0 n) c := by
  unfold PendC clearN updB upN
  by_cases hc : c = c0
  · simp [hc]
  · simp only [if_neg hc]
    exact h
theorem ans_pend {c : Nat} {d : ByteArray} {a : Int × ByteArray} (h : PendC n c) : PendC (ansN n d a).1 c := by
  unfold ansN
  split
  · exact h
  · split
    · exact clear_pend h
    · exact h
theorem run1_pend {c : Nat} (h : PendC n c) : PendC (run1 n).1 c := by
  unfold run1
  split
  · exact h
  · exact ans_pend (n := { n with ap := n.ap + 1, kv := (applyA (datN n) n.kv).2 }) h
theorem runN_pend {c : Nat} : ∀ (k : Nat) (n : NS), PendC n c → PendC (runN k n).1 c
  | 0, n, h => h
  | k + 1, n, h => runN_pend k (run1 n).1 (run1_pend h)
theorem give1_pend {role : Int} {c c0 : Nat} (h : PendC n c) : PendC (give1 role c0 n).1 c := by
  unfold give1
  split
  · exact clear_pend h
  · exact h
theorem giveN_pend {role : Int} {c : Nat} : ∀ (k : Nat) (n : NS), PendC n c → PendC (giveN role k n).1 c
  | 0, n, h => h
  | k + 1, n, h => give1_pend (giveN_pend k n h)
theorem giveN_done {role : Int} {c : Nat} : ∀ (k : Nat) (n : NS), c < k → (giveN role k n).1.used c = true → role = 2 ∧ n.ap < (giveN role k n).1.idx c
  | 0, n, hc, _ => by omega
  | k + 1, n, hc, hu => by
    have hap := (giveN_Y role k n).2.2
    have ih := giveN_done (role := role) (c := c) k n
    simp only [giveN] at hu ⊢
    unfold give1 at hu ⊢
    by_cases hk : (giveN role k n).1.used k = true ∧ (role ≠ 2 ∨ (giveN role k n).1.idx k ≤ (giveN role k n).1.ap)
    · rw [if_pos hk] at hu ⊢
      by_cases hck : c = k
      · subst hck
        simp [clearN, updB] at hu
      · simp only [clearN, updB, upN, if_neg hck] at hu ⊢
        exact ih (by omega) hu
    · rw [if_neg hk] at hu ⊢
      by_cases hck : c = k
      · subst hck
        refine ⟨?_, ?_⟩
        · exact Classical.byContradiction fun hr => hk ⟨hu, .inl hr⟩
        · have : ¬ ((giveN role c n).1.idx c ≤ (giveN role c n).1.ap) := fun q => hk ⟨hu, .inr q⟩
          rw [hap] at this
          show n.ap < (giveN role c n).1.idx c
          omega
      · exact ih (by omega) hu
theorem afterN_n {S : List LogS} {G : List MsgV} (h : NMid n) : NOk (afterN n S G).n ∧ (afterN n S G).n.Y.e = n.Y.e ∧ (afterN n S G).n.Y.L = finL n.Y.L (compS (catchN n)) := by
  obtain ⟨m1, b1⟩ := catchN_mid h
  obtain ⟨m2, b2, c2⟩ := compN_mid m1 b1
  have r2 := compN_rest (catchN n)
  have y1 := (catchN_Y n).1
  obtain ⟨K, hK⟩ : ∃ K : Nat, (catchN n).Y.cm - (catchN n).ap = K := ⟨((catchN n).Y.cm - (catchN n).ap).toNat, by have := m1.ap; omega⟩
  have hR : afterR n = runN K (compN (catchN n)) := by unfold afterR; rw [hK, Int.toNat_natCast]
  have ry := runN_Y K (compN (catchN n))
  have gy := giveN_Y (catchN n).Y.e.role 3 (afterR n).1
  have hY : (afterN n S G).n.Y = (compN (catchN n)).Y := by
    show (giveN (catchN n).Y.e.role 3 (afterR n).1).1.Y = _
    rw [gy.1, hR, ry.1]
  have hap : (afterN n S G).n.ap = (compN (catchN n)).Y.cm := by
    show (giveN (catchN n).Y.e.role 3 (afterR n).1).1.ap = _
    rw [gy.2.2, hR, ry.2, c2, r2.2.1]
    omega
  have hcm := m2.y.lo
  refine ⟨⟨⟨by rw [hY]; exact m2.y, ?_, ?_, fun c hc => ?_⟩, ?_, fun c hc hu => ?_⟩, by rw [hY, r2.2.2.2.2.2, y1], ?_⟩
  · show KvOk (giveN (catchN n).Y.e.role 3 (afterR n).1).1.kv.A (giveN (catchN n).Y.e.role 3 (afterR n).1).1.kv.S
    rw [gy.2.1, hR]
    exact runN_kok K _ m2.k
  · rw [hap, hY]
    have := m2.ap
    omega
  · exact giveN_pend 3 _ (by rw [hR]; exact runN_pend K _ (m2.pend c hc))
  · rw [hap, hY]
    exact hcm
  · have := giveN_done (role := (catchN n).Y.e.role) (c := c) 3 (afterR n).1 hc hu
    refine ⟨?_, ?_⟩
    · rw [hY, r2.2.2.2.2.2]
      exact this.1
    · have h2 := this.2
      have e1 : (afterN n S G).n.ap = (afterR n).1.ap := gy.2.2
      rw [e1]
      exact h2
  · rw [hY]
    unfold compN compS
    split
    · unfold compE compactY
      split
      · rw [y1]; rfl
      · rw [show (setL (catchN n).Y _).L = finL (catchN n).Y.L _ from rfl, y1]
    · rw [y1]; rfl
/-! ### the core's events -/
theorem adv_ge (L : LogS) (tm cm : Int) : ∀ k, cm ≤ advN L tm cm k
  | 0 => Int.le_refl _
  | k + 1 => by
    unfold advN
    split
    · omega
    · exact adv_ge L tm cm k
theorem append_ge (tm : Int) (dd : ByteArray) (L : LogS) : L.last ≤ (finL L (appendS tm dd L).2).last := by
  unfold appendS
  repeat' split
  all_goals first | exact Int.le_refl _ | (show L.base + (L.ents.length : Int) ≤ L.base + ((L.ents ++ [_]).length : Int); simp; omega)
theorem step_cm {m : MsgV} {Y : YS} : Y.cm ≤ (stepY m Y).Y.cm := by
  unfold stepY
  split
  · exact Int.le_refl _
  split
  · exact Int.le_refl _
  split
  · unfold voteGotY
    dsimp only
    split <;> exact Int.le_refl _
  split
  · unfold entsY
    dsimp only
    split
    · unfold acceptF
      repeat' split
      all_goals first | exact Int.le_refl _ | (show Y.cm ≤ max Y.cm _; omega)
    · exact Int.le_refl _
  split
  · unfold snapY
    dsimp only
    split
    · split
      · exact Int.le_refl _
      · rename_i hc
        have hc' : ¬ m.idx ≤ Y.cm := hc
        split
        · show Y.cm ≤ m.idx; omega
        · exact Int.le_refl _
    · exact Int.le_refl _
  · unfold ackY
    split
    · exact Int.le_refl _
    split
    · exact Int.le_refl _
    split
    · unfold ackedF
      split
      · exact Int.le_refl _
      · exact adv_ge _ _ _ _
    · unfold refusedF
      split <;> exact Int.le_refl _
theorem step_last {m : MsgV} {Y : YS} (h2 : (stepY m Y).Y.e.role = 2) : Y.L.last ≤ (stepY m Y).Y.L.last := by
  unfold stepY at h2 ⊢
  split
  · exact Int.le_refl _
  rename_i c0
  rw [if_neg c0] at h2
  split
  · show Y.L.last ≤ (persF _).L.last
    rw [persF_last]
    exact Int.le_refl _
  rename_i c1
  rw [if_neg c1] at h2
  split
  · unfold voteGotY
    dsimp only
    split
    · refine Int.le_trans ?_ (append_ge _ _ _)
      show Y.L.last ≤ (persF _).L.last
      rw [persF_last]
      exact Int.le_refl _
    · show Y.L.last ≤ (persF _).L.last
      rw [persF_last]
      exact Int.le_refl _
  rename_i c2
  rw [if_neg c2] at h2
  split
  · rename_i c3
    rw [if_pos c3] at h2
    unfold entsY at h2 ⊢
    dsimp only at h2 ⊢
    split
    · rename_i hh
      rw [if_pos hh] at h2
      have h3 : (acceptF m (persF { Y with e := (El.heardF Y.e m.fr m.term).2 })).2.1.e.role = 2 := h2
      rw [accept_e] at h3
      have h4 : (El.heardF Y.e m.fr m.term).2.role = 2 := h3
      rw [heard_keep.2.2 hh] at h4
      cases h4
    · show Y.L.last ≤ (persF _).L.last
      rw [persF_last]
      exact Int.le_refl _
  rename_i c3
  rw [if_neg c3] at h2
  split
  · rename_i c4
    rw [if_pos c4] at h2
    unfold snapY at h2 ⊢
    dsimp only at h2 ⊢
    by_cases hh : (El.heardF Y.e m.fr m.term).1 = true
    · rw [if_pos hh] at h2
      have h4 : (El.heardF Y.e m.fr m.term).2.role = 2 := by
        split at h2
        · exact h2
        · split at h2
          · exact h2
          · exact h2
      rw [heard_keep.2.2 hh] at h4
      cases h4
    · rw [if_neg hh]
      show Y.L.last ≤ (persF _).L.last
      rw [persF_last]
      exact Int.le_refl _
  · unfold ackY
    split
    · show Y.L.last ≤ (persF _).L.last
      rw [persF_last]
      exact Int.le_refl _
    split
    · exact Int.le_refl _
    split
    · unfold ackedF
      split <;> exact Int.le_refl _
    · unfold refusedF
      split <;> exact Int.le_refl _
theorem tick_mid (h : NOk n) : NMid { n with Y := (tickY n.Y).Y } := by
  refine ⟨(tick_inv h.mid.y).1, h.mid.k, h.mid.ap, fun c hc => ?_⟩
  obtain ⟨p1, p2⟩ := h.mid.pend c hc
  refine ⟨fun hu => ?_, p2⟩
  obtain ⟨q1, q2, q3⟩ := p1 hu
  refine ⟨q1, q2, fun _ => ?_⟩
  show n.idx c ≤ (persF _).L.last
  rw [persF_last]
  exact q3 (h.lead c hc hu).1
theorem step_mid {m : MsgV} (h : NOk n) : NMid { n with Y := (stepY m n.Y).Y } := by
  have hcm := step_cm (m := m) (Y := n.Y)
  refine ⟨(step_inv h.mid.y).1, h.mid.k, ⟨h.mid.ap.1, ?_⟩, fun c hc => ?_⟩
  · have := h.mid.ap
    show n.ap ≤ (stepY m n.Y).Y.cm
    omega
  · obtain ⟨p1, p2⟩ := h.mid.pend c hc
    refine ⟨fun hu => ?_, p2⟩
    obtain ⟨q1, q2, q3⟩ := p1 hu
    refine ⟨q1, q2, fun hr => ?_⟩
    have a := q3 (h.lead c hc hu).1
    have b := step_last (m := m) (Y := n.Y) hr
    show n.idx c ≤ (stepY m n.Y).Y.L.last
    omega
theorem call_mid {c : CmdS} (h : NOk n) (hc : cmdOk c = true) (hr : n.Y.e.role = 2) (h0 : (proposeY (encCmd c) n.Y).1.2 = 0) : NMid (takeCall c n) := by
  have hp := (cmdOk_true.1 hc).1
  have iv := (propose_inv (d := encCmd c) h.mid.y).1
  have hcm : (proposeY (encCmd c) n.Y).2.Y.cm = n.Y.cm := by
    unfold proposeY
    repeat' split
    all_goals rfl
  have hl : (proposeY (encCmd c) n.Y).1.1 ≤ (proposeY (encCmd c) n.Y).2.Y.L.last ∧ n.Y.L.last ≤ (proposeY (encCmd c) n.Y).2.Y.L.last := by
    unfold proposeY at h0 ⊢
    rw [if_neg (by simp [hr])] at h0 ⊢
    split
    · rename_i q
      rw [if_pos q] at h0
      cases h0
    · rename_i q
      rw [if_neg q] at h0
      split
      · rename_i q2
        rw [if_pos q2] at h0
        cases h0
      · exact ⟨Int.le_refl _, append_ge _ _ _⟩
  refine ⟨iv, h.mid.k, ?_, fun x hx => ?_⟩
  · show 0 ≤ n.ap ∧ n.ap ≤ (proposeY (encCmd c) n.Y).2.Y.cm
    rw [hcm]
    exact h.mid.ap
  · unfold PendC takeCall updB upN
    by_cases hxc : x = c.cl.toNat
    · simp only [hxc, if_true]
      exact ⟨fun _ => ⟨by omega, by omega, fun _ => hl.1⟩, fun q => by cases q⟩
    · simp only [if_neg hxc]
      obtain ⟨p1, p2⟩ := h.mid.pend x hx
      refine ⟨fun hu => ?_, p2⟩
      obtain ⟨q1, q2, q3⟩ := p1 hu
      exact ⟨q1, q2, fun _ => Int.le_trans (q3 hr) hl.2⟩
theorem propose_id {d : ByteArray} {Y : YS} : (proposeY d Y).2.Y.e = Y.e := by
  unfold proposeY
  repeat' split
  all_goals rfl
theorem propose_len {d : ByteArray} {Y : YS} : (proposeY d Y).2.S.length ≤ 1 := by
  unfold proposeY
  repeat' split
  all_goals first | (simp; done) | exact len_append _ _ _
theorem open_ok' (i : Int) {L : LogS} (h : LogOk L) : NOk (openN i L) := by
  have oy := open_inv i h
  have m0 : NMid ⟨openY i L, ⟨[], fun _ => Kv.zeroS⟩, 0, fun _ => false, fun _ => 0, fun _ => 0⟩ := by
    refine ⟨oy, kvOk_new, ⟨Int.le_refl _, ?_⟩, fun c hc => ⟨fun q => (by cases q), fun _ => ⟨rfl, rfl⟩⟩⟩
    show (0 : Int) ≤ L.base
    exact h.base
  obtain ⟨m1, b1⟩ := catchN_mid m0
  refine ⟨m1, b1, fun c hc hu => ?_⟩
  rw [show (openN i L).used = (fun _ => false) from (catchN_Y _).2.1] at hu
  cases hu
theorem openN_Y (i : Int) (L : LogS) : (openN i L).Y = openY i L := (catchN_Y _).1
end
end Go.Proofs.Qxb6500430aGreat
