/-
  host: fair weather: one block.
-/
import Derived.Test.Qxb6500424aGreatHsD
set_option linter.unusedVariables false
set_option linter.unusedSimpArgs false
namespace Go.Proofs.Qxb6500424aGreat
/-- No reset. -/
def Fai (s : SegV) : Prop := s.1.fl = 1 ∨ s.1.fl = 3 ∨ AckT s
section
variable {x x' y z : CS} {s s' : SegV}
theorem fl1 : fAnd 1 15 = 1 ∧ fAnd 1 8 = 0 ∧ fAnd 1 1 ≠ 0 ∧ fAnd 1 2 = 0 ∧ fAnd 1 4 = 0 := by decide
theorem fl3 : fAnd 3 15 = 3 ∧ fAnd 3 8 = 0 ∧ fAnd 3 1 ≠ 0 ∧ fAnd 3 2 ≠ 0 ∧ fAnd 3 4 = 0 := by decide
theorem Fai.f (h : Fai s) : fAnd (fAnd s.1.fl 15) 8 = 0 := by
  rcases h with h | h | h
  · rw [h, fl1.1]; exact fl1.2.1
  · rw [h, fl3.1]; exact fl3.2.1
  · rw [h.f.1]; exact h.f.2.1
/-- An acknowledgement that is not old: nothing more to be retried. -/
theorem in_rt0 (h : CsOk x) (hx : x.st = 3) (h3 : (inputF s.1 s.2 x).1.st = 3) (ha : AckT s) (hr : 0 ≤ s.1.ak ∧ s.1.ak < 256) (hd : 0 ≤ ackD s.1.ak x) (hf : ackD s.1.ak x ≤ flying x) : (inputF s.1 s.2 x).1.rt = 0 := by
  rw [ack3 hx ha, sqAdd0 hr] at h3 ⊢
  have ht : (ackedF s.1.ak s.1.wn x).1 = true ∧ (ackedF s.1.ak s.1.wn x).2.rt = 0 := by
    unfold ackedF
    rw [if_neg (by omega), if_neg (by omega)]
    split
    · exact ⟨rfl, rfl⟩
    · refine ⟨rfl, ?_⟩
      show (if 0 < flying (ackC s.1.ak s.1.wn x) then armF (ackC s.1.ak s.1.wn x) else ackC s.1.ak s.1.wn x).rt = 0
      split
      · unfold armF
        split <;> rfl
      · rfl
  have hw := ackedF_w (ak := s.1.ak) (wn := s.1.wn) h.toCsW hx
  unfold openF at h3 ⊢
  rw [if_pos ht.1] at h3 ⊢
  rw [goon_rt hw.2 h3]
  exact ht.2
/-- A good acknowledgement opens a block that was called. -/
theorem in_sync2 (hx : x.st = 2) (ha : AckT s) (hr : 0 ≤ s.1.ak ∧ s.1.ak < 256) (hk : s.1.ak = sqAdd x.iss 1) : inputF s.1 s.2 x = inputF s.1 s.2 (openedF x) := by
  have h3 : (openedF x).st = 3 := rfl
  obtain ⟨a1, a2, a3, a4⟩ := ha.f
  rw [ack3 h3 ha]
  unfold inputF
  rw [if_neg (by omega), if_neg (by omega), if_pos (.inl hx), a1]
  unfold syncF
  rw [if_neg (by rw [a2]; simp), if_neg (by rw [a3]; simp), if_neg a4, if_pos hx, if_neg (by rw [sqAdd0 hr, hk]; simp)]
theorem acked_why (ak wn : Int) (x : CS) : (ackedF ak wn x).2.why = x.why := by
  unfold ackedF
  split
  · rfl
  split
  · rfl
  split
  · rfl
  show (if 0 < flying (ackC ak wn x) then armF (ackC ak wn x) else ackC ak wn x).why = _
  split
  · unfold armF
    split <;> rfl
  · rfl
theorem pump_why (x : CS) : (pumpF x).1.why = x.why := by
  unfold pumpF
  split
  · show (pump2 (pump1 x).1).1.why = _
    have a : ∀ z : CS, (armF z).why = z.why := fun z => by unfold armF; split <;> rfl
    have p1 : ∀ z : CS, (pump1 z).1.why = z.why := fun z => by unfold pump1; split; exact a _; rfl
    have p2 : ∀ z : CS, (pump2 z).1.why = z.why := fun z => by unfold pump2; split; exact a _; rfl
    rw [p2, p1]
  · rfl
theorem take_why (sq f : Int) (D : List Int) (x : CS) : (takeF sq f D x).why = x.why := by
  unfold takeF
  repeat' split
  all_goals rfl
theorem end_why (x : CS) : (endF x).why = x.why := by unfold endF; split <;> rfl
theorem open_why (ak wn sq f : Int) (D : List Int) (x : CS) : (openF ak wn sq f D x).1.why = x.why := by
  unfold openF
  split
  · unfold goonF
    split
    · show (endF (pumpF (takeF sq f D (ackedF ak wn x).2)).1).why = _
      rw [end_why, pump_why, take_why, acked_why]
    · show (endF (pumpF (ackedF ak wn x).2).1).why = _
      rw [end_why, pump_why, acked_why]
  · rfl
/-- Only a reset makes a block fail. -/
theorem in_why (hf : Fai s) : (inputF s.1 s.2 x).1.why = x.why := by
  have f8 := hf.f
  unfold inputF
  split
  · unfold quietF
    split <;> rfl
  split
  · unfold synSentF
    split
    · split <;> rfl
    split
    · rename_i q; exact absurd f8 q
    split
    · rfl
    · rfl
  split
  · unfold syncF
    split
    · rename_i q; exact absurd f8 q
    split
    · split <;> rfl
    split
    · rfl
    split
    · split
      · rfl
      · exact (open_why _ _ _ _ _ _).trans rfl
    · exact open_why _ _ _ _ _ _
  · rfl
/-- The SYN|ACK opens. -/
theorem in_st1 (hx : x.st = 1) (hf : s.1.fl = 3) (hr : 0 ≤ s.1.ak ∧ s.1.ak < 256) (hk : s.1.ak = sqAdd x.iss 1) : inputF s.1 s.2 x = ({ openedF x with B := resetR (sqAdd (sqAdd s.1.sq 0) 1), pw := windowF s.1.wn }, [ackF { openedF x with B := resetR (sqAdd (sqAdd s.1.sq 0) 1), pw := windowF s.1.wn }]) := by
  unfold inputF
  rw [if_neg (by omega), if_pos hx, hf, fl3.1]
  unfold synSentF
  rw [if_neg (by rw [sqAdd0 hr, hk]; simp), if_neg (by rw [fl3.2.1]; simp), if_neg (by rintro (q | q); exact fl3.2.2.1 q; exact fl3.2.2.2.1 q)]
/-- A SYN|ACK once more. -/
theorem in_sa3 (hx : x.st = 3) (hf : s.1.fl = 3) : inputF s.1 s.2 x = (x, [ackF x]) := by
  rw [sync3 hx, hf, fl3.1]
  unfold syncF
  rw [if_neg (by rw [fl3.2.1]; simp), if_pos fl3.2.2.1, if_neg (by omega)]
theorem in_sa4 (hx : x.st = 4) (hf : s.1.fl = 3) (hD : s.2 = []) : inputF s.1 s.2 x = (x, []) := by
  unfold inputF
  rw [if_pos hx, hf, fl3.1, hD]
  unfold quietF
  rw [if_neg]
  rintro ⟨_, _, q | q⟩
  · exact q fl3.2.2.2.2
  · simp at q
/-- A good end: silence or one bare acknowledgement. -/
theorem in_q4 (hx : x.st = 4) : (inputF s.1 s.2 x).1 = x ∧ ∀ s' ∈ (inputF s.1 s.2 x).2, s' = ackF x ∧ (0 < s.2.length ∨ fAnd (fAnd s.1.fl 15) 4 ≠ 0) := by
  unfold inputF
  rw [if_pos hx]
  unfold quietF
  split
  · rename_i q
    refine ⟨rfl, fun s' hs => ⟨List.mem_singleton.1 hs, q.2.2.symm⟩⟩
  · exact ⟨rfl, fun s' hs => by cases hs⟩
/-! ### ticks -/
theorem tick_12 (h : CsOk x) (hx : x.st = 1 ∨ x.st = 2) (ht : 1 < x.tm) : tickF x = ({ x with cr := 12, tm := x.tm - 1 }, []) := by
  unfold tickF
  rw [if_neg (by omega), if_neg (by omega), if_pos (by omega), if_neg (by omega)]
  unfold pumpF
  rw [if_neg (by show ¬ x.st = 3; omega)]
theorem tick_2f (h : CsOk x) (hx : x.st = 2) (ht : x.tm = 1) (hr : x.rt = 0) : (tickF x).1.st = 2 ∧ (tickF x).1.rt = 1 ∧ (tickF x).1.tm = 4 ∧ (tickF x).1.why = x.why ∧ ∀ s ∈ (tickF x).2, s.1.fl = 3 ∧ s.2 = [] := by
  unfold tickF
  rw [if_neg (by omega), if_neg (by omega), if_pos (by omega), if_pos (by omega), if_neg (by omega)]
  have ea : armF { x with cr := 12, tm := x.tm - 1, rt := x.rt + 1 } = { x with cr := 12, tm := 4, rt := 1 } := by
    unfold armF
    rw [if_pos (by show x.tm - 1 = 0; omega)]
    rw [hr]
    rfl
  rw [ea]
  have ep : pumpF { x with cr := 12, tm := 4, rt := 1 } = ({ x with cr := 12, tm := 4, rt := 1 }, []) := by
    unfold pumpF
    rw [if_neg (by show ¬ x.st = 3; omega)]
  rw [ep]
  refine ⟨hx, rfl, rfl, rfl, fun s hs => ?_⟩
  rw [List.mem_singleton.1 hs]
  unfold againF
  rw [if_neg (by show ¬ x.st = 1; omega), if_pos (by show x.st = 2; exact hx)]
  exact ⟨rfl, rfl⟩
theorem tick_rt0 (hx : x.st = 3) (ht : x.tm = 0) : (tickF x).1.rt = x.rt := by
  unfold tickF
  rw [if_neg (by omega), if_neg (by omega), if_neg (by omega)]
  exact pump_rt _
/-- Only the last retry makes a block fail. -/
theorem tick_why (h : CsOk x) (hr : x.rt ≠ 3) (hw : x.why = 0) : (tickF x).1.why = 0 := by
  unfold tickF
  split
  · exact hw
  split
  · split
    · show C0.why = 0
      rfl
    · exact hw
  split
  · split
    · show (pumpF _).1.why = 0
      rw [pump_why]
      unfold armF
      split <;> exact hw
    · show (pumpF _).1.why = 0
      rw [pump_why]; exact hw
  · show (pumpF _).1.why = 0
    rw [pump_why]; exact hw
theorem tick_fl (h : CsOk x) : ∀ s ∈ (tickF x).2, Fai s := by
  have pf : ∀ z : CS, ∀ s ∈ (pumpF z).2, Fai s := fun z s hs => by
    unfold pumpF at hs
    split at hs
    · rcases List.mem_append.1 hs with q | q
      · unfold pump1 at q
        split at q
        · rw [List.mem_singleton.1 q]; exact .inr (.inr (.inl rfl))
        · cases q
      · unfold pump2 at q
        split at q
        · rw [List.mem_singleton.1 q]; exact .inr (.inr (.inr rfl))
        · cases q
    · cases hs
  intro s hs
  unfold tickF at hs
  split at hs
  · cases hs
  split at hs
  · cases hs
  split at hs
  · split at hs
    · split at hs
      · cases hs
      · rcases List.mem_cons.1 hs with q | q
        · rw [q]
          unfold againF
          split
          · exact .inl rfl
          split
          · exact .inr (.inl rfl)
          split
          · exact .inr (.inr (.inl rfl))
          · exact .inr (.inr (.inr rfl))
        · exact pf _ s q
    · exact pf _ s hs
  · exact pf _ s hs
end
end Go.Proofs.Qxb6500424aGreat
