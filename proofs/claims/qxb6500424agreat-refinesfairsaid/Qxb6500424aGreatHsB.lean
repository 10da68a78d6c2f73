/-
  host: the work: one connection block, plain: acknowledgements, the tick, the answer.
-/
import Derived.Test.Qxb6500424aGreatHsA
set_option linter.unusedVariables false
set_option linter.unusedSimpArgs false
namespace Go.Proofs.Qxb6500424aGreat
section
variable {x x' y : CS} {s : SegV}
theorem sync3 (hx : x.st = 3) : inputF s.1 s.2 x = syncF (sqAdd s.1.sq 0) (sqAdd s.1.ak 0) (fAnd s.1.fl 15) s.1.wn s.2 x := by
  unfold inputF
  rw [if_neg (by omega), if_neg (by omega), if_pos (.inr hx)]
/-- A segment with an acknowledgement and neither SYN nor RST. -/
def AckT (s : SegV) : Prop := s.1.fl = 2 ∨ s.1.fl = 6
theorem AckT.f (h : AckT s) : fAnd s.1.fl 15 = s.1.fl ∧ fAnd s.1.fl 8 = 0 ∧ fAnd s.1.fl 1 = 0 ∧ fAnd s.1.fl 2 ≠ 0 := by
  rcases h with h | h <;> rw [h]
  · exact ⟨f2.1, f2.2.1, f2.2.2.1, f2.2.2.2.1⟩
  · exact ⟨f6.1, f6.2.1, f6.2.2.1, f6.2.2.2.1⟩
theorem ack3 (hx : x.st = 3) (ha : AckT s) : inputF s.1 s.2 x = openF (sqAdd s.1.ak 0) s.1.wn (sqAdd s.1.sq 0) s.1.fl s.2 x := by
  obtain ⟨a1, a2, a3, a4⟩ := ha.f
  rw [sync3 hx, a1]
  unfold syncF
  rw [if_neg (by rw [a2]; simp), if_neg (by rw [a3]; simp), if_neg a4, if_neg (by omega)]
theorem end_id (hy : (endF x).st = 3) (h3 : x.st = 3) : endF x = x := by
  unfold endF at hy ⊢
  split
  · rename_i q
    rw [if_pos q] at hy
    exact absurd hy (by show ¬ (4 : Int) = 3; decide)
  · rfl
theorem pump_rt (x : CS) : (pumpF x).1.rt = x.rt := by
  have ha : ∀ z : CS, (armF z).rt = z.rt := fun z => by unfold armF; split <;> rfl
  unfold pumpF
  split
  · have h1 : (pump1 x).1.rt = x.rt := by
      unfold pump1
      split
      · rw [ha]
      · rfl
    have h2 : (pump2 (pump1 x).1).1.rt = (pump1 x).1.rt := by
      unfold pump2
      split
      · rw [ha]
      · rfl
    rw [h2, h1]
  · rfl
theorem pump_B (x : CS) : (pumpF x).1.B = x.B ∧ (pumpF x).1.pf = x.pf ∧ (pumpF x).1.S.D = x.S.D ∧ (pumpF x).1.S.una = x.S.una ∧ (pumpF x).1.wc = x.wc ∧ (pumpF x).1.fa = x.fa := by
  have ha : ∀ z : CS, (armF z).B = z.B ∧ (armF z).pf = z.pf ∧ (armF z).S = z.S ∧ (armF z).wc = z.wc ∧ (armF z).fa = z.fa := fun z => by unfold armF; split <;> exact ⟨rfl, rfl, rfl, rfl, rfl⟩
  unfold pumpF
  split
  · have h1 : (pump1 x).1.B = x.B ∧ (pump1 x).1.pf = x.pf ∧ (pump1 x).1.S.D = x.S.D ∧ (pump1 x).1.S.una = x.S.una ∧ (pump1 x).1.wc = x.wc ∧ (pump1 x).1.fa = x.fa := by
      unfold pump1
      split
      · obtain ⟨a1, a2, a3, a4, a5⟩ := ha { x with S := nextA (nOf x) x.S, cr := x.cr - nOf x }
        exact ⟨a1, a2, by rw [a3]; rfl, by rw [a3]; rfl, a4, a5⟩
      · exact ⟨rfl, rfl, rfl, rfl, rfl, rfl⟩
    have h2 : ∀ z : CS, (pump2 z).1.B = z.B ∧ (pump2 z).1.pf = z.pf ∧ (pump2 z).1.S.D = z.S.D ∧ (pump2 z).1.S.una = z.S.una ∧ (pump2 z).1.wc = z.wc ∧ (pump2 z).1.fa = z.fa := fun z => by
      unfold pump2
      split
      · obtain ⟨a1, a2, a3, a4, a5⟩ := ha { z with fs := true, cr := z.cr - 1 }
        exact ⟨a1, a2, by rw [a3], by rw [a3], a4, a5⟩
      · exact ⟨rfl, rfl, rfl, rfl, rfl, rfl⟩
    obtain ⟨b1, b2, b3, b4, b5, b6⟩ := h2 (pump1 x).1
    obtain ⟨c1, c2, c3, c4, c5, c6⟩ := h1
    exact ⟨by rw [b1, c1], by rw [b2, c2], by rw [b3, c3], by rw [b4, c4], by rw [b5, c5], by rw [b6, c6]⟩
  · exact ⟨rfl, rfl, rfl, rfl, rfl, rfl⟩
theorem take_st (sq f : Int) (D : List Int) (x : CS) : (takeF sq f D x).st = x.st ∧ (takeF sq f D x).rt = x.rt := by
  unfold takeF
  repeat' split
  all_goals exact ⟨rfl, rfl⟩
theorem goon_rt {sq f : Int} {D : List Int} (hx : x.st = 3) (h3 : (goonF sq f D x).1.st = 3) : (goonF sq f D x).1.rt = x.rt := by
  unfold goonF at h3 ⊢
  split
  · rename_i q
    rw [if_pos q] at h3
    rw [end_id h3 (by rw [pump_st]; rw [(take_st _ _ _ _).1]; exact hx), pump_rt, (take_st _ _ _ _).2]
  · rename_i q
    rw [if_neg q] at h3
    rw [end_id h3 (by rw [pump_st]; exact hx), pump_rt]
/-- What acknowledges something new. -/
theorem input_ack (h : CsOk x) (hx : x.st = 3) (ha : AckT s) (hr : 0 ≤ s.1.ak ∧ s.1.ak < 256) (hd : 0 < ackD s.1.ak x) (hf : ackD s.1.ak x ≤ flying x) :
    (inputF s.1 s.2 x).1.st ≠ 3 ∨ (rem (inputF s.1 s.2 x).1 < rem x ∧ ((rem x : Int) ≤ ackD s.1.ak x → rem (inputF s.1 s.2 x).1 = 0)) := by
  by_cases h3 : (inputF s.1 s.2 x).1.st = 3
  · right
    rw [ack3 hx ha, sqAdd0 hr] at h3 ⊢
    have ht : (ackedF s.1.ak s.1.wn x).1 = true := by
      unfold ackedF
      rw [if_neg (by omega), if_neg (by omega), if_neg (by omega)]
    obtain ⟨_, _, m3⟩ := acked_mo (ak := s.1.ak) (wn := s.1.wn) h.toCsW hx
    obtain ⟨q1, q2⟩ := m3 ht hd
    have hw := ackedF_w (ak := s.1.ak) (wn := s.1.wn) h.toCsW hx
    unfold openF at h3 ⊢
    rw [if_pos ht] at h3 ⊢
    have g := goon_mo h3 hw.2
    have := g.le
    exact ⟨by omega, fun q => by have := q2 q; omega⟩
  · exact .inl h3
/-- What acknowledges nothing leaves the timer alone. -/
theorem input_quiet (h : CsOk x) (hx : x.st = 3) (h3 : (inputF s.1 s.2 x).1.st = 3) (hfl : s.1.fl = 1 ∨ s.1.fl = 3 ∨ s.1.fl = 8 ∨ s.1.fl = 10 ∨ (AckT s ∧ (0 ≤ s.1.ak ∧ s.1.ak < 256) ∧ ackD s.1.ak x < 0)) : (inputF s.1 s.2 x).1.rt = x.rt ∧ rem (inputF s.1 s.2 x).1 = rem x := by
  have syn : fAnd s.1.fl 15 = s.1.fl → fAnd s.1.fl 8 = 0 → fAnd s.1.fl 1 ≠ 0 → (inputF s.1 s.2 x).1 = x := fun a b c => by
    rw [sync3 hx, a]
    unfold syncF
    rw [if_neg (by rw [b]; simp), if_pos c, if_neg (by omega)]
  have rst : fAnd s.1.fl 15 = s.1.fl → fAnd s.1.fl 8 ≠ 0 → (inputF s.1 s.2 x).1 = x := fun a b => by
    rw [sync3 hx, a] at h3 ⊢
    unfold syncF at h3 ⊢
    rw [if_pos b] at h3 ⊢
    split
    · rename_i q
      rw [if_pos q] at h3
      exact absurd h3 (by show ¬ (4 : Int) = 3; decide)
    · rfl
  rcases hfl with q | q | q | q | ⟨q, hr, hd⟩
  · rw [syn (by rw [q]; exact f1.1) (by rw [q]; exact f1.2.1) (by rw [q]; exact f1.2.2.1)]; exact ⟨rfl, rfl⟩
  · rw [syn (by rw [q]; exact f3.1) (by rw [q]; exact f3.2.1) (by rw [q]; exact f3.2.2.1)]; exact ⟨rfl, rfl⟩
  · rw [rst (by rw [q]; exact f8.1) (by rw [q]; exact f8.2.1)]; exact ⟨rfl, rfl⟩
  · rw [rst (by rw [q]; exact f10.1) (by rw [q]; exact f10.2.1)]; exact ⟨rfl, rfl⟩
  · rw [ack3 hx q, sqAdd0 hr] at h3 ⊢
    unfold openF at h3 ⊢
    by_cases ht : (ackedF s.1.ak s.1.wn x).1 = true
    · rw [if_pos ht] at h3 ⊢
      obtain ⟨_, m2, _⟩ := acked_mo (ak := s.1.ak) (wn := s.1.wn) h.toCsW hx
      rw [m2 ht hd] at h3 ⊢
      refine ⟨goon_rt hx h3, ?_⟩
      unfold goonF at h3 ⊢
      split
      · rename_i c
        rw [if_pos c] at h3
        rw [end_id h3 (by rw [pump_st]; rw [(take_st _ _ _ _).1]; exact hx)]
        obtain ⟨_, _, p3, _, p5, p6⟩ := pump_B (takeF (sqAdd s.1.sq 0) s.1.fl s.2 x)
        have tk : (takeF (sqAdd s.1.sq 0) s.1.fl s.2 x).S = x.S ∧ (takeF (sqAdd s.1.sq 0) s.1.fl s.2 x).wc = x.wc ∧ (takeF (sqAdd s.1.sq 0) s.1.fl s.2 x).fa = x.fa := by
          unfold takeF
          repeat' split
          all_goals exact ⟨rfl, rfl, rfl⟩
        unfold rem
        rw [p3, p5, p6, tk.1, tk.2.1, tk.2.2]
      · rename_i c
        rw [if_neg c] at h3
        rw [end_id h3 (by rw [pump_st]; exact hx)]
        obtain ⟨_, _, p3, _, p5, p6⟩ := pump_B x
        unfold rem
        rw [p3, p5, p6]
    · rw [if_neg ht]; exact ⟨rfl, rfl⟩
/-! ### the receiving side -/
/-- What a block has received never falls, unless it fails. -/
theorem input_B (hx : x.st = 3) (hn : (inputF s.1 s.2 x).1.st = 3 ∨ (inputF s.1 s.2 x).1.why = 0) (h : CsOk x) : x.B.A.length ≤ (inputF s.1 s.2 x).1.B.A.length ∧ (x.pf = true → (inputF s.1 s.2 x).1.pf = true) := by
  have hw0 := (h.live (.inr (.inr hx))).1
  have same : x.B.A.length ≤ x.B.A.length ∧ (x.pf = true → x.pf = true) := ⟨Nat.le_refl _, id⟩
  have eE : ∀ z : CS, (endF z).B = z.B ∧ (endF z).pf = z.pf := fun z => by unfold endF; split <;> exact ⟨rfl, rfl⟩
  rw [sync3 hx] at hn ⊢
  unfold syncF at hn ⊢
  split
  · split
    · rename_i q1 q2
      rw [if_pos q1, if_pos q2] at hn
      rcases hn with z | z
      · exact absurd z (by show ¬ (4 : Int) = 3; decide)
      · exact absurd z (by show ¬ (17 : Int) = 0; decide)
    · exact same
  split
  · split <;> exact same
  split
  · exact same
  rw [if_neg (by omega)]
  unfold openF
  split
  · have m := (acked_mo (ak := sqAdd s.1.ak 0) (wn := s.1.wn) h.toCsW hx).1
    generalize (ackedF (sqAdd s.1.ak 0) s.1.wn x).2 = z at m
    unfold goonF
    split
    · obtain ⟨a, b⟩ := eE (pumpF (takeF (sqAdd s.1.sq 0) (fAnd s.1.fl 15) s.2 z)).1
      obtain ⟨p1, p2, _⟩ := pump_B (takeF (sqAdd s.1.sq 0) (fAnd s.1.fl 15) s.2 z)
      show _ ≤ (endF _).B.A.length ∧ (_ → (endF _).pf = true)
      rw [a, b, p1, p2]
      have m2 := m.trans (take_mo (sqAdd s.1.sq 0) (fAnd s.1.fl 15) s.2 z)
      exact ⟨m2.A, m2.pf⟩
    · obtain ⟨a, b⟩ := eE (pumpF z).1
      obtain ⟨p1, p2, _⟩ := pump_B z
      show _ ≤ (endF _).B.A.length ∧ (_ → (endF _).pf = true)
      rw [a, b, p1, p2]
      exact ⟨m.A, m.pf⟩
  · exact same
/-- Data or a FIN is answered by an acknowledgement of all that has come. -/
theorem out_ack (hx : x.st = 3 ∨ (x.st = 4 ∧ x.why = 0)) (h : CsOk x) (ha : AckT s) (hD : 0 < s.2.length ∨ s.1.fl = 6) (hk : x.st = 3 → (ackedF (sqAdd s.1.ak 0) s.1.wn x).1 = true) :
    ∃ s' ∈ (inputF s.1 s.2 x).2, s'.1.fl = 2 ∧ s'.2 = [] ∧ s'.1.ak = rcvNxt (inputF s.1 s.2 x).1 := by
  obtain ⟨a1, a2, a3, a4⟩ := ha.f
  have hD' : 0 < s.2.length ∨ fAnd s.1.fl 4 ≠ 0 := by
    rcases hD with q | q
    · exact .inl q
    · exact .inr (by rw [q]; exact f6.2.2.2.2)
  have eA : ∀ z : CS, (ackF z).1.fl = 2 ∧ (ackF z).2 = [] ∧ (ackF z).1.ak = rcvNxt z := fun z => by
    refine ⟨rfl, rfl, ?_⟩
    show (if (fAnd 2 2 != 0) = true then rcvNxt z else 0) = _
    rw [if_pos fa2]
  rcases hx with hx | ⟨hx, hw⟩
  · rw [ack3 hx ha]
    unfold openF
    rw [if_pos (hk hx)]
    have m := ackedF_w (ak := sqAdd s.1.ak 0) (wn := s.1.wn) h.toCsW hx
    generalize (ackedF (sqAdd s.1.ak 0) s.1.wn x).2 = z at m
    unfold goonF
    rw [if_pos hD']
    obtain ⟨q1, q2, q3⟩ := eA (takeF (sqAdd s.1.sq 0) s.1.fl s.2 z)
    refine ⟨_, List.mem_cons_self .., q1, q2, ?_⟩
    · rw [q3]
      have eE : ∀ z : CS, (endF z).B = z.B ∧ (endF z).pf = z.pf := fun z => by unfold endF; split <;> exact ⟨rfl, rfl⟩
      obtain ⟨e1, e2⟩ := eE (pumpF (takeF (sqAdd s.1.sq 0) s.1.fl s.2 z)).1
      obtain ⟨p1, p2, _⟩ := pump_B (takeF (sqAdd s.1.sq 0) s.1.fl s.2 z)
      show _ = rcvNxt (endF _)
      unfold rcvNxt
      rw [e1, e2, p1, p2]
  · have e : inputF s.1 s.2 x = quietF (fAnd s.1.fl 15) s.2 x := by unfold inputF; rw [if_pos hx]
    rw [e, a1]
    unfold quietF
    rw [if_pos ⟨hw, a2, hD'.symm⟩]
    obtain ⟨q1, q2, q3⟩ := eA x
    exact ⟨_, List.mem_singleton.2 rfl, q1, q2, q3⟩
end
end Go.Proofs.Qxb6500424aGreat
