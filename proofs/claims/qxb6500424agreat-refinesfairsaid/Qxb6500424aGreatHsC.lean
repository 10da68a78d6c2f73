/-
  host: the work: one connection block, plain: what is taken, and the tick.
-/
import Derived.Test.Qxb6500424aGreatHsB
set_option linter.unusedVariables false
set_option linter.unusedSimpArgs false
namespace Go.Proofs.Qxb6500424aGreat
section
variable {x x' y : CS} {s : SegV}
theorem acked_B (ak wn : Int) (x : CS) : (ackedF ak wn x).2.B = x.B ∧ (ackedF ak wn x).2.pf = x.pf := by
  have ha : ∀ z : CS, (armF z).B = z.B ∧ (armF z).pf = z.pf := fun z => by unfold armF; split <;> exact ⟨rfl, rfl⟩
  unfold ackedF
  split
  · exact ⟨rfl, rfl⟩
  split
  · exact ⟨rfl, rfl⟩
  split
  · exact ⟨rfl, rfl⟩
  show (if _ then _ else _ : CS).B = _ ∧ (if _ then _ else _ : CS).pf = _
  split
  · exact ha (ackC ak wn x)
  · exact ⟨rfl, rfl⟩
theorem insA_nil {seq : Int} {B : RbS} (h : RbOk B) : (insA seq [] B).2 = B := by
  have e : insS seq [] B = B := by
    unfold insS
    show ({ B with hv := insH B.hv (sqDiff seq B.nxt) (16 - B.A.length) [] 0 } : RbS) = B
    rw [insH_zero]
  unfold insA
  rw [e]
  show (drainN (16 + 1) B).2 = B
  unfold drainN
  rw [h.z]
/-- What the block wants is taken. -/
theorem in_adv (h : CsOk y) (hy : y.st = 3) (ha : AckT s) (hk : (ackedF (sqAdd s.1.ak 0) s.1.wn y).1 = true) (hpf : y.pf = false) (hsq : s.1.sq = y.B.nxt) :
    (s.1.fl = 2 → 0 < s.2.length → y.B.A.length < 16 → y.B.A.length < (inputF s.1 s.2 y).1.B.A.length) ∧ (s.1.fl = 6 → s.2 = [] → (inputF s.1 s.2 y).1.pf = true) := by
  have hn := h.B.nxt
  have hs0 : sqAdd s.1.sq 0 = y.B.nxt := by rw [hsq]; exact sqAdd0 hn
  have eE : ∀ z : CS, (endF z).B = z.B ∧ (endF z).pf = z.pf := fun z => by unfold endF; split <;> exact ⟨rfl, rfl⟩
  obtain ⟨b1, b2⟩ := acked_B (sqAdd s.1.ak 0) s.1.wn y
  rw [ack3 hy ha, hs0]
  unfold openF
  rw [if_pos hk]
  generalize (ackedF (sqAdd s.1.ak 0) s.1.wn y).2 = z at b1 b2
  have hzp : ¬ z.pf = true := by rw [b2, hpf]; simp
  refine ⟨fun q1 q2 q3 => ?_, fun q1 q2 => ?_⟩
  · unfold goonF
    rw [if_pos (.inl q2)]
    obtain ⟨e1, _⟩ := eE (pumpF (takeF y.B.nxt s.1.fl s.2 z)).1
    obtain ⟨p1, _⟩ := pump_B (takeF y.B.nxt s.1.fl s.2 z)
    show _ < (endF _).B.A.length
    rw [e1, p1]
    unfold takeF
    rw [if_neg hzp, if_pos (.inl (by rw [q1]; exact f2.2.2.2.2)), b1]
    refine ins_adv ?_ q2 q3
    unfold sqDiff
    rw [Int.sub_self]
    rfl
  · unfold goonF
    rw [if_pos (.inr (by rw [q1]; exact f6.2.2.2.2))]
    obtain ⟨_, e2⟩ := eE (pumpF (takeF y.B.nxt s.1.fl s.2 z)).1
    obtain ⟨_, p2, _⟩ := pump_B (takeF y.B.nxt s.1.fl s.2 z)
    show (endF _).pf = true
    rw [e2, p2]
    unfold takeF
    rw [if_neg hzp, q2, if_neg (by rw [q1]; rintro (c | c); exact f6.2.2.2.2 c; simp at c), b1, insA_nil h.B, if_pos (by simp; exact sqAdd0 hn)]
/-! ### the tick -/
/-- A segment at the first number that is not acknowledged. -/
def Fly (x : CS) (s : SegV) : Prop := s.1.sq = x.S.una ∧ ((s.1.fl = 2 ∧ 0 < s.2.length ∧ 0 < x.S.D.length) ∨ (s.1.fl = 6 ∧ s.2 = [] ∧ x.S.D = [] ∧ x.fs = true ∧ x.fa = false))
structure TkS (x x' : CS) : Prop where
  D : x'.S.D = x.S.D
  una : x'.S.una = x.S.una
  fa : x'.fa = x.fa
  wc : x'.wc = x.wc
  B : x'.B = x.B
  pf : x'.pf = x.pf
  sent : x.S.sent ≤ x'.S.sent
  fs : x.fs = true → x'.fs = true
theorem TkS.rem (h : TkS x x') : rem x' = rem x := by
  unfold Go.Proofs.Qxb6500424aGreat.rem
  rw [h.D, h.wc, h.fa]
theorem pump_tk (x : CS) (c t r : Int) : TkS x (pumpF { x with cr := c, tm := t, rt := r }).1 := by
  obtain ⟨p1, p2, p3, p4, p5, p6⟩ := pump_B { x with cr := c, tm := t, rt := r }
  have m := pump_mo { x with cr := c, tm := t, rt := r }
  have hr : Go.Proofs.Qxb6500424aGreat.rem (pumpF { x with cr := c, tm := t, rt := r }).1 = Go.Proofs.Qxb6500424aGreat.rem { x with cr := c, tm := t, rt := r } := by
    unfold Go.Proofs.Qxb6500424aGreat.rem
    rw [p3, p5, p6]
  obtain ⟨_, _, m3, _⟩ := m.same hr
  exact ⟨p3, p4, p6, p5, p1, p2, m3, m.fs⟩
theorem tick_gt (h : CsOk x) (hx : x.st = 3) (ht : 1 < x.tm) : (tickF x).1.st = 3 ∧ TkS x (tickF x).1 ∧ (tickF x).1.tm = x.tm - 1 ∧ (tickF x).1.rt = x.rt := by
  have e : tickF x = pumpF { x with cr := 12, tm := x.tm - 1 } := by
    unfold tickF
    rw [if_neg (by omega), if_neg (by omega), if_pos (by omega), if_neg (by omega)]
  have e2 : ({ x with cr := 12, tm := x.tm - 1 } : CS) = { x with cr := 12, tm := x.tm - 1, rt := x.rt } := rfl
  rw [e, e2]
  have k := pump_tk x 12 (x.tm - 1) x.rt
  refine ⟨by rw [pump_st]; exact hx, k, ?_, by rw [pump_rt]⟩
  obtain ⟨_, _, _, _, m5⟩ := (pump_mo { x with cr := 12, tm := x.tm - 1, rt := x.rt }).same (by show Go.Proofs.Qxb6500424aGreat.rem _ = Go.Proofs.Qxb6500424aGreat.rem x; exact k.rem)
  exact m5 (by show 0 < x.tm - 1; omega)
theorem tick_one (h : CsOk x) (hx : x.st = 3) (ht : x.tm = 1) : ((tickF x).1.st = 4 ∧ (tickF x).1.why ≠ 0) ∨ ((tickF x).1.st = 3 ∧ TkS x (tickF x).1 ∧ x.rt < 3 ∧ (tickF x).1.rt = x.rt + 1 ∧ (tickF x).1.tm = 2 * 2 ^ (x.rt + 1).toNat ∧ ∃ s ∈ (tickF x).2, Fly (tickF x).1 s) := by
  have hrt := h.rt
  by_cases c : x.rt = 3
  · left
    have e : tickF x = (failF 19, []) := by
      unfold tickF
      rw [if_neg (by omega), if_neg (by omega), if_pos (by omega), if_pos (by omega), if_pos c]
    rw [e]
    exact ⟨rfl, by show (19 : Int) ≠ 0; decide⟩
  right
  have ea : armF { x with cr := 12, tm := x.tm - 1, rt := x.rt + 1 } = { x with cr := 12, tm := 2 * 2 ^ (x.rt + 1).toNat, rt := x.rt + 1 } := by
    unfold armF
    rw [if_pos (by show x.tm - 1 = 0; omega)]
  have e : tickF x = ((pumpF { x with cr := 12, tm := 2 * 2 ^ (x.rt + 1).toNat, rt := x.rt + 1 }).1, againF { x with cr := 12, tm := 2 * 2 ^ (x.rt + 1).toNat, rt := x.rt + 1 } :: (pumpF { x with cr := 12, tm := 2 * 2 ^ (x.rt + 1).toNat, rt := x.rt + 1 }).2) := by
    unfold tickF
    rw [if_neg (by omega), if_neg (by omega), if_pos (by omega), if_pos (by omega), if_neg c, ea]
  rw [e]
  have k := pump_tk x 12 (2 * 2 ^ (x.rt + 1).toNat) (x.rt + 1)
  have hp : (0 : Int) < 2 * 2 ^ (x.rt + 1).toNat := by
    have : (0 : Int) < 2 ^ (x.rt + 1).toNat := Int.pow_pos (by decide)
    omega
  obtain ⟨_, _, _, _, m5⟩ := (pump_mo { x with cr := 12, tm := 2 * 2 ^ (x.rt + 1).toNat, rt := x.rt + 1 }).same (by show Go.Proofs.Qxb6500424aGreat.rem _ = Go.Proofs.Qxb6500424aGreat.rem x; exact k.rem)
  refine ⟨by show (pumpF _).1.st = 3; rw [pump_st]; exact hx, k, by omega, by show (pumpF _).1.rt = _; rw [pump_rt], m5 hp, _, List.mem_cons_self .., ?_⟩
  show Fly (pumpF _).1 _
  have hl := h.sent
  obtain ⟨_, _, hfl⟩ := h.live (.inr (.inr hx))
  unfold againF
  rw [if_neg (by show ¬ x.st = 1; omega), if_neg (by show ¬ x.st = 2; omega)]
  split
  · rename_i q
    have q' : 0 < leastN 12 x.S.sent := q
    refine ⟨by rw [k.una]; rfl, .inl ⟨rfl, ?_, ?_⟩⟩
    · show 0 < (x.S.D.take (leastN 12 x.S.sent)).length
      have := leastN_le 12 x.S.sent
      rw [List.length_take]
      omega
    · rw [k.D]
      have := leastN_le 12 x.S.sent
      omega
  · rename_i q
    have q' : ¬ 0 < leastN 12 x.S.sent := q
    have h0 : x.S.sent = 0 := by unfold leastN at q'; omega
    have hf : 0 < flying x := hfl.2 (by omega)
    rw [fly3 hx] at hf
    have hfs : x.fs = true ∧ x.fa = false := by
      apply Classical.byContradiction
      intro hn
      rw [if_neg hn] at hf
      omega
    have hD : x.S.D.length = x.S.sent := (h.openn hx).2.2.1 hfs.1
    refine ⟨by rw [k.una]; rfl, .inr ⟨rfl, rfl, ?_, k.fs hfs.1, by rw [k.fa]; exact hfs.2⟩⟩
    rw [k.D]
    exact List.eq_nil_of_length_eq_zero (by omega)
theorem tick_zero (h : CsOk x) (hx : x.st = 3) (ht : x.tm = 0) : (tickF x).1.st = 3 ∧ TkS x (tickF x).1 ∧ (rem x = 0 ∨ (0 < (tickF x).1.tm ∧ ∃ s ∈ (tickF x).2, Fly (tickF x).1 s)) := by
  have e : tickF x = pumpF { x with cr := 12 } := by
    unfold tickF
    rw [if_neg (by omega), if_neg (by omega), if_neg (by omega)]
  have e2 : ({ x with cr := 12 } : CS) = { x with cr := 12, tm := x.tm, rt := x.rt } := rfl
  have k : TkS x (pumpF { x with cr := 12 }).1 := by rw [e2]; exact pump_tk x 12 x.tm x.rt
  rw [e]
  refine ⟨by rw [pump_st]; exact hx, k, ?_⟩
  obtain ⟨_, _, hfl⟩ := h.live (.inr (.inr hx))
  have hf : ¬ 0 < flying x := fun q => by have := hfl.1 q; omega
  rw [fly3 hx] at hf
  have hs : x.S.sent = 0 := by split at hf <;> omega
  have hfa : ¬ (x.fs = true ∧ x.fa = false) := fun q => by rw [if_pos q] at hf; omega
  have hu := h.S.una
  have hnx : nxtS x.S = x.S.una := by unfold nxtS; rw [hs]; omega
  have hpw := h.pw
  by_cases hD : x.S.D = []
  · have hn : ¬ 0 < nOf { x with cr := 12 } := by
      have := (nOf_le { x with cr := 12 }).1
      have e3 : ({ x with cr := 12 } : CS).S.D.length = 0 := by show x.S.D.length = 0; rw [hD]; rfl
      rw [e3] at this
      omega
    by_cases c : x.wc = true ∧ x.fs = false
    · right
      have e4 : pumpF { x with cr := 12 } = (armF { x with fs := true, cr := 11 }, [mkF { x with cr := 12 } 6 (nxtS x.S) []]) := by
        unfold pumpF
        rw [if_pos (show ({ x with cr := 12 } : CS).st = 3 from hx)]
        unfold pump1
        rw [if_neg hn]
        unfold pump2
        rw [if_pos ⟨c.1, c.2, by show (0 : Int) < 12; decide, by show x.S.D.length = x.S.sent; rw [hD, hs]; rfl⟩]
        rfl
      rw [e4] at k ⊢
      refine ⟨(arm_pos (C := { x with fs := true, cr := 11 }) h.rt h.tm).1, _, List.mem_singleton.2 rfl, by rw [k.una]; exact hnx, .inr ⟨rfl, rfl, by rw [k.D]; exact hD, ?_, ?_⟩⟩
      · show (armF _).fs = true
        unfold armF
        split <;> rfl
      · rw [k.fa]
        cases q : x.fa with
        | false => rfl
        | true => have := (h.openn hx).1 q; rw [c.2] at this; cases this
    · left
      unfold Go.Proofs.Qxb6500424aGreat.rem
      rw [hD, if_neg ?_]
      · rfl
      · rintro ⟨q1, q2⟩
        cases q : x.fs with
        | false => exact c ⟨q1, q⟩
        | true => exact hfa ⟨q, q2⟩
  · right
    have hl : 0 < x.S.D.length := by
      cases q : x.S.D with
      | nil => exact absurd q hD
      | cons a l => simp
    have hn : 0 < nOf { x with cr := 12 } := by
      unfold nOf room
      show 0 < min (min (min ((x.S.D.length : Int) - (x.S.sent : Int)) ((if x.pw = 0 then 1 else x.pw) - (x.S.sent : Int))) 12) 12
      rw [hs]
      split <;> omega
    have e4 : (mkF { x with cr := 12 } 2 (nxtS x.S) ((x.S.D.drop x.S.sent).take (nOf { x with cr := 12 }).toNat)) ∈ (pumpF { x with cr := 12 }).2 := by
      unfold pumpF
      rw [if_pos (show ({ x with cr := 12 } : CS).st = 3 from hx)]
      refine List.mem_append.2 (.inl ?_)
      unfold pump1
      rw [if_pos hn]
      exact List.mem_singleton.2 rfl
    have etm : 0 < (pumpF { x with cr := 12 }).1.tm := by
      have hz : ({ x with cr := 12 } : CS).st = 3 := hx
      have e5 : (pumpF { x with cr := 12 }).1 = (pump2 (pump1 { x with cr := 12 }).1).1 := by
        unfold pumpF
        rw [if_pos hz]
      have e6 : 0 < (pump1 { x with cr := 12 }).1.tm := by
        unfold pump1
        rw [if_pos hn]
        exact (arm_pos (C := { x with S := nextA (nOf { x with cr := 12 }) x.S, cr := 12 - nOf { x with cr := 12 } }) h.rt h.tm).1
      have e7 : Go.Proofs.Qxb6500424aGreat.rem (pump2 (pump1 { x with cr := 12 }).1).1 = Go.Proofs.Qxb6500424aGreat.rem (pump1 { x with cr := 12 }).1 := by
        unfold pump2
        split
        · unfold armF
          split <;> rfl
        · rfl
      rw [e5, ((pump2_mo _).same e7).2.2.2.2 e6]
      exact e6
    refine ⟨etm, _, e4, by rw [k.una]; exact hnx, .inl ⟨rfl, ?_, by rw [k.D]; exact hl⟩⟩
    show 0 < ((x.S.D.drop x.S.sent).take (nOf { x with cr := 12 }).toNat).length
    rw [List.length_take, List.length_drop, hs]
    omega
end
end Go.Proofs.Qxb6500424aGreat
