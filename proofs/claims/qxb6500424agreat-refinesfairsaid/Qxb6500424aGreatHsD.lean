/-
  host: the work: what a block puts out.
-/
import Derived.Test.Qxb6500424aGreatHsC
set_option linter.unusedVariables false
set_option linter.unusedSimpArgs false
namespace Go.Proofs.Qxb6500424aGreat
/-- Within the codec's ranges. -/
structure Rng (s : SegV) : Prop where
  sq : 0 ≤ s.1.sq ∧ s.1.sq < 256
  ak : 0 ≤ s.1.ak ∧ s.1.ak < 256
  wn : 0 ≤ s.1.wn ∧ s.1.wn < 256
  fl : 0 ≤ s.1.fl ∧ s.1.fl < 16
  n : s.2.length ≤ 12
def Flg (s : SegV) : Prop := s.1.fl = 1 ∨ s.1.fl = 3 ∨ s.1.fl = 8 ∨ s.1.fl = 10 ∨ AckT s
section
variable {x x' y z : CS} {s s' : SegV}
theorem rcv_rng (h : CsW z) : 0 ≤ rcvNxt z ∧ rcvNxt z < 256 := by
  have := h.B.nxt
  unfold rcvNxt
  split
  · exact sqAdd_bd _ _
  · exact this
theorem rng_mk {fl seq : Int} {D : List Int} (h : CsW z) (hs : 0 ≤ seq ∧ seq < 256) (hf : 0 ≤ fl ∧ fl < 16) (hD : D.length ≤ 12) : Rng (mkF z fl seq D) := by
  have hA := h.B.len
  have hr := rcv_rng h
  refine ⟨hs, ?_, ?_, hf, hD⟩
  · show 0 ≤ (if (fAnd fl 2 != 0) = true then rcvNxt z else 0) ∧ (if (fAnd fl 2 != 0) = true then rcvNxt z else 0) < 256
    split
    · exact hr
    · decide
  · show 0 ≤ 16 - (z.B.A.length : Int) ∧ 16 - (z.B.A.length : Int) < 256
    omega
theorem rng_ack (h : CsW z) : Rng (ackF z) := rng_mk h (sqAdd_bd _ _) (by decide) (by simp)
theorem nxtS_bd (S : SbS) : 0 ≤ nxtS S ∧ nxtS S < 256 := by unfold nxtS; omega
theorem pump_outs (h : CsW z) : ∀ s ∈ (pumpF z).2, Rng s ∧ AckT s ∧ s.1.ak = rcvNxt z := fun s hs => by
  unfold pumpF at hs
  split at hs
  · rename_i h3
    rcases List.mem_append.1 hs with q | q
    · unfold pump1 at q
      split at q
      · rename_i hn
        rw [List.mem_singleton.1 q]
        refine ⟨rng_mk h (nxtS_bd _) (by decide) ?_, .inl rfl, ?_⟩
        · have := (nOf_le z).2.2.1
          rw [List.length_take]
          omega
        · show (if (fAnd 2 2 != 0) = true then rcvNxt z else 0) = _
          rw [if_pos fa2]
      · cases q
    · have w := pump1_w h h3
      have eB : (pump1 z).1.B = z.B ∧ (pump1 z).1.pf = z.pf := by
        refine ⟨?_, w.2.2.1⟩
        unfold pump1
        split
        · unfold armF
          split <;> rfl
        · rfl
      unfold pump2 at q
      split at q
      · rw [List.mem_singleton.1 q]
        refine ⟨rng_mk w.1 (nxtS_bd _) (by decide) (by simp), .inr rfl, ?_⟩
        show (if (fAnd 6 2 != 0) = true then rcvNxt (pump1 z).1 else 0) = _
        rw [if_pos (by decide)]
        unfold rcvNxt
        rw [eB.1, eB.2]
      · cases q
  · cases hs
theorem ack_ak (z : CS) : (ackF z).1.ak = rcvNxt z := by
  show (if (fAnd 2 2 != 0) = true then rcvNxt z else 0) = _
  rw [if_pos fa2]
theorem goon_outs {sq f : Int} {D : List Int} (h : CsW z) (h3 : z.st = 3) (hD : IsB D) : ∀ s ∈ (goonF sq f D z).2, Rng s ∧ AckT s ∧ (s.1.ak = rcvNxt (takeF sq f D z) ∨ s.1.ak = rcvNxt z) := fun s hs => by
  unfold goonF at hs
  split at hs
  · have w := takeF_w (sq := sq) (f := f) h h3 hD
    rcases List.mem_cons.1 hs with q | q
    · rw [q]
      exact ⟨rng_ack w.1, .inl rfl, .inl (ack_ak _)⟩
    · obtain ⟨a, b, c⟩ := pump_outs w.1 s q
      exact ⟨a, b, .inl c⟩
  · obtain ⟨a, b, c⟩ := pump_outs h s hs
    exact ⟨a, b, .inr c⟩
theorem open_outs {ak wn sq f : Int} {D : List Int} (h : CsW z) (h3 : z.st = 3) (hD : IsB D) : ∀ s ∈ (openF ak wn sq f D z).2, Rng s ∧ AckT s ∧ (z.pf = true → s.1.ak = rcvNxt z) := fun s hs => by
  unfold openF at hs
  split at hs
  · have w := ackedF_w (ak := ak) (wn := wn) h h3
    obtain ⟨b1, b2⟩ := acked_B ak wn z
    obtain ⟨a, b, c⟩ := goon_outs w.1 w.2 hD s hs
    refine ⟨a, b, fun q => ?_⟩
    have e1 : rcvNxt (ackedF ak wn z).2 = rcvNxt z := by unfold rcvNxt; rw [b1, b2]
    have e2 : takeF sq f D (ackedF ak wn z).2 = (ackedF ak wn z).2 := by unfold takeF; rw [if_pos (by rw [b2]; exact q)]
    rw [e2, e1] at c
    rcases c with c | c <;> exact c
  · rw [List.mem_singleton.1 hs]
    exact ⟨rng_ack h, .inl rfl, fun _ => ack_ak z⟩
theorem fl_rst (n : Int) : ¬ AckT (rstF n) := fun q => by rcases q with q | q <;> cases q
/-- Every acknowledgement that a block answers by. -/
theorem in_outs (h : CsOk x) (hf : Flg s) (hD' : AckT s → IsB s.2) : ∀ s' ∈ (inputF s.1 s.2 x).2, AckT s' → Rng s' ∧ ((inputF s.1 s.2 x).1.st = 3 ∨ ((inputF s.1 s.2 x).1.st = 4 ∧ (inputF s.1 s.2 x).1.why = 0)) ∧ ((x.st = 3 ∨ x.st = 4) → x.pf = true → s'.1.ak = rcvNxt x) := fun s' hs ha => by
  have hst := h.st
  unfold inputF at hs ⊢
  by_cases c4 : x.st = 4
  · rw [if_pos c4] at hs ⊢
    unfold quietF at hs ⊢
    split at hs
    · rename_i q
      rw [if_pos q]
      rw [List.mem_singleton.1 hs]
      exact ⟨rng_ack h.toCsW, .inr ⟨c4, q.1⟩, fun _ _ => ack_ak x⟩
    · cases hs
  rw [if_neg c4] at hs ⊢
  by_cases c1 : x.st = 1
  · rw [if_pos c1] at hs ⊢
    have hok := synSentF_ok (sq := sqAdd s.1.sq 0) (ak := sqAdd s.1.ak 0) (f := fAnd s.1.fl 15) (wn := s.1.wn) h c1
    unfold synSentF at hs hok ⊢
    split at hs
    · split at hs
      · cases hs
      · rw [List.mem_singleton.1 hs] at ha
        exact absurd ha (fl_rst _)
    rename_i n1
    rw [if_neg n1] at hok ⊢
    split at hs
    · split at hs <;> cases hs
    rename_i n2
    rw [if_neg n2] at hok ⊢
    split at hs
    · cases hs
    rename_i n3
    rw [if_neg n3] at hok ⊢
    rw [List.mem_singleton.1 hs]
    exact ⟨rng_ack hok.toCsW, .inl rfl, fun q => by omega⟩
  rw [if_neg c1] at hs ⊢
  split at hs
  · rename_i c23
    rw [if_pos c23]
    unfold syncF at hs ⊢
    split at hs
    · split at hs <;> cases hs
    rename_i n1
    rw [if_neg n1]
    split at hs
    · rename_i q2
      rw [if_pos q2]
      split at hs
      · rename_i c2
        rw [List.mem_singleton.1 hs] at ha
        exfalso
        rw [again2 c2] at ha
        rcases ha with q | q <;> cases q
      · rename_i c2
        rw [if_neg c2]
        rw [List.mem_singleton.1 hs]
        exact ⟨rng_ack h.toCsW, .inl (by show x.st = 3; omega), fun _ _ => ack_ak x⟩
    rename_i n2
    rw [if_neg n2]
    split at hs
    · cases hs
    rename_i n3
    rw [if_neg n3]
    have hD : IsB s.2 := by
      refine hD' ?_
      rcases hf with q | q | q | q | q
      · exfalso; rw [q] at n2; exact n2 (by decide)
      · exfalso; rw [q] at n2; exact n2 (by decide)
      · exfalso; rw [q] at n1; exact n1 (by decide)
      · exfalso; rw [q] at n1; exact n1 (by decide)
      · exact q
    have last : ∀ z : CS, CsOk z → z.st = 3 → z.why = 0 → ((openF (sqAdd s.1.ak 0) s.1.wn (sqAdd s.1.sq 0) (fAnd s.1.fl 15) s.2 z).1.st = 3 ∨ ((openF (sqAdd s.1.ak 0) s.1.wn (sqAdd s.1.sq 0) (fAnd s.1.fl 15) s.2 z).1.st = 4 ∧ (openF (sqAdd s.1.ak 0) s.1.wn (sqAdd s.1.sq 0) (fAnd s.1.fl 15) s.2 z).1.why = 0)) := fun z hz h3 hw => by
      rw [why_open, hw]
      have en : ∀ v : CS, v.st = 3 → (endF v).st = 3 ∨ (endF v).st = 4 := fun v hv => by unfold endF; split; exact .inr rfl; exact .inl hv
      have w := ackedF_w (ak := sqAdd s.1.ak 0) (wn := s.1.wn) hz.toCsW h3
      unfold openF
      split
      · unfold goonF
        split
        · exact (en _ (by rw [pump_st, (take_st _ _ _ _).1]; exact w.2)).elim .inl (fun q => .inr ⟨q, rfl⟩)
        · exact (en _ (by rw [pump_st]; exact w.2)).elim .inl (fun q => .inr ⟨q, rfl⟩)
      · exact .inl h3
    split at hs
    · rename_i c2
      rw [if_pos c2]
      split at hs
      · rw [List.mem_singleton.1 hs] at ha
        exact absurd ha (fl_rst _)
      · rename_i na
        rw [if_neg na]
        have ok := opened0_ok h (.inr c2)
        obtain ⟨a, b, c⟩ := open_outs ok.toCsW rfl hD s' hs
        exact ⟨a, last _ ok rfl (by show x.why = 0; exact (h.live (.inr (.inl c2))).1), fun q => by omega⟩
    · rename_i c2
      rw [if_neg c2]
      have c3 : x.st = 3 := by omega
      obtain ⟨a, b, c⟩ := open_outs h.toCsW c3 hD s' hs
      exact ⟨a, last _ h c3 (h.live (.inr (.inr c3))).1, fun _ q => c q⟩
  · cases hs
/-- Every acknowledgement that a tick puts out. -/
theorem tick_outs (h : CsOk x) : ∀ s' ∈ (tickF x).2, AckT s' → Rng s' ∧ x.st = 3 ∧ (tickF x).1.st = 3 ∧ s'.1.ak = rcvNxt x := fun s' hs ha => by
  have hst := h.st
  have hrt := h.rt
  have htm := h.tm
  have core : ∀ (t r : Int), CsOk { x with cr := 12, tm := t, rt := r } → ∀ s ∈ (pumpF { x with cr := 12, tm := t, rt := r }).2, Rng s ∧ s.1.ak = rcvNxt x ∧ x.st = 3 := fun t r hok s hs => by
    obtain ⟨a, b, c⟩ := pump_outs hok.toCsW s hs
    refine ⟨a, c, ?_⟩
    unfold pumpF at hs
    split at hs
    · rename_i q; exact q
    · cases hs
  unfold tickF at hs ⊢
  split at hs
  · cases hs
  rename_i n0
  rw [if_neg n0]
  split at hs
  · cases hs
  rename_i n4
  rw [if_neg n4]
  have hl : x.st = 1 ∨ x.st = 2 ∨ x.st = 3 := by omega
  obtain ⟨_, _, hfl⟩ := h.live hl
  split at hs
  · rename_i q0
    rw [if_pos q0]
    split at hs
    · rename_i q1
      rw [if_pos q1]
      split at hs
      · cases hs
      · rename_i n3
        rw [if_neg n3]
        have hr : 0 ≤ x.rt + 1 ∧ x.rt + 1 ≤ 3 := by omega
        have ea : armF { x with cr := 12, tm := x.tm - 1, rt := x.rt + 1 } = { x with cr := 12, tm := 2 * 2 ^ (x.rt + 1).toNat, rt := x.rt + 1 } := by
          unfold armF
          rw [if_pos (by show x.tm - 1 = 0; omega)]
        have hb := arm_tm (C := { x with rt := x.rt + 1 }) hr
        have hb1 : 2 ≤ (2 : Int) * 2 ^ (x.rt + 1).toNat := hb.1
        have hb2 : (2 : Int) * 2 ^ (x.rt + 1).toNat ≤ 16 := hb.2
        have hok : CsOk { x with cr := 12, tm := 2 * 2 ^ (x.rt + 1).toNat, rt := x.rt + 1 } := live_ok h hl (by decide) (by omega) hr ⟨fun _ => by omega, fun _ => hfl.2 q0⟩
        rw [ea] at hs ⊢
        rcases List.mem_cons.1 hs with q | q
        · have c3 : x.st = 3 := by
            apply Classical.byContradiction
            intro hn
            rw [q] at ha
            rcases hl with z | z | z
            · rw [again1 (show ({ x with cr := 12, tm := 2 * 2 ^ (x.rt + 1).toNat, rt := x.rt + 1 } : CS).st = 1 from z)] at ha
              rcases ha with w | w <;> cases w
            · rw [again2 (show ({ x with cr := 12, tm := 2 * 2 ^ (x.rt + 1).toNat, rt := x.rt + 1 } : CS).st = 2 from z)] at ha
              rcases ha with w | w <;> cases w
            · exact hn z
          refine ⟨?_, c3, by show (pumpF _).1.st = 3; rw [pump_st]; exact c3, ?_⟩
          · rw [q]
            have hu := h.S.una
            unfold againF
            rw [if_neg (by show ¬ x.st = 1; omega), if_neg (by show ¬ x.st = 2; omega)]
            split
            · refine rng_mk hok.toCsW hu (by decide) ?_
              show (x.S.D.take (leastN 12 x.S.sent)).length ≤ 12
              rw [List.length_take]
              unfold leastN
              omega
            · exact rng_mk hok.toCsW hu (by decide) (by simp)
          · rw [q]
            unfold againF
            rw [if_neg (by show ¬ x.st = 1; omega), if_neg (by show ¬ x.st = 2; omega)]
            split
            · show (if (fAnd 2 2 != 0) = true then _ else (0 : Int)) = _
              rw [if_pos fa2]
              rfl
            · show (if (fAnd 6 2 != 0) = true then _ else (0 : Int)) = _
              rw [if_pos (by decide)]
              rfl
        · obtain ⟨a, b, c⟩ := core _ _ hok s' q
          exact ⟨a, c, by show (pumpF _).1.st = 3; rw [pump_st]; exact c, b⟩
    · rename_i n1
      rw [if_neg n1]
      have hok : CsOk { x with cr := 12, tm := x.tm - 1, rt := x.rt } := live_ok h hl (by decide) (by omega) hrt ⟨fun _ => (by omega), fun _ => hfl.2 q0⟩
      obtain ⟨a, b, c⟩ := core _ _ hok s' hs
      exact ⟨a, c, by rw [pump_st]; exact c, b⟩
  · rename_i nq0
    rw [if_neg nq0]
    have hok : CsOk { x with cr := 12, tm := x.tm, rt := x.rt } := live_ok h hl (by decide) htm hrt hfl
    obtain ⟨a, b, c⟩ := core _ _ hok s' hs
    exact ⟨a, c, by rw [pump_st]; exact c, b⟩
/-- What makes a block see its peer's FIN. -/
theorem input_pf (hx : x.st = 3) (hf : Flg s) (hp : x.pf = false) (hp' : (inputF s.1 s.2 x).1.pf = true) : AckT s ∧ (0 < s.2.length ∨ s.1.fl = 6) ∧ (ackedF (sqAdd s.1.ak 0) s.1.wn x).1 = true := by
  have same : (inputF s.1 s.2 x).1 = x → False := fun e => by rw [e, hp] at hp'; cases hp'
  have syn : fAnd s.1.fl 15 = s.1.fl → fAnd s.1.fl 8 = 0 → fAnd s.1.fl 1 ≠ 0 → (inputF s.1 s.2 x).1 = x := fun a b c => by
    rw [sync3 hx, a]
    unfold syncF
    rw [if_neg (by rw [b]; simp), if_pos c, if_neg (by omega)]
  have rst : fAnd s.1.fl 15 = s.1.fl → fAnd s.1.fl 8 ≠ 0 → False := fun a b => by
    rw [sync3 hx, a] at hp'
    unfold syncF at hp'
    rw [if_pos b] at hp'
    split at hp'
    · cases hp'
    · rw [hp] at hp'; cases hp'
  rcases hf with q | q | q | q | q
  · exact (same (syn (by rw [q]; exact f1.1) (by rw [q]; exact f1.2.1) (by rw [q]; exact f1.2.2.1))).elim
  · exact (same (syn (by rw [q]; exact f3.1) (by rw [q]; exact f3.2.1) (by rw [q]; exact f3.2.2.1))).elim
  · exact (rst (by rw [q]; exact f8.1) (by rw [q]; exact f8.2.1)).elim
  · exact (rst (by rw [q]; exact f10.1) (by rw [q]; exact f10.2.1)).elim
  · rw [ack3 hx q] at hp'
    unfold openF at hp'
    split at hp'
    · rename_i ht
      refine ⟨q, ?_, ht⟩
      obtain ⟨b1, b2⟩ := acked_B (sqAdd s.1.ak 0) s.1.wn x
      have eE : ∀ z : CS, (endF z).pf = z.pf := fun z => by unfold endF; split <;> rfl
      unfold goonF at hp'
      split at hp'
      · rename_i c
        rcases c with c | c
        · exact .inl c
        · rcases q with q | q
          · rw [q] at c; exact absurd f2.2.2.2.2 c
          · exact .inr q
      · have e : (endF (pumpF (ackedF (sqAdd s.1.ak 0) s.1.wn x).2).1).pf = true := hp'
        rw [eE, (pump_B _).2.1, b2, hp] at e
        cases e
    · rw [hp] at hp'; cases hp'
end
end Go.Proofs.Qxb6500424aGreat
