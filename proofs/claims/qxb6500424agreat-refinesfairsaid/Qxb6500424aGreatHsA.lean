/-
  host: the work: one connection block, plain: what is left to be acknowledged, and how it falls.
-/
import Derived.Test.Qxb6500424aGreatHpJ
set_option linter.unusedVariables false
set_option linter.unusedSimpArgs false
namespace Go.Proofs.Qxb6500424aGreat
/-- What the peer has yet to acknowledge, or we to send. -/
def rem (x : CS) : Nat := x.S.D.length + (if x.wc = true ∧ x.fa = false then 1 else 0)
/-- The timer has just been stopped or armed anew. -/
def PG (x : CS) : Prop := x.rt = 0 ∧ (x.tm = 0 ∨ x.tm = 2)
structure Mo (x x' : CS) : Prop where
  le : rem x' ≤ rem x
  same : rem x' = rem x → x'.S.una = x.S.una ∧ x'.S.D = x.S.D ∧ x.S.sent ≤ x'.S.sent ∧ x'.fa = x.fa ∧ (0 < x.tm → x'.tm = x.tm)
  rt : x'.rt = x.rt ∨ x'.rt = 0
  pg : PG x → PG x'
  new : rem x' < rem x → PG x'
  A : x.B.A.length ≤ x'.B.A.length
  pf : x.pf = true → x'.pf = true
  wc : x'.wc = x.wc
  fs : x.fs = true → x'.fs = true
  en : (x'.S.una + (x'.S.D.length : Int)) % 256 = (x.S.una + (x.S.D.length : Int)) % 256
theorem pump_st (x : CS) : (pumpF x).1.st = x.st := by
  have p1 : ∀ y : CS, (pump1 y).1.st = y.st := fun y => by unfold pump1; split; rw [armF_eq]; rfl
  have p2 : ∀ y : CS, (pump2 y).1.st = y.st := fun y => by unfold pump2; split; rw [armF_eq]; rfl
  unfold pumpF
  split
  · show (pump2 (pump1 x).1).1.st = x.st
    rw [p2, p1]
  · rfl
section
variable {x x' x'' : CS}
theorem Mo.refl (x : CS) : Mo x x := ⟨Nat.le_refl _, fun _ => ⟨rfl, rfl, Nat.le_refl _, rfl, fun _ => rfl⟩, .inl rfl, id, fun h => by omega, Nat.le_refl _, id, rfl, id, rfl⟩
theorem Mo.trans (h : Mo x x') (h' : Mo x' x'') : Mo x x'' := by
  refine ⟨Nat.le_trans h'.le h.le, fun e => ?_, ?_, fun p => h'.pg (h.pg p), fun l => ?_, Nat.le_trans h.A h'.A, fun p => h'.pf (h.pf p), by rw [h'.wc, h.wc], fun p => h'.fs (h.fs p), by rw [h'.en, h.en]⟩
  · have l1 := h.le
    have l2 := h'.le
    obtain ⟨a1, a2, a3, a4, a5⟩ := h.same (by omega)
    obtain ⟨b1, b2, b3, b4, b5⟩ := h'.same (by omega)
    refine ⟨by rw [b1, a1], by rw [b2, a2], by omega, by rw [b4, a4], fun q => ?_⟩
    have q1 := a5 q
    rw [b5 (by omega), q1]
  · rcases h'.rt with q | q
    · rw [q]; exact h.rt
    · exact .inr q
  · by_cases c : rem x' < rem x
    · exact h'.pg (h.new c)
    · exact h'.new (by have := h.le; omega)
theorem arm_mo (x : CS) : Mo x (armF x) := by
  unfold armF
  split
  · rename_i h
    refine ⟨Nat.le_refl _, fun _ => ⟨rfl, rfl, Nat.le_refl _, rfl, fun q => by omega⟩, .inl rfl, fun p => ⟨p.1, .inr ?_⟩, fun q => ?_, Nat.le_refl _, id, rfl, id, rfl⟩
    · show (2 : Int) * 2 ^ x.rt.toNat = 2
      rw [p.1]; rfl
    · exact absurd q (Nat.lt_irrefl _)
  · exact Mo.refl x
theorem pump1_mo (x : CS) : Mo x (pump1 x).1 := by
  unfold pump1
  split
  · refine Mo.trans ?_ (arm_mo _)
    exact ⟨Nat.le_refl _, fun _ => ⟨rfl, rfl, by show x.S.sent ≤ x.S.sent + _; omega, rfl, fun _ => rfl⟩, .inl rfl, fun p => p, fun q => absurd q (Nat.lt_irrefl _), Nat.le_refl _, id, rfl, id, rfl⟩
  · exact Mo.refl x
theorem pump2_mo (x : CS) : Mo x (pump2 x).1 := by
  unfold pump2
  split
  · refine Mo.trans ?_ (arm_mo _)
    exact ⟨Nat.le_refl _, fun _ => ⟨rfl, rfl, Nat.le_refl _, rfl, fun _ => rfl⟩, .inl rfl, fun p => p, fun q => absurd q (Nat.lt_irrefl _), Nat.le_refl _, id, rfl, fun _ => rfl, rfl⟩
  · exact Mo.refl x
theorem pump_mo (x : CS) : Mo x (pumpF x).1 := by
  unfold pumpF
  split
  · exact (pump1_mo x).trans (pump2_mo _)
  · exact Mo.refl x
theorem drain_A : ∀ (f : Nat) (S : RbS), S.A.length ≤ (drainN f S).2.A.length
  | 0, S => Nat.le_refl _
  | f + 1, S => by
    unfold drainN
    cases h : S.hv 0 with
    | none => exact Nat.le_refl _
    | some v =>
      have := drain_A f ⟨(S.nxt + 1) % 256, S.A ++ [v], fun d => S.hv (d + 1)⟩
      simp at this
      simp only
      omega
theorem ins_A (seq : Int) (P : List Int) (S : RbS) : S.A.length ≤ (insA seq P S).2.A.length := drain_A 17 (insS seq P S)
/-- The byte that is wanted is taken, if there is room. -/
theorem ins_adv {seq : Int} {P : List Int} {S : RbS} (hs : sqDiff seq S.nxt = 0) (hP : 0 < P.length) (hA : S.A.length < 16) : S.A.length < (insA seq P S).2.A.length := by
  unfold insA
  obtain ⟨v, hv⟩ : ∃ v, (insS seq P S).hv 0 = some v := by
    show ∃ v, insH S.hv (sqDiff seq S.nxt) (16 - S.A.length) P P.length 0 = some v
    unfold insH
    rw [hs]
    split
    · rename_i h
      exact Option.isSome_iff_exists.1 h
    · rw [if_pos ⟨by omega, by simp, by simp; omega⟩]
      exact ⟨P[0], List.getElem?_eq_getElem hP⟩
  show _ < (drainN (16 + 1) (insS seq P S)).2.A.length
  unfold drainN
  rw [hv]
  have := drain_A 16 ⟨((insS seq P S).nxt + 1) % 256, (insS seq P S).A ++ [v], fun d => (insS seq P S).hv (d + 1)⟩
  simp at this
  simp only
  have e : (insS seq P S).A = S.A := rfl
  rw [e] at this ⊢
  omega
theorem take_mo (sq f : Int) (D : List Int) (x : CS) : Mo x (takeF sq f D x) := by
  have key : ∀ (b : Bool), Mo x { x with B := (insA sq D x.B).2, pf := x.pf || b } := fun b =>
    ⟨Nat.le_refl _, fun _ => ⟨rfl, rfl, Nat.le_refl _, rfl, fun _ => rfl⟩, .inl rfl, fun p => p, fun q => absurd q (Nat.lt_irrefl _), ins_A sq D x.B, fun q => by show (x.pf || b) = true; rw [q]; rfl, rfl, id, rfl⟩
  unfold takeF
  split
  · exact Mo.refl x
  · rename_i hp
    have hpf : x.pf = false := by cases e : x.pf with | true => exact absurd e hp | false => rfl
    split
    · have := key false
      rw [hpf] at this
      have e : ({ x with B := (insA sq D x.B).2, pf := false || false } : CS) = { x with B := (insA sq D x.B).2 } := by rw [← hpf]; simp [hpf]
      rw [e] at this
      exact this
    · split
      · have := key true
        rw [hpf] at this
        exact this
      · have := key false
        rw [hpf] at this
        have e : ({ x with B := (insA sq D x.B).2, pf := false || false } : CS) = { x with B := (insA sq D x.B).2 } := by rw [← hpf]; simp [hpf]
        rw [e] at this
        exact this
theorem rem_ack {ak wn : Int} (h : CsW x) (h3 : x.st = 3) (hd : 0 < ackD ak x) (hf : ackD ak x ≤ flying x) :
    rem (ackC ak wn x) < rem x ∧ ((rem x : Int) ≤ ackD ak x → rem (ackC ak wn x) = 0) := by
  obtain ⟨k, hk, hk1, hk2, hk3⟩ := ackK_bd h hd
  obtain ⟨f1, f2⟩ := acked_fly h h3 hd hf
  have hS : (ackA (sqAdd x.S.una (ackK ak x)) x.S).2 = ⟨(x.S.una + (k : Int)) % 256, x.S.D.drop k, x.S.sent - k⟩ := by rw [hk]; exact ackA_eq h.S hk1
  obtain ⟨o1, o2, o3, o4⟩ := h.openn h3
  have hl := h.sent
  have eD : (ackC ak wn x).S.D = x.S.D.drop k := by show (ackA (sqAdd x.S.una (ackK ak x)) x.S).2.D = _; rw [hS]
  have ew : (ackC ak wn x).wc = x.wc := rfl
  have ef : (ackC ak wn x).fa = if (x.S.sent : Int) < ackD ak x then true else x.fa := rfl
  unfold rem
  rw [eD, ew, ef, List.length_drop, f1]
  by_cases c : (x.S.sent : Int) < ackD ak x
  · obtain ⟨q1, q2⟩ := f2 c
    have hw := o2 q1
    have hlen := o3 q1
    have := hk2 c
    rw [if_pos c, if_neg (by simp), if_pos ⟨hw, rfl⟩]
    omega
  · have := hk3 c
    rw [if_neg c]
    split <;> omega
theorem acked_mo {ak wn : Int} (h : CsW x) (h3 : x.st = 3) : Mo x (ackedF ak wn x).2 ∧ ((ackedF ak wn x).1 = true → ackD ak x < 0 → (ackedF ak wn x).2 = x) ∧ ((ackedF ak wn x).1 = true → 0 < ackD ak x → rem (ackedF ak wn x).2 < rem x ∧ ((rem x : Int) ≤ ackD ak x → rem (ackedF ak wn x).2 = 0)) := by
  unfold ackedF
  split
  · exact ⟨Mo.refl x, fun q => (by cases q), fun q => (by cases q)⟩
  split
  · exact ⟨Mo.refl x, fun _ _ => rfl, fun _ q => by omega⟩
  split
  · exact ⟨⟨Nat.le_refl _, fun _ => ⟨rfl, rfl, Nat.le_refl _, rfl, fun _ => rfl⟩, .inr rfl, fun p => ⟨rfl, p.2⟩, fun q => absurd q (Nat.lt_irrefl _), Nat.le_refl _, id, rfl, id, rfl⟩, fun _ q => by omega, fun _ q => by omega⟩
  rename_i c1 c2 c3
  have hd : 0 < ackD ak x := by omega
  obtain ⟨r1, r2⟩ := rem_ack (wn := wn) h h3 hd (by omega)
  have ea : rem (armF (ackC ak wn x)) = rem (ackC ak wn x) := by unfold armF; split <;> rfl
  have e : rem (if 0 < flying (ackC ak wn x) then armF (ackC ak wn x) else ackC ak wn x) = rem (ackC ak wn x) := by
    split
    · exact ea
    · rfl
  have hpg : PG (if 0 < flying (ackC ak wn x) then armF (ackC ak wn x) else ackC ak wn x) := by
    split
    · exact (arm_mo _).pg ⟨rfl, .inl rfl⟩
    · exact ⟨rfl, .inl rfl⟩
  refine ⟨⟨by rw [e]; omega, fun q => ?_, .inr ?_, fun _ => hpg, fun _ => hpg, ?_, ?_, ?_, ?_, ?_⟩, fun _ q => by omega, fun _ _ => ⟨by rw [e]; exact r1, fun q => by rw [e]; exact r2 q⟩⟩
  · rw [e] at q; omega
  · exact hpg.1
  rotate_right
  · obtain ⟨k, hk, hk1, _, _⟩ := ackK_bd h hd
    have hS : (ackA (sqAdd x.S.una (ackK ak x)) x.S).2 = ⟨(x.S.una + (k : Int)) % 256, x.S.D.drop k, x.S.sent - k⟩ := by rw [hk]; exact ackA_eq h.S hk1
    have hl := h.sent
    have eS : (if 0 < flying (ackC ak wn x) then armF (ackC ak wn x) else ackC ak wn x).S = (ackA (sqAdd x.S.una (ackK ak x)) x.S).2 := by
      split
      · unfold armF
        split <;> rfl
      · rfl
    show ((if 0 < flying (ackC ak wn x) then armF (ackC ak wn x) else ackC ak wn x).S.una + ((if 0 < flying (ackC ak wn x) then armF (ackC ak wn x) else ackC ak wn x).S.D.length : Int)) % 256 = _
    rw [eS, hS]
    show ((x.S.una + (k : Int)) % 256 + ((x.S.D.drop k).length : Int)) % 256 = _
    rw [List.length_drop]
    omega
  all_goals
    show _
    split
    · unfold armF
      split <;> first | exact Nat.le_refl _ | exact id | rfl
    · first | exact Nat.le_refl _ | exact id | rfl
/-- An open block that stays open. -/
structure OpenIn (s : SegV) (x x' : CS) : Prop where
  mo : Mo x x'
  st : x'.st = 3
theorem goon_mo {sq f : Int} {D : List Int} (h3 : (goonF sq f D x).1.st = 3) (hx : x.st = 3) : Mo x (goonF sq f D x).1 := by
  have key : ∀ y : CS, y.st = 3 → (endF y).st = 3 → endF y = y := fun y hy he => by
    unfold endF at he ⊢
    split
    · rename_i q
      rw [if_pos q] at he
      exact absurd he (by show ¬ (4 : Int) = 3; decide)
    · rfl
  have tk : (takeF sq f D x).st = 3 := by
    unfold takeF
    repeat' split
    all_goals exact hx
  unfold goonF at h3 ⊢
  split
  · rename_i q
    rw [if_pos q] at h3
    rw [key _ (by rw [pump_st]; exact tk) h3]
    exact (take_mo sq f D x).trans (pump_mo _)
  · rename_i q
    rw [if_neg q] at h3
    rw [key _ (by rw [pump_st]; exact hx) h3]
    exact pump_mo x
theorem input_mo {s : SegV} (h : CsOk x) (hx : x.st = 3) (h3 : (inputF s.1 s.2 x).1.st = 3) : Mo x (inputF s.1 s.2 x).1 := by
  have e : inputF s.1 s.2 x = syncF (sqAdd s.1.sq 0) (sqAdd s.1.ak 0) (fAnd s.1.fl 15) s.1.wn s.2 x := by
    unfold inputF
    rw [if_neg (by omega), if_neg (by omega), if_pos (.inr hx)]
  rw [e] at h3 ⊢
  unfold syncF at h3 ⊢
  split
  · split
    · rename_i q1 q2
      rw [if_pos q1, if_pos q2] at h3
      exact absurd h3 (by show ¬ (4 : Int) = 3; decide)
    · exact Mo.refl x
  rename_i n1
  rw [if_neg n1] at h3
  split
  · split <;> exact Mo.refl x
  rename_i n2
  rw [if_neg n2] at h3
  split
  · exact Mo.refl x
  rename_i n3
  rw [if_neg n3, if_neg (by omega)] at h3
  rw [if_neg (by omega)]
  unfold openF at h3 ⊢
  have hw := ackedF_w (ak := sqAdd s.1.ak 0) (wn := s.1.wn) h.toCsW hx
  split
  · rename_i q
    rw [if_pos q] at h3
    exact (acked_mo h.toCsW hx).1.trans (goon_mo h3 hw.2)
  · exact Mo.refl x
end
end Go.Proofs.Qxb6500424aGreat
