/-
  conn: what always holds is kept by every call.
-/
import Derived.Test.Qxb6500424aGreatCnA
set_option linter.unusedVariables false
set_option linter.unusedSimpArgs false
open Go.Vc
namespace Go.Proofs.Qxb6500424aGreat
section
variable {C : CS}
theorem qt_ok {q : Int} (h : CsOk C) (h4 : C.st = 4) (hq : 0 ≤ q ∧ q ≤ 10) : CsOk { C with qt := q } := by
  refine ⟨⟨h.S, h.B, h.st, h.iss, h.pw, h.tm, h.rt, h.cr, hq, fun e => ?_, fun _ hw => ?_, fun _ hw => h.good h4 hw, fun e => ?_, fun e => ?_, fun e => ?_⟩, fun e => ?_, fun e => (by have : C.st = 1 := e; omega)⟩
  · have : C.st = 0 := e; omega
  · have e := h.bad h4 hw
    rw [e]
  · have : C.st = 1 ∨ C.st = 2 ∨ C.st = 3 := e; omega
  · have : C.st = 1 ∨ C.st = 2 := e; omega
  · have : C.st = 3 := e; omega
  · have : C.st = 3 := e; omega
theorem live_ok {c t r : Int} (h : CsOk C) (hl : C.st = 1 ∨ C.st = 2 ∨ C.st = 3) (hc : 0 ≤ c ∧ c ≤ 12) (ht : 0 ≤ t ∧ t ≤ 16) (hr : 0 ≤ r ∧ r ≤ 3) (hf : 0 < flying C ↔ 0 < t) : CsOk { C with cr := c, tm := t, rt := r } := by
  obtain ⟨l1, l2, l3⟩ := h.live hl
  refine ⟨⟨h.S, h.B, h.st, h.iss, h.pw, ht, hr, hc, h.qt, fun e => ?_, fun e => ?_, fun e => ?_, fun _ => ⟨l1, l2, hf⟩, h.opening, h.openn⟩, h.nofp, h.syn⟩
  · have : C.st = 0 := e; omega
  · have : C.st = 4 := e; omega
  · have : C.st = 4 := e; omega
theorem tickF_ok (h : CsOk C) : CsOk (tickF C).1 := by
  have hst := h.st
  have htm := h.tm
  have hrt := h.rt
  have hqt := h.qt
  unfold tickF
  by_cases h0 : C.st = 0
  · rw [if_pos h0]; exact h
  rw [if_neg h0]
  by_cases h4 : C.st = 4
  · rw [if_pos h4]
    show CsOk (if _ then C0 else _)
    split
    · exact C0_ok
    · exact qt_ok h h4 (by unfold dec1; split <;> omega)
  rw [if_neg h4]
  have hl : C.st = 1 ∨ C.st = 2 ∨ C.st = 3 := by omega
  obtain ⟨l1, l2, l3⟩ := h.live hl
  by_cases ht : 0 < C.tm
  · rw [if_pos ht]
    by_cases ht1 : C.tm - 1 = 0
    · rw [if_pos ht1]
      by_cases hr3 : C.rt = 3
      · rw [if_pos hr3]; exact failF_ok (by decide)
      · rw [if_neg hr3]
        refine pumpF_ok ?_
        rw [armF_eq]
        show CsOk { C with cr := 12, rt := C.rt + 1, tm := if C.tm - 1 = 0 then 2 * 2 ^ (C.rt + 1).toNat else C.tm - 1 }
        rw [if_pos ht1]
        have := arm_tm (C := { C with rt := C.rt + 1 }) (by show 0 ≤ C.rt + 1 ∧ C.rt + 1 ≤ 3; omega)
        have e : ({ C with rt := C.rt + 1 } : CS).rt.toNat = (C.rt + 1).toNat := rfl
        rw [e] at this
        have hx : 0 < flying C := l3.2 ht
        exact live_ok h hl (by omega) (by omega) (by omega) ⟨fun _ => by omega, fun _ => hx⟩
    · rw [if_neg ht1]
      exact pumpF_ok (live_ok (r := C.rt) h hl (by omega) (by omega) hrt ⟨fun _ => by omega, fun _ => l3.2 ht⟩)
  · rw [if_neg ht]
    exact pumpF_ok (live_ok (t := C.tm) (r := C.rt) h hl (by omega) htm hrt l3)
theorem sendF_ok {P : List Int} (h : CsOk C) (hP : IsB P) : CsOk (sendF P C).2.C := by
  have hst := h.st
  unfold sendF
  split
  · exact h
  split
  · exact h
  split
  · exact h
  split
  · exact h
  split
  · exact h
  rename_i h0 h1 h4 hw hd
  have h3 : C.st = 3 := by omega
  obtain ⟨o1, o2, o3, o4⟩ := h.openn h3
  obtain ⟨l1, l2, l3⟩ := h.live (by omega)
  have hfs : C.fs ≠ true := fun e => hw (o2 e)
  have hfa : C.fa ≠ true := fun e => hfs (o1 e)
  refine pumpF_ok ⟨⟨putA_ok h.S hP, h.B, h.st, h.iss, h.pw, h.tm, h.rt, h.cr, h.qt, fun e => ?_, fun e => ?_, fun e => ?_, fun _ => ⟨l1, l2, l3⟩, fun e => ?_, fun _ => ⟨fun e => absurd e hfa, fun e => absurd e hfs, fun e => absurd e hfs, fun e => absurd e hfa⟩⟩, h.nofp, h.syn⟩
  · have : C.st = 0 := e; omega
  · have : C.st = 4 := e; omega
  · have : C.st = 4 := e; omega
  · have : C.st = 1 ∨ C.st = 2 := e; omega
theorem setB_ok {B : RbS} (h : CsOk C) (hB : RbOk B) (h0 : C.st ≠ 0) (h1 : C.st ≠ 1) (hb : C.st = 4 → C.why = 0) : CsOk { C with B := B } := by
  refine ⟨⟨h.S, hB, h.st, h.iss, h.pw, h.tm, h.rt, h.cr, h.qt, fun e => absurd e h0, fun e hw => absurd (hb e) hw, h.good, h.live, h.opening, h.openn⟩, h.nofp, fun e => absurd e h1⟩
theorem recvF_ok {mx : Int} (h : CsOk C) : CsOk (recvF mx C).2.C := by
  unfold recvF
  split
  · exact h
  split
  · exact h
  split
  · split
    · exact h
    split
    · exact h
    · exact h
  rename_i h0 h1 hA
  refine setB_ok h (readA_ok h.B mx) h0 (fun e => hA (by rw [h.syn e]; rfl)) fun h4 => ?_
  rcases Decidable.em (C.why = 0) with e | e
  · exact e
  · have := h.bad h4 e
    rw [this] at hA
    exact absurd rfl hA
theorem closeF_ok (h : CsOk C) : CsOk (closeF C).C := by
  have hst := h.st
  unfold closeF
  split
  · exact h
  split
  · exact h
  split
  · exact failF_ok (by decide)
  split
  · exact h
  rename_i h0 h4 h1 hw
  refine pumpF_ok ⟨⟨h.S, h.B, h.st, h.iss, h.pw, h.tm, h.rt, h.cr, h.qt, fun e => absurd e h0, fun e => absurd e h4, fun e => absurd e h4, h.live, h.opening, fun e => ?_⟩, h.nofp, h.syn⟩
  obtain ⟨o1, o2, o3, o4⟩ := h.openn e
  exact ⟨o1, fun _ => rfl, o3, o4⟩
theorem abortF_ok (h : CsOk C) : CsOk (abortF C).C := by
  unfold abortF
  split
  · exact h
  split
  · split
    · exact failQ_ok (by decide) h.qt
    · exact h
  split
  · exact failF_ok (by decide)
  · exact failF_ok (by decide)
theorem begin_ok {st iss pw : Int} {B : RbS} (hs : st = 1 ∨ st = 2) (hy : st = 1 → B = resetR 0) (hB : RbOk B) (hp : 0 ≤ pw ∧ pw ≤ 255) : CsOk { beginF st iss with B := B, pw := pw } := by
  have hi := sqAdd_bd iss 0
  refine ⟨⟨resetS_ok _, hB, by show 0 ≤ st ∧ st ≤ 4; omega, hi, hp, by show (0 : Int) ≤ 2 ∧ (2 : Int) ≤ 16; omega, by show (0 : Int) ≤ 0 ∧ (0 : Int) ≤ 3; omega, by show (0 : Int) ≤ 11 ∧ (11 : Int) ≤ 12; omega, by show (0 : Int) ≤ 0 ∧ (0 : Int) ≤ 10; omega, fun e => ?_, fun e => ?_, fun e => ?_, fun _ => ⟨rfl, rfl, ?_⟩, fun _ => ⟨rfl, sqAdd_low hi, rfl, rfl, rfl⟩, fun e => ?_⟩, fun e => ?_, hy⟩
  · have : st = 0 := e; omega
  · have : st = 4 := e; omega
  · have : st = 4 := e; omega
  · have e : flying { beginF st iss with B := B, pw := pw } = 1 := by
      exact if_pos (show st = 1 ∨ st = 2 from hs)
    rw [e]
    exact ⟨fun _ => by show (0 : Int) < 2; omega, fun _ => by omega⟩
  · have : st = 3 := e; omega
  · have : st = 3 := e; omega
theorem windowF_bd (x : Int) : 0 ≤ windowF x ∧ windowF x ≤ 255 := by
  unfold windowF
  split
  · omega
  · split <;> omega
theorem openAF_ok {iss : Int} (h : CsOk C) : CsOk (openAF iss C).C := by
  unfold openAF
  split
  · exact h
  · exact begin_ok (B := resetR 0) (pw := 0) (.inl rfl) (fun _ => rfl) (resetR_ok 0) (by omega)
theorem openPF_ok {iss : Int} {hd : Hd} (h : CsOk C) : CsOk (openPF iss hd C).C := by
  unfold openPF
  split
  · exact h
  split
  · exact h
  · exact begin_ok (.inr rfl) (fun e => (by cases e)) (resetR_ok _) (windowF_bd _)
theorem opened_ok {B : RbS} {pw : Int} (h : CsOk C) (ho : C.st = 1 ∨ C.st = 2) (hB : RbOk B) (hp : 0 ≤ pw ∧ pw ≤ 255) : CsOk { openedF C with B := B, pw := pw } := by
  obtain ⟨o1, o2, o3, o4, o5⟩ := h.opening ho
  obtain ⟨l1, l2, l3⟩ := h.live (by omega)
  refine ⟨⟨resetS_ok _, hB, by show (0 : Int) ≤ 3 ∧ (3 : Int) ≤ 4; omega, h.iss, hp, by show (0 : Int) ≤ 0 ∧ (0 : Int) ≤ 16; omega, by show (0 : Int) ≤ 0 ∧ (0 : Int) ≤ 3; omega, h.cr, h.qt, fun e => (by cases e), fun e => (by cases e), fun e => (by cases e), fun _ => ⟨l1, l2, ?_⟩, fun e => (by rcases e with e | e <;> cases e), fun _ => ⟨fun e => ?_, fun e => ?_, fun e => ?_, fun e => ?_⟩⟩, fun _ e => ?_, fun e => (by cases e)⟩
  · have e : flying { openedF C with B := B, pw := pw } = 0 := by
      rw [fly3 rfl]
      show (if C.fs = true ∧ C.fa = false then _ else _) = (0 : Int)
      rw [if_neg (fun e => by rw [o3] at e; cases e.1)]
      rfl
    rw [e]
    exact ⟨fun e => by omega, fun e => e⟩
  · have : C.fa = true := e; rw [o4] at this; cases this
  · have : C.fs = true := e; rw [o3] at this; cases this
  · have : C.fs = true := e; rw [o3] at this; cases this
  · rfl
  · have : C.fa = true := e.1; rw [o4] at this; cases this
theorem synSentF_ok {sq ak f wn : Int} (h : CsOk C) (h1 : C.st = 1) : CsOk (synSentF sq ak f wn C).1 := by
  unfold synSentF
  split
  · split
    · exact h
    · exact h
  split
  · split
    · exact failF_ok (by decide)
    · exact h
  split
  · exact h
  · exact opened_ok h (.inl h1) (resetR_ok _) (windowF_bd _)
theorem sq_back {a k : Int} (ha : 0 ≤ a ∧ a < 256) (hk : 0 ≤ k ∧ k ≤ 16) : sqDiff (sqAdd a k) a = k := by
  unfold sqDiff sqAdd
  split <;> omega
theorem ackA_eq {S : SbS} (hS : SbOk S) {k : Nat} (hk : k ≤ S.sent) : (ackA (sqAdd S.una (k : Int)) S).2 = ⟨(S.una + (k : Int)) % 256, S.D.drop k, S.sent - k⟩ := by
  have := hS.sent
  have := hS.len
  have hu := hS.una
  unfold ackA
  rw [sq_back hu (by omega)]
  by_cases h0 : k = 0
  · subst h0
    rw [if_pos (.inl (by omega))]
    show S = _
    have e : (S.una + ((0 : Nat) : Int)) % 256 = S.una := by omega
    rw [e]
    simp
  · rw [if_neg (by omega)]
    simp
theorem ackK_bd (h : CsW C) {ak : Int} (hd : 0 < ackD ak C) : ∃ k : Nat, ackK ak C = (k : Int) ∧ k ≤ C.S.sent ∧ ((C.S.sent : Int) < ackD ak C → k = C.S.sent) ∧ (¬ (C.S.sent : Int) < ackD ak C → (k : Int) = ackD ak C) := by
  unfold ackK
  by_cases c : (C.S.sent : Int) < ackD ak C
  · rw [if_pos c]
    exact ⟨C.S.sent, rfl, Nat.le_refl _, fun _ => rfl, fun e => absurd c e⟩
  · rw [if_neg c]
    exact ⟨(ackD ak C).toNat, by omega, by omega, fun e => absurd e c, fun _ => by omega⟩
/-- An acknowledgement of something new. -/
theorem acked_fly (h : CsW C) (h3 : C.st = 3) {ak : Int} (hd : 0 < ackD ak C) (hf : ackD ak C ≤ flying C) : C.fa = false ∧ ((C.S.sent : Int) < ackD ak C → C.fs = true ∧ ackD ak C = (C.S.sent : Int) + 1) := by
  obtain ⟨o1, o2, o3, o4⟩ := h.openn h3
  have hs := h.S.sent
  rw [fly3 h3] at hf
  have hfa : C.fa = false := by
    cases e : C.fa with
    | false => rfl
    | true =>
      rw [e] at hf
      have hD := o4 e
      rw [hD] at hs
      simp at hf hs
      omega
  refine ⟨hfa, fun hlt => ?_⟩
  by_cases c : C.fs = true ∧ C.fa = false
  · rw [if_pos c] at hf
    exact ⟨c.1, by omega⟩
  · rw [if_neg c] at hf
    omega
theorem ackC_w {ak wn : Int} (h : CsW C) (h3 : C.st = 3) (hd : 0 < ackD ak C) (hf : ackD ak C ≤ flying C) : CsW (if 0 < flying (ackC ak wn C) then armF (ackC ak wn C) else ackC ak wn C) ∧ (ackC ak wn C).st = 3 := by
  obtain ⟨o1, o2, o3, o4⟩ := h.openn h3
  obtain ⟨l1, l2, l3⟩ := h.live (by omega)
  obtain ⟨k, ek, hk, k1, k2⟩ := ackK_bd h hd
  obtain ⟨hfa, hnew⟩ := acked_fly h h3 hd hf
  have hS' := ackA_eq h.S hk
  have hok := ackA_ok h.S (sqAdd C.S.una (k : Int))
  have hs := h.S.sent
  have eS : (ackC ak wn C).S = ⟨(C.S.una + (k : Int)) % 256, C.S.D.drop k, C.S.sent - k⟩ := by
    show (ackA (sqAdd C.S.una (ackK ak C)) C.S).2 = _
    rw [ek]; exact hS'
  have okS : SbOk (ackC ak wn C).S := by
    show SbOk (ackA (sqAdd C.S.una (ackK ak C)) C.S).2
    rw [ek]; exact hok
  have e3 : (ackC ak wn C).st = 3 := h3
  have efs : (ackC ak wn C).fs = C.fs := rfl
  have ewc : (ackC ak wn C).wc = C.wc := rfl
  have efa : (ackC ak wn C).fa = if (C.S.sent : Int) < ackD ak C then true else C.fa := rfl
  have ho : ((ackC ak wn C).fa = true → (ackC ak wn C).fs = true) ∧ ((ackC ak wn C).fs = true → (ackC ak wn C).wc = true) ∧ ((ackC ak wn C).fs = true → (ackC ak wn C).S.D.length = (ackC ak wn C).S.sent) ∧ ((ackC ak wn C).fa = true → (ackC ak wn C).S.D = []) := by
    rw [efs, ewc, efa, eS]
    refine ⟨fun e => ?_, o2, fun e => ?_, fun e => ?_⟩
    · by_cases c : (C.S.sent : Int) < ackD ak C
      · exact (hnew c).1
      · rw [if_neg c, hfa] at e; cases e
    · have := o3 e
      simp
      omega
    · by_cases c : (C.S.sent : Int) < ackD ak C
      · have h1 := o3 (hnew c).1
        have h2 := k1 c
        show C.S.D.drop k = []
        exact List.drop_eq_nil_of_le (by omega)
      · rw [if_neg c, hfa] at e; cases e
  refine ⟨?_, h3⟩
  by_cases hfl : 0 < flying (ackC ak wn C)
  · rw [if_pos hfl]
    exact armed_w okS h.B h3 h.iss (windowF_bd wn) (by show (0 : Int) ≤ 0 ∧ (0 : Int) ≤ 16; omega) (by show (0 : Int) ≤ 0 ∧ (0 : Int) ≤ 3; omega) h.cr l1 l2 hfl ho
  · rw [if_neg hfl]
    refine ⟨okS, h.B, h.st, h.iss, windowF_bd wn, by show (0 : Int) ≤ 0 ∧ (0 : Int) ≤ 16; omega, by show (0 : Int) ≤ 0 ∧ (0 : Int) ≤ 3; omega, h.cr, h.qt, fun e => ?_, fun e => ?_, fun e => ?_, fun _ => ⟨l1, l2, fun e => absurd e hfl, fun e => ?_⟩, fun e => ?_, fun _ => ho⟩
    · rw [e3] at e; cases e
    · rw [e3] at e; cases e
    · rw [e3] at e; cases e
    · have : (0 : Int) < 0 := e; omega
    · rw [e3] at e; rcases e with e | e <;> cases e
theorem ackedF_w {ak wn : Int} (h : CsW C) (h3 : C.st = 3) : CsW (ackedF ak wn C).2 ∧ (ackedF ak wn C).2.st = 3 := by
  obtain ⟨l1, l2, l3⟩ := h.live (by omega)
  unfold ackedF
  split
  · exact ⟨h, h3⟩
  split
  · exact ⟨h, h3⟩
  split
  · refine ⟨⟨h.S, h.B, h.st, h.iss, windowF_bd wn, h.tm, by show (0 : Int) ≤ 0 ∧ (0 : Int) ≤ 3; omega, h.cr, h.qt, fun e => ?_, fun e => ?_, fun e => ?_, h.live, h.opening, h.openn⟩, h3⟩
    · have : C.st = 0 := e; omega
    · have : C.st = 4 := e; omega
    · have : C.st = 4 := e; omega
  · obtain ⟨a, b⟩ := ackC_w (wn := wn) h h3 (ak := ak) (by omega) (by omega)
    refine ⟨a, ?_⟩
    show (if _ then _ else _ : CS).st = 3
    split
    · rw [armF_eq]; exact b
    · exact b
theorem takeF_w {sq f : Int} {D : List Int} (h : CsW C) (h3 : C.st = 3) (hD : IsB D) : CsW (takeF sq f D C) ∧ (takeF sq f D C).st = 3 := by
  have key : ∀ {p : Bool}, CsW { C with B := (insA sq D C.B).2, pf := p } := fun {p} =>
    ⟨h.S, insA_ok h.B.toRbW sq hD, h.st, h.iss, h.pw, h.tm, h.rt, h.cr, h.qt, fun e => (by have : C.st = 0 := e; omega), fun e => (by have : C.st = 4 := e; omega), fun e => (by have : C.st = 4 := e; omega), h.live, fun e => (by have : C.st = 1 ∨ C.st = 2 := e; omega), h.openn⟩
  unfold takeF
  split
  · exact ⟨h, h3⟩
  split
  · exact ⟨key (p := C.pf), h3⟩
  split
  · exact ⟨key (p := true), h3⟩
  · exact ⟨key (p := C.pf), h3⟩
theorem endF_ok (h : CsW C) (h3 : C.st = 3) : CsOk (endF C) := by
  unfold endF
  obtain ⟨o1, o2, o3, o4⟩ := h.openn h3
  obtain ⟨l1, l2, l3⟩ := h.live (by omega)
  split
  · rename_i c
    refine ⟨⟨h.S, h.B, by show (0 : Int) ≤ 4 ∧ (4 : Int) ≤ 4; omega, h.iss, by show (0 : Int) ≤ 0 ∧ (0 : Int) ≤ 255; omega, by show (0 : Int) ≤ 0 ∧ (0 : Int) ≤ 16; omega, by show (0 : Int) ≤ 0 ∧ (0 : Int) ≤ 3; omega, by show (0 : Int) ≤ 0 ∧ (0 : Int) ≤ 12; omega, by show (0 : Int) ≤ 10 ∧ (10 : Int) ≤ 10; omega, fun e => (by cases e), fun _ hw => absurd l1 hw, fun _ _ => ⟨o2 (o1 c.1), o1 c.1, c.1, c.2, o4 c.1, rfl, rfl, rfl, rfl⟩, fun e => (by rcases e with e | e | e <;> cases e), fun e => (by rcases e with e | e <;> cases e), fun e => (by cases e)⟩, fun e => (by cases e), fun e => (by cases e)⟩
  · rename_i c
    exact ⟨h, fun _ => c, fun e => (by omega)⟩
theorem goonF_ok {sq f : Int} {D : List Int} (h : CsW C) (h3 : C.st = 3) (hD : IsB D) : CsOk (goonF sq f D C).1 := by
  unfold goonF
  split
  · obtain ⟨a, b⟩ := takeF_w (sq := sq) (f := f) h h3 hD
    obtain ⟨p1, p2, _⟩ := pumpF_w a
    exact endF_ok p1 (by rw [p2]; exact b)
  · obtain ⟨p1, p2, _⟩ := pumpF_w h
    exact endF_ok p1 (by rw [p2]; exact h3)
theorem openF_ok {ak wn sq f : Int} {D : List Int} (h : CsOk C) (h3 : C.st = 3) (hD : IsB D) : CsOk (openF ak wn sq f D C).1 := by
  unfold openF
  split
  · obtain ⟨a, b⟩ := ackedF_w (ak := ak) (wn := wn) h.toCsW h3
    exact goonF_ok a b hD
  · exact h
theorem opened0_ok (h : CsOk C) (ho : C.st = 1 ∨ C.st = 2) : CsOk (openedF C) := opened_ok (B := C.B) (pw := C.pw) h ho h.B h.pw
theorem syncF_ok {sq ak f wn : Int} {D : List Int} (h : CsOk C) (hs : C.st = 2 ∨ C.st = 3) (hD : IsB D) : CsOk (syncF sq ak f wn D C).1 := by
  unfold syncF
  split
  · split
    · exact failF_ok (by decide)
    · exact h
  split
  · split
    · exact h
    · exact h
  split
  · exact h
  split
  · split
    · exact h
    · rename_i h2 _
      exact openF_ok (opened0_ok h (.inr h2)) rfl hD
  · exact openF_ok h (by omega) hD
theorem inputF_ok {hd : Hd} {D : List Int} (h : CsOk C) (hD : IsB D) : CsOk (inputF hd D C).1 := by
  unfold inputF
  split
  · unfold quietF
    split
    · exact h
    · exact h
  split
  · rename_i h1
    exact synSentF_ok h h1
  split
  · rename_i hs
    exact syncF_ok h hs hD
  · exact h
end
end Go.Proofs.Qxb6500424aGreat
