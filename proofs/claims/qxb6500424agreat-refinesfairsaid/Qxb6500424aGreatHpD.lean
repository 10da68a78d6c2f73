/-
  host: the plain law of the network: what an open block takes in.
-/
import Derived.Test.Qxb6500424aGreatHpC
set_option linter.unusedVariables false
set_option linter.unusedSimpArgs false
namespace Go.Proofs.Qxb6500424aGreat
/-- A segment of the peer's that has come. -/
structure InS (g y : GE) (s : SegV) (o a : Nat) : Prop where
  fl : s.1.fl = 2 ∨ (s.1.fl = 6 ∧ s.2 = [])
  sq : s.1.sq = (y.iss + 1 + (o : Int)) % 256
  ak : s.1.ak = (g.iss + 1 + (a : Int)) % 256
  dat : 0 < s.2.length ∨ s.1.fl = 6 → o + s.2.length ≤ y.nx ∧ s.2 = (y.S.drop o).take s.2.length ∧ y.pot ≤ (o : Int) + 89
  fin : s.1.fl = 6 → y.fs = true ∧ o = y.nx
  rc : (a : Int) ≤ (y.rc : Int) + b2i y.pf
  pot : g.pot ≤ (a : Int) + 89
  len : s.2.length ≤ 12
  isB : IsB s.2
theorem sqDiff_true {b p q : Int} (h1 : -128 ≤ p - q) (h2 : p - q < 128) : sqDiff ((b + p) % 256) ((b + q) % 256) = p - q := by
  unfold sqDiff
  split <;> omega
section
variable {g y : GE} {x : CS}
theorem ackD_true {a : Nat} {ak : Int} (h : Cn g y x) (hak : ak = (g.iss + 1 + (a : Int)) % 256) (hrc : (a : Int) ≤ (y.rc : Int) + b2i y.pf) (hp : g.pot ≤ (a : Int) + 89) : ackD ak x = (a : Int) - ((g.ua : Int) + b2i g.fa) := by
  have h1 := h.d1.un
  have h2 := h.d1.rc
  have h3 := h.d1.pot
  have h4 := h.d1.fa
  have := b2i_bd y.pf
  have := b2i_bd g.fs
  have := b2i_bd g.fa
  unfold ackD
  rw [hak, h.una]
  have e := sqDiff_true (b := g.iss + 1) (p := (a : Int)) (q := (g.ua : Int) + b2i g.fa) (by omega) (by omega)
  rw [show g.iss + 1 + ((g.ua : Int) + b2i g.fa) = g.iss + 1 + (g.ua : Int) + b2i g.fa by omega] at e
  exact e
theorem acked_go {a : Nat} {ak wn : Int} (h : Cn g y x) (hak : ak = (g.iss + 1 + (a : Int)) % 256) (hrc : (a : Int) ≤ (y.rc : Int) + b2i y.pf) (hp : g.pot ≤ (a : Int) + 89) :
    (ackedF ak wn x).1 = true ∧ ∃ g', Go1 g y g' (ackedF ak wn x).2 [] ∧ g'.rc = g.rc ∧ g'.pf = g.pf := by
  have hd := ackD_true h hak hrc hp
  have hfl := h.fly
  have hw := ackedF_w (ak := ak) (wn := wn) h.w h.st
  have hu := h.d1.un
  have hr := h.d1.rc
  have hpf := h.d1.pf
  have hfs := h.d1.fs
  have hfa := h.d1.fa
  have hs := h.oo.sent
  have bf := b2i_bd g.fs
  have ba := b2i_bd g.fa
  have bp := b2i_bd y.pf
  -- what was acknowledged was sent
  have hle : (a : Int) ≤ (g.nx : Int) + b2i g.fs := by
    cases e : y.pf with
    | false => rw [e] at hrc; have : b2i false = 0 := rfl; omega
    | true =>
      have q := hpf e
      have : b2i g.fs = 1 := by rw [q.1]; rfl
      have : b2i y.pf = 1 := by rw [e]; rfl
      omega
  unfold ackedF at hw ⊢
  have n1 : ¬ flying x < ackD ak x := by omega
  rw [if_neg n1] at hw ⊢
  by_cases c2 : ackD ak x < 0
  · rw [if_pos c2] at hw ⊢
    exact ⟨rfl, g, Go1.refl h, rfl, rfl⟩
  rw [if_neg c2] at hw ⊢
  by_cases c3 : ackD ak x = 0
  · rw [if_pos c3] at hw ⊢
    exact ⟨rfl, g, ⟨⟨hw.1, hw.2, ⟨h.oo.una, h.oo.D, h.oo.sent, h.oo.fs, h.oo.fa, h.oo.pf, h.oo.wc, h.oo.nxt, h.oo.A, h.oo.hv, h.oo.cr⟩, h.d1, h.d2, h.iss⟩, Mv.refl g, fun s hs => (by cases hs), rfl, rfl, rfl⟩, rfl, rfl⟩
  rw [if_neg c3] at hw ⊢
  refine ⟨rfl, ?_⟩
  have hpos : 0 < ackD ak x := by omega
  obtain ⟨k, hk, hk1, hk2, hk3⟩ := ackK_bd h.w hpos
  obtain ⟨f1, f2⟩ := acked_fly h.w h.st hpos (by omega)
  have hfa0 : g.fa = false := by rw [← h.oo.fa]; exact f1
  have b0 : b2i g.fa = 0 := by rw [hfa0]; rfl
  let fa' : Bool := if (x.S.sent : Int) < ackD ak x then true else g.fa
  let g' : GE := { g with ua := g.ua + k, fa := fa' }
  have hS : (ackA (sqAdd x.S.una (ackK ak x)) x.S).2 = ⟨(x.S.una + (k : Int)) % 256, x.S.D.drop k, x.S.sent - k⟩ := by rw [hk]; exact ackA_eq h.w.S hk1
  have hfa' : fa' = true → (x.S.sent : Int) < ackD ak x := fun q => by
    apply Classical.byContradiction
    intro hn
    have : fa' = g.fa := if_neg hn
    rw [this, hfa0] at q
    cases q
  have hypf : fa' = true → y.pf = true ∧ g.fs = true ∧ k = x.S.sent := fun q => by
    have l := hfa' q
    obtain ⟨z1, z2⟩ := f2 l
    have gfs : g.fs = true := by rw [← h.oo.fs]; exact z1
    refine ⟨?_, gfs, hk2 l⟩
    cases e : y.pf with
    | true => rfl
    | false =>
      have : b2i y.pf = 0 := by rw [e]; rfl
      omega
  have hua : g.ua + k ≤ y.rc := by
    by_cases l : (x.S.sent : Int) < ackD ak x
    · have e : fa' = true := if_pos l
      obtain ⟨z1, z2, z3⟩ := hypf e
      have := hpf z1
      have := hfs z2
      omega
    · have e2 := hk3 l
      cases e : y.pf with
      | false => have : b2i y.pf = 0 := by rw [e]; rfl
                 omega
      | true =>
        have := hpf e
        omega
  have hcore : ∀ tm' : Int, OpenOk g' y { ackC ak wn x with tm := tm' } := fun tm' => by
    refine ⟨?_, ?_, ?_, h.oo.fs, ?_, h.oo.pf, h.oo.wc, h.oo.nxt, h.oo.A, h.oo.hv, h.oo.cr⟩
    · show (ackA (sqAdd x.S.una (ackK ak x)) x.S).2.una = (g.iss + 1 + ((g.ua + k : Nat) : Int)) % 256
      rw [hS]
      show (x.S.una + (k : Int)) % 256 = _
      rw [h.oo.una]
      push_cast
      omega
    · show (ackA (sqAdd x.S.una (ackK ak x)) x.S).2.D = g.S.drop (g.ua + k)
      rw [hS]
      show x.S.D.drop k = _
      rw [h.oo.D, List.drop_drop]
    · show g.ua + k + (ackA (sqAdd x.S.una (ackK ak x)) x.S).2.sent = g.nx
      rw [hS]
      show g.ua + k + (x.S.sent - k) = g.nx
      omega
    · show (if (x.S.sent : Int) < ackD ak x then true else x.fa) = (if (x.S.sent : Int) < ackD ak x then true else g.fa)
      rw [h.oo.fa]
  have hd1 : Dir g' y := ⟨⟨by show g.ua + k ≤ g.nx; omega, hu.2.1, by show g.nx ≤ g.ua + k + 16; omega⟩, hfs, fun q => by
      obtain ⟨z1, z2, z3⟩ := hypf q
      exact ⟨z2, by show g.ua + k = g.nx; omega, z1⟩, ⟨hua, hr.2⟩, hpf, h.d1.pot⟩
  have hd2 : Dir y g' := ⟨h.d2.un, h.d2.fs, h.d2.fa, h.d2.rc, h.d2.pf, h.d2.pot⟩
  have mv : Mv g g' := ⟨rfl, ⟨[], by simp [g']⟩, Nat.le_refl _, Int.le_refl _, fun q => ⟨q, rfl⟩⟩
  refine ⟨g', ⟨⟨hw.1, hw.2, ?_, hd1, hd2, h.iss⟩, mv, fun s hs => (by cases hs), rfl, rfl, rfl⟩, rfl, rfl⟩
  show OpenOk g' y (if 0 < flying (ackC ak wn x) then armF (ackC ak wn x) else ackC ak wn x)
  split
  · rw [armF_eq]
    exact hcore _
  · exact hcore (ackC ak wn x).tm
/-! ### the receive buffer -/
/-- The buffer holds what the stream Z bears from place r on; m: what was sent. -/
structure BufOk (b : Int) (Z R : List Int) (m r : Nat) (B : RbS) : Prop where
  nxt : B.nxt = (b + (r : Int)) % 256
  A : R ++ B.A = Z.take r
  hv : ∀ d v, B.hv d = some v → Z[r + d]? = some v ∧ r + d < m
  le : r ≤ m
theorem drain_buf {b : Int} {Z R : List Int} {m : Nat} : ∀ (f : Nat) {r : Nat} {B : RbS}, BufOk b Z R m r B → ∃ r', r ≤ r' ∧ BufOk b Z R m r' (drainN f B).2
  | 0, r, B, h => ⟨r, Nat.le_refl _, h⟩
  | f + 1, r, B, h => by
    unfold drainN
    cases e : B.hv 0 with
    | none => exact ⟨r, Nat.le_refl _, h⟩
    | some v =>
      have h0 := h.hv 0 v e
      have h1 : BufOk b Z R m (r + 1) ⟨(B.nxt + 1) % 256, B.A ++ [v], fun d => B.hv (d + 1)⟩ := by
        refine ⟨?_, ?_, fun d w hw => ?_, by omega⟩
        · show (B.nxt + 1) % 256 = _
          rw [h.nxt]
          push_cast
          omega
        · show R ++ (B.A ++ [v]) = Z.take (r + 1)
          rw [← List.append_assoc, h.A, take1 (by simpa using h0.1)]
        · have := h.hv (d + 1) w hw
          exact ⟨by rw [show r + 1 + d = r + (d + 1) by omega]; exact this.1, by omega⟩
      obtain ⟨r', hr, hb⟩ := drain_buf f h1
      exact ⟨r', by omega, hb⟩
theorem ins_buf {b seq : Int} {Z R P : List Int} {m r o : Nat} {B : RbS} (h : BufOk b Z R m r B) (hs : seq = (b + (o : Int)) % 256) (hP : P ≠ [] → o + P.length ≤ m ∧ P = (Z.drop o).take P.length ∧ (o : Int) - (r : Int) < 128 ∧ -128 ≤ (o : Int) - (r : Int)) : ∃ r', r ≤ r' ∧ BufOk b Z R m r' (insA seq P B).2 := by
  refine drain_buf 17 (r := r) ⟨h.nxt, h.A, fun d v hv => ?_, h.le⟩
  have hv' : insH B.hv (sqDiff seq B.nxt) (16 - B.A.length) P P.length d = some v := hv
  unfold insH at hv'
  split at hv'
  · exact h.hv d v hv'
  · split at hv'
    · rename_i q
      by_cases hne : P = []
      · subst hne; simp at hv'
      obtain ⟨p1, p2, p3, p4⟩ := hP hne
      have e : sqDiff seq B.nxt = (o : Int) - (r : Int) := by rw [hs, h.nxt]; exact sqDiff_true p4 p3
      rw [e] at hv' q
      have hi : ((d : Int) - ((o : Int) - (r : Int))).toNat < P.length := by omega
      rw [p2, List.getElem?_take_of_lt hi, List.getElem?_drop] at hv'
      have ei : o + ((d : Int) - ((o : Int) - (r : Int))).toNat = r + d := by omega
      rw [ei] at hv'
      exact ⟨hv', by omega⟩
    · cases hv'
theorem fin_f6 : fAnd 6 4 ≠ 0 := by decide
theorem fin_f2 : fAnd 2 4 = 0 := by decide
theorem take_go {s : SegV} {o a : Nat} (h : Cn g y x) (hi : InS g y s o a) : ∃ g', Go1 g y g' (takeF s.1.sq s.1.fl s.2 x) [] := by
  have hw := takeF_w (sq := s.1.sq) (f := s.1.fl) (D := s.2) h.w h.st hi.isB
  have hu := h.d2.un
  have hr := h.d2.rc
  have hpo := h.d2.pot
  have bf := b2i_bd y.fs
  by_cases c1 : x.pf = true
  · have e : takeF s.1.sq s.1.fl s.2 x = x := by unfold takeF; rw [if_pos c1]
    rw [e]
    exact ⟨g, Go1.refl h⟩
  have gpf : g.pf = false := by rw [← h.oo.pf]; simpa using c1
  have bg : b2i g.pf = 0 := by rw [gpf]; rfl
  have bo : BufOk (y.iss + 1) y.S g.R y.nx g.rc x.B := ⟨h.oo.nxt, h.oo.A, h.oo.hv, hr.2⟩
  have hlen := hi.len
  obtain ⟨r', hrr, b'⟩ := ins_buf (seq := s.1.sq) (P := s.2) (o := o) bo hi.sq (fun hne => by
    obtain ⟨d1, d2, d3⟩ := hi.dat (.inl (by cases hs : s.2 with | nil => exact absurd hs hne | cons => simp))
    exact ⟨d1, d2, by omega, by omega⟩)
  -- the end with its new count
  have core : ∀ (pf' : Bool), (pf' = true → y.fs = true ∧ r' = y.S.length) → CsW { x with B := (insA s.1.sq s.2 x.B).2, pf := pf' } → Go1 g y { g with rc := r', pf := pf' } { x with B := (insA s.1.sq s.2 x.B).2, pf := pf' } [] := fun pf' hp' hw' => by
    have hb := b'.le
    have bp' := b2i_bd pf'
    refine ⟨⟨hw', h.st, ⟨h.oo.una, h.oo.D, h.oo.sent, h.oo.fs, h.oo.fa, rfl, h.oo.wc, b'.nxt, b'.A, b'.hv, h.oo.cr⟩, ⟨h.d1.un, h.d1.fs, h.d1.fa, h.d1.rc, h.d1.pf, h.d1.pot⟩, ⟨hu, h.d2.fs, fun q => ?_, ⟨by show y.ua ≤ r'; omega, hb⟩, hp', hpo⟩, h.iss⟩, ⟨rfl, ⟨[], by simp⟩, Nat.le_refl _, by show (g.rc : Int) + b2i g.pf ≤ (r' : Int) + b2i pf'; omega, fun q => ⟨q, rfl⟩⟩, fun s hs => (by cases hs), rfl, rfl, rfl⟩
    have := (h.d2.fa q).2.2
    rw [gpf] at this
    cases this
  unfold takeF at hw ⊢
  rw [if_neg c1] at hw ⊢
  by_cases c2 : fAnd s.1.fl 4 = 0 ∨ 16 < s.2.length
  · rw [if_pos c2] at hw ⊢
    have e : ({ x with B := (insA s.1.sq s.2 x.B).2 } : CS) = { x with B := (insA s.1.sq s.2 x.B).2, pf := false } := by
      have : x.pf = false := by simpa using c1
      rw [← this]
    rw [e] at hw ⊢
    exact ⟨_, core false (fun q => by cases q) hw.1⟩
  rw [if_neg c2] at hw ⊢
  by_cases c3 : sqAdd s.1.sq (s.2.length : Int) = (insA s.1.sq s.2 x.B).2.nxt
  · rw [if_pos c3] at hw ⊢
    refine ⟨_, core true (fun _ => ?_) hw.1⟩
    have h6 : s.1.fl = 6 ∧ s.2 = [] := by
      rcases hi.fl with q | q
      · rw [q] at c2; exact absurd (.inl fin_f2) c2
      · exact q
    obtain ⟨f1, f2⟩ := hi.fin h6.1
    obtain ⟨d1, d2, d3⟩ := hi.dat (.inr h6.1)
    have n1 := b'.nxt
    have nl := b'.le
    rw [n1, hi.sq, h6.2] at c3
    unfold sqAdd at c3
    have fsl := h.d2.fs f1
    refine ⟨f1, ?_⟩
    have hz : ((([] : List Int).length : Nat) : Int) = 0 := rfl
    rw [hz] at c3
    omega
  · rw [if_neg c3] at hw ⊢
    have e : ({ x with B := (insA s.1.sq s.2 x.B).2 } : CS) = { x with B := (insA s.1.sq s.2 x.B).2, pf := false } := by
      have : x.pf = false := by simpa using c1
      rw [← this]
    rw [e] at hw ⊢
    exact ⟨_, core false (fun q => by cases q) hw.1⟩
end
end Go.Proofs.Qxb6500424aGreat
