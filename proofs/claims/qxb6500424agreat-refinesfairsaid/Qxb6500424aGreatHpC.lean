/-
  host: the plain law of the network: what an open block sends.
-/
import Derived.Test.Qxb6500424aGreatHpB
set_option linter.unusedVariables false
set_option linter.unusedSimpArgs false
namespace Go.Proofs.Qxb6500424aGreat
/-- An open block and the two ends. -/
structure Cn (g y : GE) (x : CS) : Prop where
  w : CsW x
  st : x.st = 3
  oo : OpenOk g y x
  d1 : Dir g y
  d2 : Dir y g
  iss : (0 ≤ g.iss ∧ g.iss < 256) ∧ 0 ≤ y.iss ∧ y.iss < 256
/-- A segment of an open end, as it is sent. -/
structure ASeg (g y : GE) (s : SegV) (o a : Nat) : Prop where
  fl : s.1.fl = 2 ∨ (s.1.fl = 6 ∧ s.2 = [])
  sq : s.1.sq = (g.iss + 1 + (o : Int)) % 256
  ak : s.1.ak = (y.iss + 1 + (a : Int)) % 256
  dat : 0 < s.2.length ∨ s.1.fl = 6 → o + s.2.length ≤ g.nx ∧ s.2 = (g.S.drop o).take s.2.length ∧ g.pot ≤ (o : Int) + 29
  fin : s.1.fl = 6 → g.fs = true ∧ o = g.nx
  rc : (a : Int) ≤ (g.rc : Int) + b2i g.pf
  pot : y.pot ≤ (a : Int) + 29
  len : s.2.length ≤ 12
  isB : IsB s.2
  wn : 0 ≤ s.1.wn ∧ s.1.wn ≤ 16
def AS (g y : GE) (s : SegV) : Prop := ∃ o a, ASeg g y s o a
/-- The sending side of an end moves on; nothing else. -/
structure Mv (g g' : GE) : Prop where
  eq : g' = { g with S := g'.S, R := g'.R, ua := g'.ua, nx := g'.nx, fs := g'.fs, fa := g'.fa, rc := g'.rc, pf := g'.pf, wc := g'.wc }
  S : ∃ E, g'.S = g.S ++ E
  nx : g.nx ≤ g'.nx
  rc : (g.rc : Int) + b2i g.pf ≤ (g'.rc : Int) + b2i g'.pf
  fs : g.fs = true → g'.fs = true ∧ g'.nx = g.nx
theorem Mv.refl (g : GE) : Mv g g := ⟨rfl, ⟨[], by simp⟩, Nat.le_refl _, Int.le_refl _, fun h => ⟨h, rfl⟩⟩
section
variable {g y g1 g2 : GE} {x : CS}
theorem Mv.trans (h : Mv g g1) (h' : Mv g1 g2) : Mv g g2 := by
  obtain ⟨E, hE⟩ := h.S
  obtain ⟨E', hE'⟩ := h'.S
  refine ⟨?_, ⟨E ++ E', by rw [hE', hE, List.append_assoc]⟩, Nat.le_trans h.nx h'.nx, Int.le_trans h.rc h'.rc, fun q => ?_⟩
  · have e1 := h.eq
    have e2 := h'.eq
    rw [e1] at e2
    exact e2
  · have a := h.fs q
    have b := h'.fs a.1
    exact ⟨b.1, by rw [b.2, a.2]⟩
theorem Mv.pot (h : Mv g g1) : g1.pot = g.pot := by rw [h.eq]
theorem Mv.iss (h : Mv g g1) : g1.iss = g.iss := by rw [h.eq]
theorem AS.mv {s : SegV} (h : AS g y s) (m : Mv g g1) (hn : g.nx ≤ g.S.length) : AS g1 y s := by
  obtain ⟨o, a, k⟩ := h
  obtain ⟨E, hE⟩ := m.S
  have e := m.iss
  have p := m.pot
  refine ⟨o, a, k.fl, by rw [e]; exact k.sq, k.ak, fun hd => ?_, fun h6 => ?_, by have := m.rc; have := k.rc; omega, k.pot, k.len, k.isB, k.wn⟩
  · obtain ⟨d1, d2, d3⟩ := k.dat hd
    have := m.nx
    exact ⟨by omega, by rw [hE, drop_grow (by omega)]; exact d2, by rw [p]; exact d3⟩
  · have := k.fin h6
    have f := m.fs this.1
    exact ⟨f.1, by rw [f.2]; exact this.2⟩
theorem Cn.una (h : Cn g y x) : sndUna x = (g.iss + 1 + (g.ua : Int) + b2i g.fa) % 256 := by
  have h1 := h.oo.una
  have h2 := h.oo.fa
  unfold sndUna sqAdd b2i
  rw [h1, h2]
  split <;> omega
theorem Cn.fly (h : Cn g y x) : flying x = (g.nx : Int) + b2i g.fs - ((g.ua : Int) + b2i g.fa) := by
  rw [fly3 h.st, h.oo.fs, h.oo.fa]
  have h1 := h.oo.sent
  have h2 := h.d1.fa
  unfold b2i
  cases hfs : g.fs <;> cases hfa : g.fa
  · simp; omega
  · have := (h2 hfa).1; rw [hfs] at this; cases this
  · simp; omega
  · simp; omega
theorem Cn.nxt (h : Cn g y x) : nxtS x.S = (g.iss + 1 + (g.nx : Int)) % 256 := by
  have h1 := h.oo.una
  have h2 := h.oo.sent
  unfold nxtS
  rw [h1]
  omega
theorem Cn.snx (h : Cn g y x) : sndNxt x = (g.iss + 1 + ((g.nx : Int) + b2i g.fs)) % 256 := by
  unfold sndNxt
  rw [h.una, h.fly]
  unfold sqAdd
  omega
theorem Cn.rnx (h : Cn g y x) : rcvNxt x = (y.iss + 1 + ((g.rc : Int) + b2i g.pf)) % 256 := by
  have h1 := h.oo.nxt
  have h2 := h.oo.pf
  unfold rcvNxt sqAdd b2i
  rw [h1, h2]
  split <;> omega
/-- What the peer's pot allows. -/
theorem Cn.ypot (h : Cn g y x) : y.pot ≤ (g.rc : Int) + b2i g.pf + 29 := by
  have := h.d2.pot
  have := h.d2.un
  have := h.d2.rc
  have := b2i_bd y.fs
  have := b2i_bd g.pf
  omega
theorem fa2 : (fAnd 2 2 != 0) = true := by decide
theorem fa6 : (fAnd 6 2 != 0) = true := by decide
def n2 (b : Bool) : Nat := if b = true then 1 else 0
theorem n2_b2i (b : Bool) : ((n2 b : Nat) : Int) = b2i b := by cases b <;> rfl
theorem Cn.mkS {D : List Int} {fl : Int} {o : Nat} (h : Cn g y x) (hf : fl = 2 ∨ (fl = 6 ∧ D = [])) (hd : 0 < D.length ∨ fl = 6 → o + D.length ≤ g.nx ∧ D = (g.S.drop o).take D.length ∧ g.pot ≤ (o : Int) + 29) (hfin : fl = 6 → g.fs = true ∧ o = g.nx) (hl : D.length ≤ 12) (hB : IsB D) : AS g y (mkF x fl ((g.iss + 1 + (o : Int)) % 256) D) := by
  have hyp := h.ypot
  have hB2 := h.w.B.len
  refine ⟨o, g.rc + n2 g.pf, ?_⟩
  have e : (if (fAnd fl 2 != 0) = true then rcvNxt x else 0) = rcvNxt x := by
    rcases hf with rfl | ⟨rfl, _⟩ <;> rfl
  have hn := n2_b2i g.pf
  refine ⟨hf, rfl, ?_, hd, hfin, by push_cast; omega, by push_cast; omega, hl, hB, by show 0 ≤ 16 - (x.B.A.length : Int) ∧ 16 - (x.B.A.length : Int) ≤ 16; omega⟩
  show (if (fAnd fl 2 != 0) = true then rcvNxt x else 0) = _
  rw [e, h.rnx]
  push_cast
  omega
theorem Cn.ack (h : Cn g y x) : AS g y (ackF x) := by
  have e : sndNxt x = (g.iss + 1 + ((g.nx + n2 g.fs : Nat) : Int)) % 256 := by
    rw [h.snx]
    have := n2_b2i g.fs
    push_cast
    omega
  unfold ackF
  rw [e]
  exact h.mkS (.inl rfl) (fun q => by rcases q with q | q <;> simp at q) (fun q => by cases q) (by simp) IsB.nil
theorem isB_take {D : List Int} {n : Nat} (h : IsB D) : IsB (D.take n) := fun v hv => h v (List.mem_of_mem_take hv)
theorem isB_drop {D : List Int} {n : Nat} (h : IsB D) : IsB (D.drop n) := fun v hv => h v (List.mem_of_mem_drop hv)
/-- The retransmission. -/
theorem Cn.again (h : Cn g y x) (hf : 0 < flying x) : AS g y (againF x) := by
  have hs := h.oo.sent
  have hD := h.oo.D
  have hun := h.d1.un
  have hp := h.d1.pot
  have := b2i_bd g.fs
  have hsl := h.w.sent
  unfold againF
  rw [if_neg (by rw [h.st]; decide), if_neg (by rw [h.st]; decide)]
  have hle := leastN_le 12 x.S.sent
  have hl12 : leastN 12 x.S.sent ≤ 12 := by unfold leastN; omega
  by_cases hz : 0 < leastN 12 x.S.sent
  · rw [if_pos hz, h.oo.una]
    have hlen : (x.S.D.take (leastN 12 x.S.sent)).length = leastN 12 x.S.sent := by rw [List.length_take]; omega
    refine h.mkS (o := g.ua) (.inl rfl) (fun _ => ⟨by rw [hlen]; omega, ?_, by omega⟩) (fun q => by cases q) (by rw [hlen]; exact hl12) (isB_take h.w.S.isB)
    rw [hlen, hD]
  · rw [if_neg hz, h.oo.una]
    have hs0 : x.S.sent = 0 := by unfold leastN at hz; omega
    have hfl := h.fly
    have hfs : g.fs = true ∧ g.fa = false := by
      rw [fly3 h.st] at hf
      split at hf
      · rename_i q
        exact ⟨by rw [← h.oo.fs]; exact q.1, by rw [← h.oo.fa]; exact q.2⟩
      · omega
    refine h.mkS (o := g.ua) (.inr ⟨rfl, rfl⟩) (fun _ => ⟨by simp; omega, by simp, by omega⟩) (fun _ => ⟨hfs.1, by omega⟩) (by simp) IsB.nil
/-- What an open block does at one stroke: the end moves on, the segments are sound. -/
structure Go1 (g y g' : GE) (x' : CS) (L : List SegV) : Prop where
  cn : Cn g' y x'
  mv : Mv g g'
  seg : ∀ s ∈ L, AS g' y s
  kp : g'.S = g.S ∧ g'.R = g.R ∧ g'.wc = g.wc
theorem Go1.refl (h : Cn g y x) : Go1 g y g x [] := ⟨h, Mv.refl g, fun s hs => (by cases hs), rfl, rfl, rfl⟩
theorem Go1.trans {x1 x2 : CS} {L1 L2 : List SegV} (h : Go1 g y g1 x1 L1) (h' : Go1 g1 y g2 x2 L2) : Go1 g y g2 x2 (L1 ++ L2) :=
  ⟨h'.cn, h.mv.trans h'.mv, fun s hs => (by
    rcases List.mem_append.1 hs with q | q
    · exact (h.seg s q).mv h'.mv h.cn.d1.un.2.1
    · exact h'.seg s q), by rw [h'.kp.1, h.kp.1], by rw [h'.kp.2.1, h.kp.2.1], by rw [h'.kp.2.2, h.kp.2.2]⟩
theorem Dir.nx {n : Nat} (h : Dir g y) (hn : g.nx + n ≤ g.S.length) (hn2 : g.nx + n ≤ g.ua + 16) (hfs : g.fs = false) (hp : (n : Int) ≤ g.pot - g.nx) : Dir { g with nx := g.nx + n } y := by
  have := h.pot
  have hb : b2i g.fs = 0 := by rw [hfs]; rfl
  have hu := h.un
  have hr := h.rc
  refine ⟨⟨by show g.ua ≤ g.nx + n; omega, hn, hn2⟩, fun q => ?_, fun q => ?_, ⟨hr.1, by show y.rc ≤ g.nx + n; omega⟩, h.pf, ?_⟩
  · have q' : g.fs = true := q; rw [hfs] at q'; cases q'
  · have := (h.fa q).1; rw [hfs] at this; cases this
  · show ((g.nx + n : Nat) : Int) + b2i g.fs ≤ g.pot ∧ g.pot ≤ ((g.nx + n : Nat) : Int) + b2i g.fs + 12
    omega
theorem pump1_go (h : Cn g y x) : ∃ g', Go1 g y g' (pump1 x).1 (pump1 x).2 := by
  unfold pump1
  by_cases hn : 0 < nOf x
  rotate_left
  · rw [if_neg hn]; exact ⟨g, Go1.refl h⟩
  have w1 := pump1_w h.w h.st
  unfold pump1 at w1
  rw [if_pos hn] at w1 ⊢
  have hle := nOf_le x
  have hln := least_n hn
  obtain ⟨o1, o2, o3, o4⟩ := h.w.openn h.st
  have hfs : g.fs = false := by
    rw [← h.oo.fs]
    cases e : x.fs with
    | false => rfl
    | true => have := o3 e; omega
  have hb : b2i g.fs = 0 := by rw [hfs]; rfl
  have hc := h.w.cr
  have hsl := h.w.sent
  have hs := h.oo.sent
  have hD := h.oo.D
  have hun := h.d1.un
  have hDl : x.S.D.length = g.S.length - g.ua := by rw [hD, List.length_drop]
  have hpot := h.oo.cr h.st
  obtain ⟨n, hnn⟩ : ∃ n : Nat, nOf x = (n : Int) := ⟨(nOf x).toNat, by omega⟩
  have hnt : (nOf x).toNat = n := by omega
  have dd : Dir { g with nx := g.nx + n } y := h.d1.nx (by omega) (by omega) hfs (by omega)
  have dd2 : Dir y { g with nx := g.nx + n } := ⟨h.d2.un, h.d2.fs, h.d2.fa, h.d2.rc, h.d2.pf, h.d2.pot⟩
  have oo : OpenOk { g with nx := g.nx + n } y (armF { x with S := nextA (nOf x) x.S, cr := x.cr - nOf x }) := by
    rw [armF_eq]
    refine ⟨h.oo.una, h.oo.D, ?_, h.oo.fs, h.oo.fa, h.oo.pf, h.oo.wc, h.oo.nxt, h.oo.A, h.oo.hv, fun _ => ?_⟩
    · show g.ua + (x.S.sent + leastN (nOf x) (x.S.D.length - x.S.sent)) = g.nx + n
      omega
    · show g.pot = ((g.nx + n : Nat) : Int) + b2i g.fs + (x.cr - nOf x)
      omega
  have mv : Mv g { g with nx := g.nx + n } := ⟨rfl, ⟨[], by simp⟩, by show g.nx ≤ g.nx + n; omega, Int.le_refl _, fun q => by rw [hfs] at q; cases q⟩
  refine ⟨{ g with nx := g.nx + n }, ⟨w1.1, w1.2.1, oo, dd, dd2, h.iss⟩, mv, fun s hs' => ?_, rfl, rfl, rfl⟩
  simp only [List.mem_singleton] at hs'
  subst hs'
  rw [h.nxt, hnt]
  have hlen : ((x.S.D.drop x.S.sent).take n).length = n := by rw [List.length_take, List.length_drop]; omega
  have key : AS { g with nx := g.nx + n } y (mkF x 2 (({ g with nx := g.nx + n } : GE).iss + 1 + ((g.nx : Nat) : Int) |> fun z => z % 256) ((x.S.D.drop x.S.sent).take n)) := by
    have cn2 : y.pot ≤ (g.rc : Int) + b2i g.pf + 29 := h.ypot
    have hB2 := h.w.B.len
    have hp := n2_b2i g.pf
    refine ⟨g.nx, g.rc + n2 g.pf, .inl rfl, rfl, ?_, fun _ => ⟨?_, ?_, ?_⟩, fun q => (by cases q), by show ((g.rc + n2 g.pf : Nat) : Int) ≤ (g.rc : Int) + b2i g.pf; push_cast; omega, by push_cast; omega, ?_, isB_take (isB_drop h.w.S.isB), ?_⟩
    · show rcvNxt x = _
      rw [h.rnx]
      push_cast
      omega
    · show g.nx + ((x.S.D.drop x.S.sent).take n).length ≤ g.nx + n
      omega
    · show (x.S.D.drop x.S.sent).take n = (g.S.drop g.nx).take ((x.S.D.drop x.S.sent).take n).length
      rw [hlen, hD, List.drop_drop, hs]
    · show g.pot ≤ (g.nx : Int) + 29
      omega
    · show ((x.S.D.drop x.S.sent).take n).length ≤ 12
      omega
    · show 0 ≤ 16 - (x.B.A.length : Int) ∧ 16 - (x.B.A.length : Int) ≤ 16
      omega
  exact key
theorem pump2_go (h : Cn g y x) : ∃ g', Go1 g y g' (pump2 x).1 (pump2 x).2 := by
  unfold pump2
  by_cases hn : x.wc = true ∧ x.fs = false ∧ 0 < x.cr ∧ x.S.D.length = x.S.sent
  rotate_left
  · rw [if_neg hn]; exact ⟨g, Go1.refl h⟩
  have w1 := pump2_w h.w h.st
  unfold pump2 at w1
  rw [if_pos hn] at w1 ⊢
  obtain ⟨n1, n2', n3, n4⟩ := hn
  have hfs : g.fs = false := by rw [← h.oo.fs]; exact n2'
  have hwc : g.wc = true := by rw [← h.oo.wc]; exact n1
  have hb : b2i g.fs = 0 := by rw [hfs]; rfl
  have hs := h.oo.sent
  have hD := h.oo.D
  have hun := h.d1.un
  have hDl : x.S.D.length = g.S.length - g.ua := by rw [hD, List.length_drop]
  have hnx : g.nx = g.S.length := by omega
  have hpot := h.oo.cr h.st
  have hc := h.w.cr
  have hfa : g.fa = false := by
    cases e : g.fa with
    | false => rfl
    | true => have := (h.d1.fa e).1; rw [hfs] at this; cases this
  have hpf : y.pf = false := by
    cases e : y.pf with
    | false => rfl
    | true => have := (h.d1.pf e).1; rw [hfs] at this; cases this
  have dd : Dir { g with fs := true } y := ⟨hun, fun _ => ⟨hnx, hwc⟩, fun q => (by have q' : g.fa = true := q; rw [hfa] at q'; cases q'), h.d1.rc, fun q => (by rw [hpf] at q; cases q), by show (g.nx : Int) + 1 ≤ g.pot ∧ g.pot ≤ (g.nx : Int) + 1 + 12; omega⟩
  have dd2 : Dir y { g with fs := true } := ⟨h.d2.un, h.d2.fs, h.d2.fa, h.d2.rc, h.d2.pf, h.d2.pot⟩
  have oo : OpenOk { g with fs := true } y (armF { x with fs := true, cr := x.cr - 1 }) := by
    rw [armF_eq]
    exact ⟨h.oo.una, h.oo.D, h.oo.sent, rfl, h.oo.fa, h.oo.pf, h.oo.wc, h.oo.nxt, h.oo.A, h.oo.hv, fun _ => by show g.pot = (g.nx : Int) + 1 + (x.cr - 1); omega⟩
  have mv : Mv g { g with fs := true } := ⟨rfl, ⟨[], by simp⟩, Nat.le_refl _, Int.le_refl _, fun q => by rw [hfs] at q; cases q⟩
  refine ⟨{ g with fs := true }, ⟨w1.1, w1.2.1, oo, dd, dd2, h.iss⟩, mv, fun s hs' => ?_, rfl, rfl, rfl⟩
  simp only [List.mem_singleton] at hs'
  subst hs'
  rw [h.nxt]
  have cn2 : y.pot ≤ (g.rc : Int) + b2i g.pf + 29 := h.ypot
  have hB2 := h.w.B.len
  have hp := n2_b2i g.pf
  refine ⟨g.nx, g.rc + n2 g.pf, .inr ⟨rfl, rfl⟩, rfl, ?_, fun _ => ⟨by simp [mkF], by simp [mkF], ?_⟩, fun q => ⟨rfl, rfl⟩, by show ((g.rc + n2 g.pf : Nat) : Int) ≤ (g.rc : Int) + b2i g.pf; push_cast; omega, by push_cast; omega, by simp [mkF], IsB.nil, ?_⟩
  · show rcvNxt x = _
    rw [h.rnx]
    push_cast
    omega
  · show g.pot ≤ (g.nx : Int) + 29
    omega
  · show 0 ≤ 16 - (x.B.A.length : Int) ∧ 16 - (x.B.A.length : Int) ≤ 16
    omega
theorem pump_go (h : Cn g y x) : ∃ g', Go1 g y g' (pumpF x).1 (pumpF x).2 := by
  unfold pumpF
  rw [if_pos h.st]
  obtain ⟨g1, h1⟩ := pump1_go h
  obtain ⟨g2, h2⟩ := pump2_go h1.cn
  exact ⟨g2, h1.trans h2⟩
end
end Go.Proofs.Qxb6500424aGreat
