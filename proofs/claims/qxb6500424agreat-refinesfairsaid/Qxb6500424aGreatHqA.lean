/-
  host: the plain law of the data link: whatever is decoded was sent, and lately.
-/
import Derived.Test.Qxb6500424aGreatHoB
import Derived.Test.Qxb6500424aGreatHpQ
set_option linter.unusedVariables false
set_option linter.unusedSimpArgs false
namespace Go.Proofs.Qxb6500424aGreat
/-- A datagram that a host has put out: when, whither, what. -/
structure DG where
  t : Int
  d : Int
  s : SegV
def DG.D (c : Nat) (g : DG) : List Int := encSeg ((c : Int) + 1) g.d g.s.1 g.s.2
def DG.fr (c n : Nat) (g : DG) (i : Nat) : List Int := Fm.encFrame g.d ((c : Int) + 1) 1 (Ip.pktF 6 ((c : Int) + 1) g.d ((n : Int) % 256) (g.D c) i)
structure LinkOk (c : Nat) (T : Int) (h : HS) (M : List DG) (Lg : List LE) : Prop where
  c3 : c < 3
  addr : h.addr = (c : Int) + 1
  clk : h.clk = T
  nx : h.nx = (M.length : Int) % 256
  cr : 0 ≤ h.cr ∧ h.cr ≤ 24
  base : ∃ b : Nat, (M.length : Int) = (b : Int) + (24 - h.cr) ∧ ∀ (n : Nat) g, M[n]? = some g → (n < b → g.t < T) ∧ (b ≤ n → g.t = T)
  gap : ∀ (n m : Nat) g g', M[n]? = some g → M[m]? = some g' → n + 24 ≤ m → g.t < g'.t
  ok : ∀ g ∈ M, EncOk ((c : Int) + 1) g.d g.s.1 g.s.2.length ∧ ∃ e ∈ Lg, e.t = g.t ∧ e.c = c ∧ e.d = g.d ∧ e.s = g.s
section
variable {c n m : Nat} {T : Int} {h : HS} {M : List DG} {Lg : List LE} {g g' : DG}
theorem LinkOk.far (h : LinkOk c T h M Lg) : ∀ (k n m : Nat) g g', M[n]? = some g → M[m]? = some g' → n + 24 * k ≤ m → (0 < k ∨ n = m) → g.t + k ≤ g'.t
  | 0, n, m, g, g', h1, h2, h3, h4 => by
    rcases h4 with q | q
    · omega
    · subst q; rw [h1] at h2; cases h2; simp
  | k + 1, n, m, g, g', h1, h2, h3, h4 => by
    have hm := (List.getElem?_eq_some_iff.1 h2).1
    obtain ⟨g1, hg1⟩ : ∃ g1, M[n + 24]? = some g1 := ⟨_, List.getElem?_eq_getElem (by omega)⟩
    have a := h.gap n (n + 24) g g1 h1 hg1 (Nat.le_refl _)
    by_cases q : k = 0
    · subst q
      have := h.gap n m g g' h1 h2 (by omega)
      simp
      omega
    · have := LinkOk.far h k (n + 24) m g1 g' hg1 h2 (by omega) (.inl (by omega))
      omega
/-- Two datagrams of one host with the same number lie ten ticks apart. -/
theorem LinkOk.ids (h : LinkOk c T h M Lg) (h1 : M[n]? = some g) (h2 : M[m]? = some g') (he : (n : Int) % 256 = (m : Int) % 256) (hn : g'.t - 9 ≤ g.t) (hn2 : g.t - 9 ≤ g'.t) : n = m := by
  rcases Nat.lt_trichotomy n m with q | q | q
  · have := h.far 10 n m g g' h1 h2 (by omega) (.inl (by omega))
    omega
  · exact q
  · have := h.far 10 m n g' g h2 h1 (by omega) (.inl (by omega))
    omega
theorem LinkOk.le (h : LinkOk c T h M Lg) (h1 : M[n]? = some g) : g.t ≤ T := by
  obtain ⟨b, _, hb⟩ := h.base
  have := hb n g h1
  by_cases q : n < b
  · have := this.1 q; omega
  · have := this.2 (by omega); omega
theorem DG.len (hk : EncOk ((c : Int) + 1) g.d g.s.1 g.s.2.length) : 8 ≤ (g.D c).length ∧ (g.D c).length ≤ 20 := by
  have := hk.n
  unfold DG.D
  rw [encSeg_len]
  omega
theorem encErr_ok {src dst : Int} {hh : Hd} {n : Nat} (h : encErr src dst hh n = 0) : EncOk src dst hh n := by
  unfold encErr at h
  split at h
  · cases h
  split at h
  · cases h
  split at h
  · cases h
  split at h
  · cases h
  split at h
  · cases h
  rename_i a b c d e
  unfold off at a b c d
  exact ⟨by omega, by omega, by omega, by omega, by omega, by omega, by omega, by omega, by omega⟩
/-! ### frames out -/
structure FL where
  raw : List Int
  age : Int
  fl : Bool
/-- The frame was put out by a host. -/
structure FrOk (T : Int) (M : Nat → List DG) (f : FL) (c n i : Nat) (g : DG) : Prop where
  c3 : c < 3
  at_ : (M c)[n]? = some g
  il : i < Ip.cntF (g.D c).length
  a0 : 0 ≤ f.age
  age : f.age ≤ 4 → f.age = T - g.t
  raw : f.fl = false → f.raw = g.fr c n i
  flip : f.fl = true → ∃ j x y, (g.fr c n i)[j]? = some x ∧ (0 ≤ x ∧ x < 256) ∧ (0 ≤ y ∧ y < 256) ∧ y ≠ x ∧ f.raw = (g.fr c n i).set j y
def frF (F : List Int) : Bool := decide (9 < F.length) && decide (F.getD 9 0 % 128 = 0)
def nFirst (Fs : List (List Int)) : Nat := (Fs.filter frF).length
def updM (M : Nat → List DG) (c : Nat) (E : List DG) : Nat → List DG := fun k => if k = c then M k ++ E else M k
theorem updM_at {M : Nat → List DG} {E : List DG} {k n : Nat} {g : DG} (h : (M k)[n]? = some g) : (updM M c E k)[n]? = some g := by
  unfold updM
  split
  · rw [List.getElem?_append_left (List.getElem?_eq_some_iff.1 h).1]; exact h
  · exact h
theorem FrOk.upd {M : Nat → List DG} {E : List DG} {f : FL} {c' i : Nat} (h : FrOk T M f c n i g) : FrOk T (updM M c' E) f c n i g := ⟨h.c3, updM_at h.at_, h.il, h.a0, h.age, h.raw, h.flip⟩
theorem fr_first {src dst id : Int} {D : List Int} {i : Nat} (hD : D.length ≤ 40) (hi : i < Ip.cntF D.length) : frF (Fm.encFrame dst src 1 (Ip.pktF 6 src dst id D i)) = decide (i = 0) := by
  have h3 := (Ip.cntF_le hD).2.1
  have key : ∀ (om : Int) (d : List Int), frF (Fm.encFrame dst src 1 (Ip.pkt 6 src dst id om d)) = decide (om % 128 = 0) := fun om d => by
    unfold frF
    rw [Fm.encFrame_length, Ip.pkt_length, decide_eq_true (by omega), Bool.true_and]
    rfl
  unfold Ip.pktF
  have e : i = 0 ∨ i = 1 ∨ i = 2 := by omega
  split
  · rw [key]
    rcases e with rfl | rfl | rfl <;> decide
  · rw [key]
    rcases e with rfl | rfl | rfl <;> decide
theorem frm_first {src dst id : Int} {D : List Int} (hD : D.length ≤ 40) : nFirst (frm src dst id D) = 1 := by
  have h1 := Ip.cntF_le hD
  unfold nFirst frm
  have key : ∀ n, n ≤ Ip.cntF D.length → (((List.range n).map fun i => Fm.encFrame dst src 1 (Ip.pktF 6 src dst id D i)).filter frF).length = if n = 0 then 0 else 1 := fun n => by
    induction n with
    | zero => intro _; rfl
    | succ n ih =>
      intro hn
      rw [List.range_succ, List.map_append, List.filter_append, List.length_append, ih (by omega)]
      simp only [List.map_cons, List.map_nil, List.filter_cons, List.filter_nil]
      rw [fr_first hD (by omega)]
      by_cases q : n = 0
      · subst q; rfl
      · rw [if_neg q, if_neg (by simpa using q), if_neg (by omega)]; rfl
  rw [key _ (Nat.le_refl _), if_neg (by omega)]
/-- The frames of datagrams, the first of which has the number n. -/
def fsOf (c : Nat) : Nat → List DG → List (List Int)
  | _, [] => []
  | n, g :: l => (List.range (Ip.cntF (g.D c).length)).map (fun i => g.fr c n i) ++ fsOf c (n + 1) l
theorem fsOf_append (c : Nat) : ∀ (E1 E2 : List DG) (n : Nat), fsOf c n (E1 ++ E2) = fsOf c n E1 ++ fsOf c (n + E1.length) E2
  | [], E2, n => by simp [fsOf]
  | g :: l, E2, n => by
    show _ ++ fsOf c (n + 1) (l ++ E2) = (_ ++ fsOf c (n + 1) l) ++ fsOf c (n + (l.length + 1)) E2
    rw [fsOf_append c l E2 (n + 1), List.append_assoc, show n + 1 + l.length = n + (l.length + 1) by omega]
def encB (c : Nat) (o : OutS) : Bool := decide (encErr ((c : Int) + 1) o.1 o.2.1 o.2.2.length = 0)
def dgO (T : Int) (o : OutS) : DG := ⟨T, o.1, o.2⟩
structure SentR (c : Nat) (T : Int) (h h' : HS) (M : List DG) (Lg : List LE) (Fs : List (List Int)) (E : List DG) : Prop where
  ok : LinkOk c T h' (M ++ E) Lg
  t : h'.t = h.t
  A : h'.A = h.A
  cr : h'.cr = h.cr - (E.length : Int)
  nf : nFirst Fs = E.length
  fr : ∀ F ∈ Fs, ∃ (n i : Nat) (g : DG), (M ++ E)[n]? = some g ∧ g.t = T ∧ i < Ip.cntF (g.D c).length ∧ F = g.fr c n i
  lost : h.lost ≤ h'.lost ∧ (h.lost < h'.lost → h'.cr = 0)
  ex : Fs = fsOf c M.length E
theorem LinkOk.send1 {o : OutS} (h0 : LinkOk c T h M Lg) (hc : ∃ e ∈ Lg, e.t = T ∧ e.c = c ∧ e.d = o.1 ∧ e.s = o.2) : ∃ E, SentR c T h (sendH h o).1 M Lg (sendH h o).2 E ∧ E.length ≤ 1 ∧ (sendH h o).1.lost ≤ h.lost + 1 ∧ ((sendH h o).1.lost = h.lost → E = ([o].filter (encB c)).map (dgO T)) := by
  unfold sendH
  by_cases h1 : encErr h.addr o.1 o.2.1 o.2.2.length ≠ 0
  · rw [if_pos h1]
    refine ⟨[], ⟨by rw [List.append_nil]; exact h0, rfl, rfl, by simp, rfl, fun F hF => (by cases hF), by simp, rfl⟩, by simp, by show h.lost ≤ h.lost + 1; omega, fun _ => ?_⟩
    have : encB c o = false := by unfold encB; rw [← h0.addr]; exact decide_eq_false h1
    simp [List.filter_cons, this]
  rw [if_neg h1]
  have hk : encErr h.addr o.1 o.2.1 o.2.2.length = 0 := by simpa using h1
  have ek := encErr_ok hk
  rw [h0.addr] at ek
  by_cases h2 : h.cr ≤ 0
  · rw [if_pos h2]
    refine ⟨[], ⟨?_, rfl, rfl, by simp, rfl, fun F hF => (by cases hF), ⟨by show h.lost ≤ h.lost + 1; omega, fun _ => by show h.cr = 0; have := h0.cr; omega⟩, rfl⟩, by simp, Int.le_refl _, fun q => (by have q' : h.lost + 1 = h.lost := q; omega)⟩
    rw [List.append_nil]
    exact ⟨h0.c3, h0.addr, h0.clk, h0.nx, h0.cr, h0.base, h0.gap, h0.ok⟩
  rw [if_neg h2]
  obtain ⟨b, hb1, hb2⟩ := h0.base
  have hcr := h0.cr
  let g : DG := ⟨T, o.1, o.2⟩
  have hD : g.D c = sgB h.addr o := by unfold DG.D sgB; rw [h0.addr]
  have hat : (M ++ [g])[M.length]? = some g := by simp
  have hlen : (g.D c).length ≤ 40 := by have := DG.len (g := g) (c := c) ek; omega
  have cs : ∀ {k : Nat} {y : DG}, (M ++ [g])[k]? = some y → M[k]? = some y ∨ (k = M.length ∧ y = g) := fun {k y} hy => by
    rcases Nat.lt_trichotomy k M.length with q | q | q
    · rw [List.getElem?_append_left q] at hy; exact .inl hy
    · subst q; rw [hat] at hy; cases hy; exact .inr ⟨rfl, rfl⟩
    · rw [List.getElem?_eq_none (by simp; omega)] at hy; cases hy
  refine ⟨[g], ⟨⟨h0.c3, h0.addr, h0.clk, ?_, ?_, ⟨b, ?_, fun k y hy => ?_⟩, fun k m y y' hy hy' hkm => ?_, fun y hy => ?_⟩, rfl, rfl, rfl, ?_, fun F hF => ?_, ⟨Int.le_refl _, fun q => absurd q (Int.lt_irrefl _)⟩, ?_⟩, by simp, by show h.lost ≤ h.lost + 1; omega, fun _ => ?_⟩
  · show (h.nx + 1) % 256 = _
    rw [h0.nx]
    simp
  · show 0 ≤ h.cr - 1 ∧ h.cr - 1 ≤ 24
    omega
  · show _ = (b : Int) + (24 - (h.cr - 1))
    simp
    omega
  · rcases cs hy with q | ⟨q, rfl⟩
    · exact hb2 k y q
    · exact ⟨fun z => by omega, fun _ => rfl⟩
  · rcases cs hy with q | ⟨q, rfl⟩
    · rcases cs hy' with q' | ⟨q', rfl⟩
      · exact h0.gap k m y y' q q' hkm
      · have := (hb2 k y q).1 (by omega)
        exact this
    · rcases cs hy' with q' | ⟨q', rfl⟩
      · have := (List.getElem?_eq_some_iff.1 q').1; omega
      · omega
  · rcases List.mem_append.1 hy with q | q
    · exact h0.ok y q
    · rw [List.mem_singleton.1 q]
      exact ⟨ek, hc⟩
  · rw [← hD]
    exact frm_first hlen
  · simp only [frm, List.mem_map, List.mem_range] at hF
    obtain ⟨i, hi, rfl⟩ := hF
    refine ⟨M.length, i, g, hat, rfl, by rw [hD]; exact hi, ?_⟩
    unfold DG.fr
    rw [hD, h0.addr, h0.nx]
  · show frm h.addr o.1 h.nx (sgB h.addr o) = _ ++ []
    rw [List.append_nil]
    unfold frm DG.fr
    rw [hD, h0.addr, h0.nx]
  · have : encB c o = true := by unfold encB; rw [← h0.addr]; exact decide_eq_true hk
    simp [List.filter_cons, this]
    rfl
theorem nFirst_app (A B : List (List Int)) : nFirst (A ++ B) = nFirst A + nFirst B := by simp [nFirst]
theorem LinkOk.send : ∀ (O : List OutS) (h : HS) (M : List DG), LinkOk c T h M Lg → (∀ o ∈ O, ∃ e ∈ Lg, e.t = T ∧ e.c = c ∧ e.d = o.1 ∧ e.s = o.2) → ∃ E, SentR c T h (sendAllH h O).1 M Lg (sendAllH h O).2 E ∧ E.length ≤ O.length ∧ (sendAllH h O).1.lost ≤ h.lost + O.length ∧ ((sendAllH h O).1.lost = h.lost → E = (O.filter (encB c)).map (dgO T))
  | [], h, M, h0, _ => ⟨[], ⟨by rw [List.append_nil]; exact h0, rfl, rfl, by simp [sendAllH], rfl, fun F hF => (by cases hF), by simp [sendAllH], rfl⟩, by simp, by simp [sendAllH], fun _ => rfl⟩
  | o :: O, h, M, h0, hc => by
    obtain ⟨E1, s1, l1, b1, x1⟩ := h0.send1 (hc o (List.mem_cons_self ..))
    obtain ⟨E2, s2, l2, b2, x2⟩ := LinkOk.send O (sendH h o).1 (M ++ E1) s1.ok (fun x hx => hc x (List.mem_cons_of_mem _ hx))
    have c1 := s1.cr
    have c2 := s2.cr
    have r1 := s1.lost
    have r2 := s2.lost
    have z := s2.ok.cr
    refine ⟨E1 ++ E2, ⟨by rw [← List.append_assoc]; exact s2.ok, s2.t.trans s1.t, s2.A.trans s1.A, ?_, ?_, fun F hF => ?_, ⟨?_, ?_⟩, ?_⟩, ?_, ?_, fun q => ?_⟩
    · show (sendAllH (sendH h o).1 O).1.cr = _
      rw [List.length_append]
      omega
    · show nFirst ((sendH h o).2 ++ (sendAllH (sendH h o).1 O).2) = _
      rw [nFirst_app, s1.nf, s2.nf, List.length_append]
    · rcases List.mem_append.1 hF with q | q
      · obtain ⟨n, i, g, a1, a2, a3, a4⟩ := s1.fr F q
        exact ⟨n, i, g, by rw [← List.append_assoc, List.getElem?_append_left (List.getElem?_eq_some_iff.1 a1).1]; exact a1, a2, a3, a4⟩
      · obtain ⟨n, i, g, a1, a2, a3, a4⟩ := s2.fr F q
        exact ⟨n, i, g, by rw [← List.append_assoc]; exact a1, a2, a3, a4⟩
    · show h.lost ≤ (sendAllH (sendH h o).1 O).1.lost
      omega
    · intro q
      show (sendAllH (sendH h o).1 O).1.cr = 0
      have q' : h.lost < (sendAllH (sendH h o).1 O).1.lost := q
      by_cases z1 : (sendH h o).1.lost < (sendAllH (sendH h o).1 O).1.lost
      · exact r2.2 z1
      · have := r1.2 (by omega)
        omega
    · show (sendH h o).2 ++ (sendAllH (sendH h o).1 O).2 = _
      rw [fsOf_append, s1.ex, s2.ex, List.length_append]
    · simp
      omega
    · show (sendAllH (sendH h o).1 O).1.lost ≤ _
      simp
      omega
    · have q' : (sendAllH (sendH h o).1 O).1.lost = h.lost := q
      rw [x1 (by omega), x2 (by omega), ← List.map_append, ← List.filter_append]
      rfl
end
end Go.Proofs.Qxb6500424aGreat
