/-
  host: the plain world: three hosts with their frames, and the wire.
-/
import Derived.Test.Qxb6500424aGreatHqB
set_option linter.unusedVariables false
set_option linter.unusedSimpArgs false
namespace Go.Proofs.Qxb6500424aGreat
structure PW (T : Int) (H : Nat → HS) (W : List FL) (G : List GE) (X : Nat → CS) (Lg : List LE) (M : Nat → List DG) : Prop where
  sys : Sys T (fun c => (H c).t) G X Lg
  lk : ∀ c, c < 3 → LinkOk c T (H c) (M c) Lg
  rs : ∀ c, c < 3 → RsAll T c M (H c).A
  fr : ∀ f ∈ W, ∃ c n i g, FrOk T M f c n i g
def updS (H : Nat → HS) (c : Nat) (v : HS) : Nat → HS := fun k => if k = c then v else H k
theorem updS_at (H : Nat → HS) (c : Nat) (v : HS) : updS H c v c = v := by simp [updS]
theorem updS_ne {H : Nat → HS} {c k : Nat} {v : HS} (h : k ≠ c) : updS H c v k = H k := by unfold updS; rw [if_neg h]
theorem updS_t (H : Nat → HS) (c : Nat) (v : HS) : (fun k => (updS H c v k).t) = updH (fun k => (H k).t) c v.t := by
  funext k
  unfold updS updH
  split <;> rfl
/-- What a host's answer is good for. -/
structure Ans (T : Int) (c : Nat) (h h' : HS) (Fs : List (List Int)) (M' : Nat → List DG) (n : Nat) : Prop where
  fr : ∀ F ∈ Fs, ∃ c n i g, FrOk T M' ⟨F, 0, false⟩ c n i g
  cr : h'.cr = h.cr - (nFirst Fs : Int)
  le : nFirst Fs ≤ n
  lost : h.lost ≤ h'.lost ∧ (h.lost < h'.lost → h'.cr = 0) ∧ h'.lost ≤ h.lost + n
  clk : h'.clk = h.clk
  addr : h'.addr = h.addr
section
variable {T : Int} {H : Nat → HS} {W : List FL} {G G' : List GE} {X X' : Nat → CS} {Lg N : List LE} {M : Nat → List DG} {c : Nat} {h1 : HS} {O : List OutS}
theorem LinkOk.logs {h : HS} {Mc : List DG} (h0 : LinkOk c T h Mc Lg) : LinkOk c T h Mc (Lg ++ N) :=
  ⟨h0.c3, h0.addr, h0.clk, h0.nx, h0.cr, h0.base, h0.gap, fun g hg => ⟨(h0.ok g hg).1, by
    obtain ⟨e, he, r⟩ := (h0.ok g hg).2
    exact ⟨e, List.mem_append.2 (.inl he), r⟩⟩⟩
/-- What was sent, exactly. -/
structure SentX (T : Int) (c : Nat) (M M' : Nat → List DG) (O : List OutS) (Fs : List (List Int)) (same : Prop) : Prop where
  ex : ∃ E, M' c = M c ++ E ∧ Fs = fsOf c (M c).length E ∧ (same → E = (O.filter (encB c)).map (dgO T))
  oth : ∀ k, k ≠ c → M' k = M k
theorem PW.sent (h : PW T H W G X Lg M) (hc : c < 3) (hs : Sys T (updH (fun k => (H k).t) c h1.t) G' X' (Lg ++ N)) (hcov : Cov T c O N)
    (e1 : h1.addr = (H c).addr) (e2 : h1.clk = (H c).clk) (e3 : h1.nx = (H c).nx) (e4 : h1.cr = (H c).cr) (e5 : h1.lost = (H c).lost) (hA : RsAll T c M h1.A) :
    ∃ M', PW T (updS H c (sendAllH h1 O).1) W G' X' (Lg ++ N) M' ∧ Ans T c (H c) (sendAllH h1 O).1 (sendAllH h1 O).2 M' O.length ∧ SentX T c M M' O (sendAllH h1 O).2 ((sendAllH h1 O).1.lost = (H c).lost) := by
  have l0 := h.lk c hc
  have l1 : LinkOk c T h1 (M c) (Lg ++ N) := by
    have := LinkOk.logs (N := N) l0
    exact ⟨this.c3, by rw [e1]; exact this.addr, by rw [e2]; exact this.clk, by rw [e3]; exact this.nx, by rw [e4]; exact this.cr, by rw [e4]; exact this.base, this.gap, this.ok⟩
  obtain ⟨E, s, b1, b2, x2⟩ := LinkOk.send O h1 (M c) l1 (fun o ho => by
    obtain ⟨e, he, r⟩ := hcov o ho
    exact ⟨e, List.mem_append.2 (.inr he), r⟩)
  obtain ⟨f1, f2, f3, f4, f5⟩ := sendAllH_t O h1
  have eM : ∀ k, k ≠ c → updM M c E k = M k := fun k hk => by unfold updM; rw [if_neg hk]
  have eMc : updM M c E c = M c ++ E := by unfold updM; rw [if_pos rfl]
  refine ⟨updM M c E, ⟨?_, fun k hk => ?_, fun k hk => ?_, fun f hf => ?_⟩, ⟨?_, ?_, ?_, ?_, by rw [f3, e2], by rw [f2, e1]⟩, ⟨E, eMc, s.ex, fun q => x2 (by rw [q, e5])⟩, eM⟩
  · rw [updS_t, f1]
    exact hs
  · by_cases q : k = c
    · subst q; rw [updS_at, eMc]; exact s.ok
    · rw [updS_ne q, eM k q]; exact (h.lk k hk).logs
  · by_cases q : k = c
    · subst q; rw [updS_at, s.A]; exact hA.upd
    · rw [updS_ne q]; exact (h.rs k hk).upd
  · obtain ⟨c', n, i, g, r⟩ := h.fr f hf
    exact ⟨c', n, i, g, r.upd⟩
  · intro F hF
    obtain ⟨n, i, g, a1, a2, a3, rfl⟩ := s.fr F hF
    exact ⟨c, n, i, g, hc, by rw [eMc]; exact a1, a3, Int.le_refl _, fun _ => by show (0 : Int) = _; omega, fun _ => rfl, fun q => by cases q⟩
  · have := s.cr
    rw [s.nf, ← e4]
    exact this
  · rw [s.nf]; exact b1
  · rw [← e5]
    exact ⟨s.lost.1, s.lost.2, b2⟩
theorem PW.wire {W' : List FL} (h : PW T H W G X Lg M) (hf : ∀ f ∈ W', ∃ c n i g, FrOk T M f c n i g) : PW T H W' G X Lg M := ⟨h.sys, h.lk, h.rs, hf⟩
/-- The host that a frame is for has moved its link, its reassembly and its counters alone. -/
theorem PW.quiet {v : HS} (h : PW T H W G X Lg M) (hc : c < 3) (e0 : v.t = (H c).t) (e1 : v.addr = (H c).addr) (e2 : v.clk = (H c).clk) (e3 : v.nx = (H c).nx) (e4 : v.cr = (H c).cr) (hA : RsAll T c M v.A) : PW T (updS H c v) W G X Lg M := by
  refine ⟨?_, fun k hk => ?_, fun k hk => ?_, h.fr⟩
  · rw [updS_t, e0]
    have := updH_same (fun k => (H k).t) c
    rw [this]
    exact h.sys
  · by_cases q : k = c
    · subst q; rw [updS_at]
      have l0 := h.lk k hk
      exact ⟨l0.c3, by rw [e1]; exact l0.addr, by rw [e2]; exact l0.clk, by rw [e3]; exact l0.nx, by rw [e4]; exact l0.cr, by rw [e4]; exact l0.base, l0.gap, l0.ok⟩
    · rw [updS_ne q]; exact h.lk k hk
  · by_cases q : k = c
    · subst q; rw [updS_at]; exact hA
    · rw [updS_ne q]; exact h.rs k hk
/-! ### how much one call sends -/
theorem pump_len (x : CS) : (pumpF x).2.length ≤ 2 := by
  have p1 : ∀ y : CS, (pump1 y).2.length ≤ 1 := fun y => by unfold pump1; split <;> simp
  have p2 : ∀ y : CS, (pump2 y).2.length ≤ 1 := fun y => by unfold pump2; split <;> simp
  unfold pumpF
  split
  · rw [List.length_append]
    have := p1 x
    have := p2 (pump1 x).1
    omega
  · simp
theorem goon_len (sq f : Int) (D : List Int) (x : CS) : (goonF sq f D x).2.length ≤ 3 := by
  unfold goonF
  split
  · have := pump_len (takeF sq f D x)
    simp
    omega
  · have := pump_len x
    show (pumpF x).2.length ≤ 3
    omega
theorem openF_len (ak wn sq f : Int) (D : List Int) (x : CS) : (openF ak wn sq f D x).2.length ≤ 3 := by
  unfold openF
  split
  · exact goon_len _ _ _ _
  · simp
theorem input_len (s : SegV) (x : CS) : (inputF s.1 s.2 x).2.length ≤ 3 := by
  unfold inputF
  split
  · unfold quietF; split <;> simp
  split
  · unfold synSentF
    split
    · split <;> simp
    split
    · split <;> simp
    split <;> simp
  split
  · unfold syncF
    split
    · split <;> simp
    split
    · split <;> simp
    split
    · simp
    split
    · split
      · simp
      · exact openF_len _ _ _ _ _ _
    · exact openF_len _ _ _ _ _ _
  · simp
theorem tick_len (x : CS) : (tickF x).2.length ≤ 3 := by
  unfold tickF
  split
  · simp
  split
  · simp
  split
  · split
    · split
      · simp
      · have := pump_len (armF { x with cr := 12, tm := x.tm - 1, rt := x.rt + 1 })
        simp
        omega
    · have := pump_len { x with cr := 12, tm := x.tm - 1 }
      show (pumpF _).2.length ≤ 3
      omega
  · have := pump_len { x with cr := 12 }
    show (pumpF _).2.length ≤ 3
    omega
theorem inSeg_len (clk src : Int) (s : SegV) (t : TC) : (inSegT clk src s t).2.1.length ≤ 3 := by
  unfold inSegT
  split
  · show (toRowT _ s t).2.length ≤ 3
    unfold toRowT
    split
    · simp
    · rename_i a _
      have := input_len s (t.C (slotN a))
      simp
      omega
  split
  · unfold toLisT
    split
    · simp
    split
    · simp
    · split
      · simp
      · unfold openPF
        split
        · simp
        split <;> simp
  split
  · simp
  · simp
/-- A datagram is whole: its segment goes up. -/
theorem PW.top {d n c : Nat} {g : DG} {raw : List Int} {L' : Fm.LinkS} {A' : List Ip.AR} (h : PW T H W G X Lg M) (hd : d < 3) (hc : c < 3) (hat : (M c)[n]? = some g) (hdst : g.d = (d : Int) + 1) (ht : T - 4 ≤ g.t) (eI : inputH (H d) raw = inTopH { H d with L := L', A := A' } ((c : Int) + 1) g.s) (hA : RsAll T d M A') :
    ∃ G' X' Lg' M', PW T (updS H d (inputH (H d) raw).1) W G' X' Lg' M' ∧ Ans T d (H d) (inputH (H d) raw).1 (inputH (H d) raw).2 M' 3 ∧ TrAll T G X G' X' ∧ SameSR G G' ∧ One d G X X' ∧ (G'.length = G.length ∨ ∃ y p, G' = G ++ [y] ∧ Born T d G y p (X' G.length)) ∧
      SegX d (H d).t G X X' ((c : Int) + 1) g.s (inSegT T ((c : Int) + 1) g.s (H d).t).2.1 ∧ SentX T d M M' (inSegT T ((c : Int) + 1) g.s (H d).t).2.1 (inputH (H d) raw).2 ((inputH (H d) raw).1.lost = (H d).lost) ∧ (inputH (H d) raw).1.A = A' ∧ (Sk.lookE (H d).t.K.E g.s.1.dp ((c : Int) + 1) g.s.1.sp ≠ 0 → G'.length = G.length) ∧ (inputH (H d) raw).1.t = (inSegT T ((c : Int) + 1) g.s (H d).t).1 ∧ (Sk.lookE (H d).t.K.E g.s.1.dp ((c : Int) + 1) g.s.1.sp = 0 → g.s.1.fl = 1 → Sk.lisE (H d).t.K.E g.s.1.dp ≠ 0 → (Sk.childA g.s.1.dp ((c : Int) + 1) g.s.1.sp (H d).t.K).1.2 = 0 → Birth T g.t d G G' X' (inSegT T ((c : Int) + 1) g.s (H d).t).2.1) := by
  have ld := h.lk d hd
  obtain ⟨_, e, hem, et, ec, ed, es⟩ := (h.lk c hc).ok g (List.mem_of_getElem? hat)
  obtain ⟨G', X', N, aft, sr, hl, hone, hx, hnb, hbi⟩ := h.sys.seg hd (by rw [ec]; exact hc) hem (by rw [et]; exact ht) (by rw [ed]; exact hdst)
  rw [ec, es] at aft hx hnb hbi
  rw [et] at hbi
  rw [eI]
  have hlen := inSeg_len T ((c : Int) + 1) g.s (H d).t
  have hv : inSegT (H d).clk ((c : Int) + 1) g.s (H d).t = inSegT T ((c : Int) + 1) g.s (H d).t := by rw [ld.clk]
  generalize inSegT T ((c : Int) + 1) g.s (H d).t = v at aft hlen hv hx hbi
  have key : inTopH { H d with L := L', A := A' } ((c : Int) + 1) g.s = sendAllH (dropH { H d with L := L', A := A', t := v.1 } v.2.2) v.2.1 := by
    show sendAllH (dropH { H d with L := L', A := A', t := (inSegT (H d).clk ((c : Int) + 1) g.s (H d).t).1 } (inSegT (H d).clk ((c : Int) + 1) g.s (H d).t).2.2) (inSegT (H d).clk ((c : Int) + 1) g.s (H d).t).2.1 = _
    rw [hv]
  rw [key]
  generalize eh : dropH { H d with L := L', A := A', t := v.1 } v.2.2 = h1
  have et1 : h1.t = v.1 := by rw [← eh]; rfl
  obtain ⟨M', pw, ans, sx⟩ := h.sent (h1 := h1) hd (by rw [et1]; exact aft.sys) aft.cov (by rw [← eh]; rfl) (by rw [← eh]; rfl) (by rw [← eh]; rfl) (by rw [← eh]; rfl) (by rw [← eh]; rfl) (by rw [← eh]; exact hA)
  exact ⟨G', X', Lg ++ N, M', pw, ⟨ans.fr, ans.cr, Nat.le_trans ans.le hlen, ⟨ans.lost.1, ans.lost.2.1, by have := ans.lost.2.2; omega⟩, ans.clk, ans.addr⟩, aft.tr, sr, hone, hl, hx, sx, by rw [(sendAllH_t _ h1).2.2.2.1, ← eh]; rfl, hnb, by rw [(sendAllH_t _ h1).1]; exact et1, hbi⟩
theorem PW.input {f : FL} {d : Nat} (h : PW T H W G X Lg M) (hd : d < 3) (hf : ∃ c n i g, FrOk T M f c n i g) (ha : f.age ≤ 4) :
    ∃ G' X' Lg' M', PW T (updS H d (inputH (H d) f.raw).1) W G' X' Lg' M' ∧ Ans T d (H d) (inputH (H d) f.raw).1 (inputH (H d) f.raw).2 M' 3 ∧ TrAll T G X G' X' ∧ SameSR G G' ∧ One d G X X' ∧ (G'.length = G.length ∨ ∃ y p, G' = G ++ [y] ∧ Born T d G y p (X' G.length)) := by
  obtain ⟨c, n, i, g, r⟩ := hf
  have ld := h.lk d hd
  rcases input_cases h.lk (h.rs d hd) hd r ha with ⟨eF, L', A', dr', eH, hA⟩ | ⟨_, hdst, ht, L', A', eI, hA⟩
  · refine ⟨G, X, Lg, M, ?_, ?_, TrAll.refl _ _ _, SameSR.refl G, One.refl _ _ _, .inl rfl⟩
    · rw [eH]
      exact h.quiet hd rfl rfl rfl rfl rfl hA
    · rw [eF, eH]
      exact ⟨fun F hF => (by cases hF), by show (H d).cr = (H d).cr - ((0 : Nat) : Int); omega, Nat.zero_le _, ⟨Int.le_refl _, fun q => absurd q (Int.lt_irrefl _), by show (H d).lost ≤ (H d).lost + 3; omega⟩, rfl, rfl⟩
  · obtain ⟨G', X', Lg', M', q1, q2, q3, q4, q5, q6, _⟩ := h.top hd r.c3 r.at_ hdst ht eI hA
    exact ⟨G', X', Lg', M', q1, q2, q3, q4, q5, q6⟩
end
end Go.Proofs.Qxb6500424aGreat
