/-
  host: the plain law of the network: a segment comes to a host: the whole; Connect.
-/
import Derived.Test.Qxb6500424aGreatHpM
set_option linter.unusedVariables false
set_option linter.unusedSimpArgs false
namespace Go.Proofs.Qxb6500424aGreat
/-- A child is born. -/
structure Born (T : Int) (c : Nat) (G : List GE) (y : GE) (p : Nat) (x : CS) : Prop where
  cl : y.cl = false
  pr : y.pr = some p
  z : Zero y
  h : y.h = c
  ot : y.ot = none
  et : y.et = none
  gone : y.gone = false
  st : x.st = 2
  why : x.why = 0
  of : ∃ q, G[p]? = some q ∧ q.cl = true ∧ Mirror q y ∧ ∀ (k : Nat) z, G[k]? = some z → SameT q z → k ≤ p
def SameSR (G G' : List GE) : Prop := ∀ (i : Nat) g g2, G[i]? = some g → G'[i]? = some g2 → g2.S = g.S ∧ g2.R = g.R ∧ g2.wc = g.wc
theorem SameSR.refl (G : List GE) : SameSR G G := fun i g g2 h1 h2 => by rw [h1] at h2; cases h2; exact ⟨rfl, rfl, rfl⟩
section
variable {T : Int} {t : Nat → TC} {G : List GE} {X : Nat → CS} {Lg N : List LE} {c i : Nat} {g g2 : GE} {x' : CS} {a : Sk.AE} {e : LE}
theorem low_free {E : List Sk.AE} (h : Sk.lowE E ≠ -1) : ∃ s : Nat, s < 4 ∧ Sk.lowE E = (s : Int) ∧ ∀ a ∈ E, a.1.kind = 2 → a.1.slot ≠ (s : Int) := by
  have key : ∀ s : Nat, Sk.occE E s = false → ∀ a ∈ E, a.1.kind = 2 → a.1.slot ≠ (s : Int) := fun s hs a ha hk q => by
    have := Sk.occE_iff.2 ⟨a, ha, hk, q⟩
    rw [hs] at this
    cases this
  unfold Sk.lowE Sk.lowF at h ⊢
  by_cases c0 : Sk.occE E 0 = false
  · exact ⟨0, by omega, by rw [if_pos c0]; rfl, key 0 c0⟩
  rw [if_neg c0] at h ⊢
  by_cases c1 : Sk.occE E 1 = false
  · exact ⟨1, by omega, by rw [if_pos c1]; rfl, key 1 c1⟩
  rw [if_neg c1] at h ⊢
  by_cases c2 : Sk.occE E 2 = false
  · exact ⟨2, by omega, by rw [if_pos c2]; rfl, key 2 c2⟩
  rw [if_neg c2] at h ⊢
  by_cases c3 : Sk.occE E 3 = false
  · exact ⟨3, by omega, by rw [if_pos c3]; rfl, key 3 c3⟩
  rw [if_neg c3] at h
  exact absurd rfl h
theorem getE_new {S : Sk.SkS} {e : Sk.Ent} (hS : Sk.SkOk S) : Sk.getE (S.E ++ [({ e with sd := S.nsd }, 0)]) S.nsd = some ({ e with sd := S.nsd }, 0) := by
  unfold Sk.getE
  rw [List.find?_append]
  have : S.E.find? (fun a => decide (a.1.sd = S.nsd)) = none := by
    rw [List.find?_eq_none]
    intro a ha
    have := hS.ei.sd a ha
    simp
    omega
  rw [this]
  simp
/-- Whoever stood on a four-tuple that has no row is gone. -/
theorem Tab.gone {u : TC} {lp rh rp : Int} (h : Tab c u G X) (h0 : Sk.lookE u.K.E lp rh rp = 0) : ∀ (k : Nat) z, G[k]? = some z → z.h = c → z.lp = lp → z.rh = rh → z.rp = rp → z.gone = true := fun k z hz e1 e2 e3 e4 => by
  cases hg : z.gone with
  | true => rfl
  | false =>
    exfalso
    obtain ⟨b, hb, hkb, hsd⟩ := h.end_ k z hz e1 hg
    obtain ⟨k2, z2, r⟩ := h.row b hb hkb
    have hk : k2 = k := h.uniq k2 k z2 z r.at_ hz r.h e1 (by rw [r.sd, hsd])
    subst hk
    have := r.at_
    rw [hz] at this
    cases this
    exact Sk.lookE_zero h.sk.ei h0 b hb (Sk.lookP_iff.2 ⟨hkb, by rw [← r.lp]; exact e2, by rw [← r.rh]; exact e3, by rw [← r.rp]; exact e4⟩)
/-- A child is born of a SYN. -/
def Birth (T t0 : Int) (c : Nat) (G G' : List GE) (X' : Nat → CS) (O : List OutS) : Prop :=
  ∃ y p q0, G' = G ++ [y] ∧ Born T c G y p (X' G.length) ∧ G[p]? = some q0 ∧ NotB q0 t0 ∧ (X' G.length).tm = 2 ∧ (X' G.length).rt = 0 ∧ O = [(y.rh, ({ (againF (X' G.length)).1 with sp := y.lp, dp := y.rp }, (againF (X' G.length)).2))]
theorem Sys.toLis (h : Sys T t G X Lg) (hc : c < 3) (hec : e.c < 3) (hem : e ∈ Lg) (ht : T - 4 ≤ e.t) (hd : e.d = (c : Int) + 1) (h0 : Sk.lookE (t c).K.E e.s.1.dp ((e.c : Int) + 1) e.s.1.sp = 0) (hfl : e.s.1.fl = 1) (hl : Sk.lisE (t c).K.E e.s.1.dp ≠ 0) :
    ∃ G' X' N, After T t (updH t c (toLisT T ((e.c : Int) + 1) e.s (t c)).1) G X Lg c (toLisT T ((e.c : Int) + 1) e.s (t c)).2.1 G' X' N ∧ SameSR G G' ∧ (G'.length = G.length ∨ ∃ y p, G' = G ++ [y] ∧ Born T c G y p (X' G.length)) ∧ One c G X X' ∧ SegX c (t c) G X X' ((e.c : Int) + 1) e.s (toLisT T ((e.c : Int) + 1) e.s (t c)).2.1 ∧ ((Sk.childA e.s.1.dp ((e.c : Int) + 1) e.s.1.sp (t c).K).1.2 = 0 → Birth T e.t c G G' X' (toLisT T ((e.c : Int) + 1) e.s (t c)).2.1) := by
  have tb := h.tab c hc
  have same : ∀ {v : TC}, v = t c → ∃ G' X' N, After T t (updH t c v) G X Lg c [] G' X' N ∧ SameSR G G' ∧ (G'.length = G.length ∨ ∃ y p, G' = G ++ [y] ∧ Born T c G y p (X' G.length)) ∧ One c G X X' ∧ SegX c (t c) G X X' ((e.c : Int) + 1) e.s [] := fun {v} hv => by
    subst hv
    exact ⟨G, X, [], ⟨by rw [updH_same, List.append_nil]; exact h, Cov.nil _ _ _, TrAll.refl _ _ _⟩, SameSR.refl G, .inl rfl, One.refl _ _ _, .inr ⟨h0, fun _ _ => rfl, fun o ho => (by cases ho)⟩⟩
  unfold toLisT
  by_cases ce : (Sk.childA e.s.1.dp ((e.c : Int) + 1) e.s.1.sp (t c).K).1.2 ≠ 0
  · rw [if_pos ce]
    obtain ⟨G', X', N, a1, a2, a3, a4, a5⟩ := same rfl
    exact ⟨G', X', N, a1, a2, a3, a4, a5, fun z => absurd z ce⟩
  rw [if_neg ce]
  have hok := Sk.childA_ok tb.sk e.s.1.dp ((e.c : Int) + 1) e.s.1.sp
  have hch : Sk.childA e.s.1.dp ((e.c : Int) + 1) e.s.1.sp (t c).K = (((t c).K.nsd, 0), Sk.addS (t c).K ⟨0, 2, e.s.1.dp, (e.c : Int) + 1, e.s.1.sp, Sk.lowE (t c).K.E, Sk.lisE (t c).K.E e.s.1.dp, false⟩) ∧ Sk.lowE (t c).K.E ≠ -1 := by
    unfold Sk.childA at ce ⊢
    rw [if_neg hl] at ce ⊢
    by_cases c1 : (e.c : Int) + 1 < 1 ∨ 255 < (e.c : Int) + 1
    · omega
    rw [if_neg c1] at ce ⊢
    by_cases c2 : e.s.1.sp < 1 ∨ 15 < e.s.1.sp
    · rw [if_pos c2] at ce; exact absurd (show (22 : Int) ≠ 0 by decide) ce
    rw [if_neg c2] at ce ⊢
    rw [if_neg (fun q => q h0)] at ce ⊢
    by_cases c3 : 2 ≤ ((t c).K.E.filter (Sk.kidOf (Sk.lisE (t c).K.E e.s.1.dp))).length ∨ Sk.lowE (t c).K.E = -1
    · rw [if_pos c3] at ce; exact absurd (show (11 : Int) ≠ 0 by decide) ce
    rw [if_neg c3] at ce ⊢
    exact ⟨rfl, fun q => c3 (.inr q)⟩
  obtain ⟨hch, hlow⟩ := hch
  rw [hch] at hok ⊢
  obtain ⟨s, hs4, hse, hsf⟩ := low_free hlow
  let en : Sk.Ent := ⟨(t c).K.nsd, 2, e.s.1.dp, (e.c : Int) + 1, e.s.1.sp, Sk.lowE (t c).K.E, Sk.lisE (t c).K.E e.s.1.dp, false⟩
  have hget : Sk.getE (Sk.addS (t c).K ⟨0, 2, e.s.1.dp, (e.c : Int) + 1, e.s.1.sp, Sk.lowE (t c).K.E, Sk.lisE (t c).K.E e.s.1.dp, false⟩).E (t c).K.nsd = some (en, 0) := getE_new tb.sk
  show ∃ G' X' N, After T t (updH t c (match Sk.getE (Sk.addS (t c).K ⟨0, 2, e.s.1.dp, (e.c : Int) + 1, e.s.1.sp, Sk.lowE (t c).K.E, Sk.lisE (t c).K.E e.s.1.dp, false⟩).E (t c).K.nsd with
    | none => _
    | some a => _ : TC × List OutS × Nat).1) G X Lg c (match Sk.getE (Sk.addS (t c).K ⟨0, 2, e.s.1.dp, (e.c : Int) + 1, e.s.1.sp, Sk.lowE (t c).K.E, Sk.lisE (t c).K.E e.s.1.dp, false⟩).E (t c).K.nsd with
    | none => _
    | some a => _ : TC × List OutS × Nat).2.1 G' X' N ∧ _
  rw [hget]
  have hsl : slotN ((en, 0) : Sk.AE) = s := by show (Sk.lowE (t c).K.E).toNat = s; omega
  have hC0 : (t c).C s = C0 := tb.free s hs4 hsf
  show ∃ G' X' N, After T t (updH t c (if (openPF (T % 256) e.s.1 ((t c).C (slotN (en, 0)))).e ≠ 0 then _ else _ : TC × List OutS × Nat).1) G X Lg c (if (openPF (T % 256) e.s.1 ((t c).C (slotN (en, 0)))).e ≠ 0 then _ else _ : TC × List OutS × Nat).2.1 G' X' N ∧ _
  rw [hsl, hC0]
  -- the SYN
  obtain ⟨tle, inv⟩ := h.inv.seg e hem ht
  obtain ⟨q0, hsyn⟩ : ∃ q0, SegSyn G e q0 := by
    rcases inv with z | ⟨q0, z⟩ | ⟨y, q0, p, z⟩ | ⟨x0, yy, jj, o, a, z⟩
    · exfalso
      rcases z with z | z <;> rw [hfl] at z <;> cases z
    · exact ⟨q0, z⟩
    · exfalso; have := z.fl; rw [hfl] at this; cases this
    · exfalso; rcases z.fl with z | ⟨z, _⟩ <;> rw [hfl] at z <;> cases z
  have hdp : e.s.1.dp ≤ 7 := by
    obtain ⟨b, hb, hbp, _⟩ := Sk.lisE_ne hl
    obtain ⟨k1, k2⟩ := Sk.lisP_iff.1 hbp
    have := (tb.sk.ei.ok b hb).lis k1
    omega
  obtain ⟨iv, e0, est, young⟩ := h.inv.child (c := c) (sd := (t c).K.nsd) h.T0 (tkk _) hem ht hsyn hd hdp (tb.gone h0) (leN_out T (newK T c (t c).K.nsd e.s.1.dp ((e.c : Int) + 1) e.s.1.sp e.o) G.length (openPF (T % 256) e.s.1 C0).G)
  rw [if_neg (by rw [e0]; decide)]
  have hnewt : Tab c ⟨Sk.addS (t c).K ⟨0, 2, e.s.1.dp, (e.c : Int) + 1, e.s.1.sp, Sk.lowE (t c).K.E, Sk.lisE (t c).K.E e.s.1.dp, false⟩, updX (t c).C en.slot.toNat (openPF (T % 256) e.s.1 C0).C⟩ (G ++ [newK T c (t c).K.nsd e.s.1.dp ((e.c : Int) + 1) e.s.1.sp e.o]) (updX X G.length (openPF (T % 256) e.s.1 C0).C) :=
    tb.push (e := en) hok rfl rfl rfl rfl rfl rfl rfl rfl rfl rfl (fun q => by cases q) (fun _ => ⟨fun q => (by cases q), fun q => (by cases q)⟩) (fun _ => hl)
  have hsl2 : en.slot.toNat = s := hsl
  rw [hsl2] at hnewt
  have eX2 : updX X G.length (openPF (T % 256) e.s.1 C0).C G.length = (openPF (T % 256) e.s.1 C0).C := by simp [updX]
  have bn : Born T c G (newK T c (t c).K.nsd e.s.1.dp ((e.c : Int) + 1) e.s.1.sp e.o) e.o (updX X G.length (openPF (T % 256) e.s.1 C0).C G.length) := by
    refine ⟨rfl, rfl, ⟨rfl, rfl, ⟨rfl, rfl, rfl⟩, ⟨rfl, rfl, rfl, rfl⟩, by show (0 : Int) ≤ 11 ∧ (11 : Int) ≤ 12; decide⟩, rfl, rfl, rfl, rfl, ?_, ?_, q0, hsyn.at_, hsyn.cl, ⟨?_, ?_, ?_, ?_⟩, young⟩
    · rw [eX2]
      exact est
    · rw [eX2]
      have lv := iv.live G.length _ (by simp) (show (newK T c (t c).K.nsd e.s.1.dp ((e.c : Int) + 1) e.s.1.sp e.o).gone = false from rfl)
      rw [eX2] at lv
      exact (lv.ok.live (.inr (.inl est))).1
    · rw [hsyn.src.rh]; exact hd
    · show (e.c : Int) + 1 = (q0.h : Int) + 1
      rw [hsyn.src.h]
    · exact hsyn.src.lp
    · exact hsyn.src.rp
  have eo : ∃ w : CS, openPF (T % 256) e.s.1 C0 = ⟨w, [againF w], 0⟩ ∧ w.st = 2 ∧ w.tm = 2 ∧ w.rt = 0 := by
    unfold openPF at e0 ⊢
    rw [if_neg (by show ¬ (0 : Int) ≠ 0; decide)] at e0 ⊢
    split
    · rename_i q
      rw [if_pos q] at e0
      exact absurd e0 (by show ¬ (24 : Int) = 0; decide)
    · exact ⟨_, rfl, rfl, rfl, rfl⟩
  obtain ⟨w, eo, w2, wt, wr⟩ := eo
  refine ⟨_, _, _, ⟨h.pushed hc rfl iv hnewt, ?_, TrAll.push _ _⟩, fun k y y2 hy hy2 => ?_, .inr ⟨_, e.o, rfl, bn⟩, One.push _ _ _ _, .inr ⟨h0, fun k hk => by unfold updX; rw [if_neg (by omega)], fun o ho => ?_⟩, fun _ => ⟨_, e.o, q0, rfl, bn, hsyn.at_, hsyn.et, by rw [eX2, eo]; exact wt, by rw [eX2, eo]; exact wr, ?_⟩⟩
  · intro o ho
    obtain ⟨s', hs', rfl⟩ := List.mem_map.1 ho
    exact ⟨stampE T (newK T c (t c).K.nsd e.s.1.dp ((e.c : Int) + 1) e.s.1.sp e.o) G.length s', List.mem_map.2 ⟨s', hs', rfl⟩, rfl, rfl, rfl, rfl⟩
  · rw [get_app hy] at hy2
    cases hy2
    exact ⟨rfl, rfl, rfl⟩
  · change o ∈ (if (openPF (T % 256) e.s.1 ((t c).C (slotN (en, 0)))).e ≠ 0 then _ else _ : TC × List OutS × Nat).2.1 at ho
    rw [hsl, hC0, if_neg (by rw [e0]; decide)] at ho
    obtain ⟨s', hs', rfl⟩ := List.mem_map.1 ho
    left
    show s'.1.fl = 3
    rw [eo] at hs'
    rw [List.mem_singleton.1 hs']
    unfold againF
    rw [if_neg (by omega), if_pos w2]
    rfl
  · change (if (openPF (T % 256) e.s.1 ((t c).C (slotN (en, 0)))).e ≠ 0 then _ else _ : TC × List OutS × Nat).2.1 = _
    rw [hsl, hC0, if_neg (by rw [e0]; decide), eX2, eo]
    rfl
theorem nobody_rst (s : SegV) : (nobodyS s).1.fl = 8 ∨ (nobodyS s).1.fl = 10 := by
  unfold nobodyS
  split
  · exact .inl rfl
  · exact .inr rfl
/-- A segment of the log comes to the host that it is for. -/
theorem Sys.seg (h : Sys T t G X Lg) (hc : c < 3) (hec : e.c < 3) (hem : e ∈ Lg) (ht : T - 4 ≤ e.t) (hd : e.d = (c : Int) + 1) :
    ∃ G' X' N, After T t (updH t c (inSegT T ((e.c : Int) + 1) e.s (t c)).1) G X Lg c (inSegT T ((e.c : Int) + 1) e.s (t c)).2.1 G' X' N ∧ SameSR G G' ∧ (G'.length = G.length ∨ ∃ y p, G' = G ++ [y] ∧ Born T c G y p (X' G.length)) ∧ One c G X X' ∧ SegX c (t c) G X X' ((e.c : Int) + 1) e.s (inSegT T ((e.c : Int) + 1) e.s (t c)).2.1 ∧ (Sk.lookE (t c).K.E e.s.1.dp ((e.c : Int) + 1) e.s.1.sp ≠ 0 → G'.length = G.length) ∧ (Sk.lookE (t c).K.E e.s.1.dp ((e.c : Int) + 1) e.s.1.sp = 0 → e.s.1.fl = 1 → Sk.lisE (t c).K.E e.s.1.dp ≠ 0 → (Sk.childA e.s.1.dp ((e.c : Int) + 1) e.s.1.sp (t c).K).1.2 = 0 → Birth T e.t c G G' X' (inSegT T ((e.c : Int) + 1) e.s (t c)).2.1) := by
  have tb := h.tab c hc
  unfold inSegT
  by_cases c1 : Sk.lookE (t c).K.E e.s.1.dp ((e.c : Int) + 1) e.s.1.sp ≠ 0
  · rw [if_pos c1]
    obtain ⟨G', X', N, a1, a2, a3, a4, a5⟩ := h.toRow hc hem ht hd rfl c1
    exact ⟨G', X', N, a1, a3, .inl a2, a4, a5, fun _ => a2, fun z => absurd z c1⟩
  rw [if_neg c1]
  by_cases c2 : e.s.1.fl = 1 ∧ Sk.lisE (t c).K.E e.s.1.dp ≠ 0
  · rw [if_pos c2]
    obtain ⟨G', X', N, a1, a2, a3, a4, a5, a6⟩ := h.toLis hc hec hem ht hd (by simpa using c1) c2.1 c2.2
    exact ⟨G', X', N, a1, a2, a3, a4, a5, fun z => absurd z c1, fun _ _ _ z => a6 z⟩
  rw [if_neg c2]
  by_cases c3 : fAnd e.s.1.fl 8 ≠ 0
  · rw [if_pos c3]
    exact ⟨G, X, [], ⟨by rw [updH_same, List.append_nil]; exact h, Cov.nil _ _ _, TrAll.refl _ _ _⟩, SameSR.refl G, .inl rfl, One.refl _ _ _, .inr ⟨by simpa using c1, fun _ _ => rfl, fun o ho => (by cases ho)⟩, fun z => absurd z c1, fun _ z1 z2 => absurd ⟨z1, z2⟩ c2⟩
  · rw [if_neg c3]
    refine ⟨G, X, [⟨T, c, (e.c : Int) + 1, nobodyS e.s, 0⟩], ⟨h.emit tb fun e' he' => ?_, fun o ho => ?_, TrAll.refl _ _ _⟩, SameSR.refl G, .inl rfl, One.refl _ _ _, .inr ⟨by simpa using c1, fun _ _ => rfl, fun o ho => ?_⟩, fun z => absurd z c1, fun _ z1 z2 => absurd ⟨z1, z2⟩ c2⟩
    · simp only [List.mem_singleton] at he'
      subst he'
      exact ⟨rfl, nobody_rst e.s⟩
    · simp only [List.mem_singleton] at ho
      subst ho
      exact ⟨_, List.mem_singleton.2 rfl, rfl, rfl, rfl, rfl⟩
    · simp only [List.mem_singleton] at ho
      subst ho
      exact .inr (nobody_rst e.s)
/-- Connect answers OK: a client is born. -/
theorem Sys.connect {rh rp : Int} (h : Sys T t G X Lg) (hc : c < 3) (h0 : (Sk.connectA rh rp (t c).K).1.2 = 0) :
    ∃ lp N, 8 ≤ lp ∧ lp ≤ 15 ∧ (connectT T rh rp (t c)).e = 0 ∧ (connectT T rh rp (t c)).v = (t c).K.nsd ∧ After T t (updH t c (connectT T rh rp (t c)).t) G X Lg c (connectT T rh rp (t c)).G (G ++ [newC T c (t c).K.nsd lp rh rp]) (updX X G.length (beginF 1 (T % 256))) N ∧ Sk.lookE (t c).K.E lp rh rp = 0 ∧ (1 ≤ rh ∧ rh ≤ 255) ∧ (1 ≤ rp ∧ rp ≤ 15) ∧ (connectT T rh rp (t c)).G = [(rh, ({ (againF (beginF 1 (T % 256))).1 with sp := lp, dp := rp }, (againF (beginF 1 (T % 256))).2))] := by
  have tb := h.tab c hc
  have hok := Sk.connectA_ok tb.sk rh rp
  have hch : Sk.connectA rh rp (t c).K = (((t c).K.nsd, 0), { Sk.addS (t c).K ⟨0, 2, Sk.pickE (t c).K.E rh rp 4 (t c).K.eph, rh, rp, Sk.lowE (t c).K.E, 0, false⟩ with eph := Sk.nextP (Sk.pickE (t c).K.E rh rp 4 (t c).K.eph) }) ∧ Sk.lowE (t c).K.E ≠ -1 ∧ (1 ≤ rh ∧ rh ≤ 255) ∧ (1 ≤ rp ∧ rp ≤ 15) := by
    unfold Sk.connectA at h0 ⊢
    by_cases c1 : rh < 1 ∨ 255 < rh
    · rw [if_pos c1] at h0; cases h0
    rw [if_neg c1] at h0 ⊢
    by_cases c2 : rp < 1 ∨ 15 < rp
    · rw [if_pos c2] at h0; cases h0
    rw [if_neg c2] at h0 ⊢
    by_cases c3 : Sk.lowE (t c).K.E = -1
    · rw [if_pos c3] at h0; cases h0
    rw [if_neg c3]
    exact ⟨rfl, c3, by omega, by omega⟩
  obtain ⟨hch, hlow, hrh, hrp⟩ := hch
  obtain ⟨p1, p2, p3⟩ := Sk.pick_spec tb.sk hlow rh rp
  obtain ⟨s, hs4, hse, hsf⟩ := low_free hlow
  let en : Sk.Ent := ⟨(t c).K.nsd, 2, Sk.pickE (t c).K.E rh rp 4 (t c).K.eph, rh, rp, Sk.lowE (t c).K.E, 0, false⟩
  have hget : Sk.getE (Sk.connectA rh rp (t c).K).2.E (Sk.connectA rh rp (t c).K).1.1 = some (en, 0) := by rw [hch]; exact getE_new tb.sk
  have hC0 : (t c).C s = C0 := tb.free s hs4 hsf
  have hsl : slotN ((en, 0) : Sk.AE) = s := by show (Sk.lowE (t c).K.E).toNat = s; omega
  have hop : openAF (T % 256) C0 = ⟨beginF 1 (T % 256), [againF (beginF 1 (T % 256))], 0⟩ := by unfold openAF; rw [if_neg (by decide)]
  have hct : connectT T rh rp (t c) = ⟨(t c).K.nsd, 0, ⟨(Sk.connectA rh rp (t c).K).2, updX (t c).C s (beginF 1 (T % 256))⟩, [againF (beginF 1 (T % 256))].map (stampS en)⟩ := by
    unfold connectT
    rw [if_neg (by rw [h0]; decide), hget]
    show (if (openAF (T % 256) ((t c).C (slotN (en, 0)))).e ≠ 0 then _ else _ : CallR Int) = _
    rw [hsl, hC0, hop, if_neg (show ¬ (0 : Int) ≠ 0 by decide), hch]
  rw [hct]
  have iv := h.inv.connect (c := c) (sd := (t c).K.nsd) (lp := Sk.pickE (t c).K.E rh rp 4 (t c).K.eph) (rh := rh) (rp := rp) h.T0 (tkk _) p2 (tb.gone p1) (leN_out T (newC T c (t c).K.nsd (Sk.pickE (t c).K.E rh rp 4 (t c).K.eph) rh rp) G.length [againF (beginF 1 (T % 256))])
  rw [hch] at hok ⊢
  have hnewt : Tab c ⟨{ Sk.addS (t c).K ⟨0, 2, Sk.pickE (t c).K.E rh rp 4 (t c).K.eph, rh, rp, Sk.lowE (t c).K.E, 0, false⟩ with eph := Sk.nextP (Sk.pickE (t c).K.E rh rp 4 (t c).K.eph) }, updX (t c).C en.slot.toNat (beginF 1 (T % 256))⟩ (G ++ [newC T c (t c).K.nsd (Sk.pickE (t c).K.E rh rp 4 (t c).K.eph) rh rp]) (updX X G.length (beginF 1 (T % 256))) :=
    tb.push (e := en) hok rfl rfl rfl rfl rfl rfl rfl rfl rfl rfl (fun _ => rfl) (fun q => absurd rfl q) (fun q => by cases q)
  have hsl2 : en.slot.toNat = s := hsl
  rw [hsl2] at hnewt
  refine ⟨_, _, p2, p3, rfl, rfl, ⟨h.pushed hc rfl iv hnewt, ?_, TrAll.push _ _⟩, p1, hrh, hrp, rfl⟩
  intro o ho
  obtain ⟨s', hs', rfl⟩ := List.mem_map.1 ho
  exact ⟨stampE T (newC T c (t c).K.nsd (Sk.pickE (t c).K.E rh rp 4 (t c).K.eph) rh rp) G.length s', List.mem_map.2 ⟨s', hs', rfl⟩, rfl, rfl, rfl, rfl⟩
end
end Go.Proofs.Qxb6500424aGreat
