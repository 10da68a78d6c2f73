/-
  host: how a host's table moves: new descriptors are new, who waits was waiting or is the last.
-/
import Derived.Test.Qxb6500424aGreatHqD
set_option linter.unusedVariables false
set_option linter.unusedSimpArgs false
namespace Go.Proofs.Qxb6500424aGreat
structure KStep (s : Int) (K K' : Sk.SkS) : Prop where
  nsd : K.nsd ≤ K'.nsd
  sd : ∀ a' ∈ K'.E, (∃ a ∈ K.E, a.1.sd = a'.1.sd) ∨ K.nsd ≤ a'.1.sd
  rdy : ∀ a' ∈ K'.E, a'.1.rdy = true → a'.1.sd ≠ s → a' ∈ K.E
  top : ∀ a' ∈ K'.E, a'.1.rdy = true → a'.1.sd = s → ∀ b ∈ K'.E, b.1.rdy = true → b.1.sd ≠ s → b.2 < a'.2
  old : ∀ a ∈ K.E, a.1.sd = s → a.1.rdy = false
section
variable {K K' K2 : Sk.SkS} {t : TC}
theorem KStep.of (h1 : K.nsd ≤ K'.nsd) (h2 : ∀ a' ∈ K'.E, (∃ a ∈ K.E, a.1.sd = a'.1.sd) ∨ K.nsd ≤ a'.1.sd) (h3 : ∀ a' ∈ K'.E, a'.1.rdy = true → a' ∈ K.E) (h4 : ∀ a' ∈ K'.E, 1 ≤ a'.1.sd) (h5 : ∀ a ∈ K.E, 1 ≤ a.1.sd) : KStep 0 K K' :=
  ⟨h1, h2, fun a ha hr _ => h3 a ha hr, fun a ha _ h0 => (by have := h4 a ha; omega), fun a ha h0 => by have := h5 a ha; omega⟩
theorem KStep.refl (h : Sk.SkOk K) : KStep 0 K K := KStep.of (Int.le_refl _) (fun a ha => .inl ⟨a, ha, rfl⟩) (fun a ha _ => ha) (fun a ha => (h.ei.sd a ha).1) (fun a ha => (h.ei.sd a ha).1)
theorem KStep.trans (hK : Sk.SkOk K) (hK2 : Sk.SkOk K2) (h : KStep 0 K K') (h' : KStep 0 K' K2) (hK' : Sk.SkOk K') : KStep 0 K K2 := by
  refine KStep.of (by have := h.nsd; have := h'.nsd; omega) (fun a ha => ?_) (fun a ha hr => ?_) (fun a ha => (hK2.ei.sd a ha).1) (fun a ha => (hK.ei.sd a ha).1)
  · rcases h'.sd a ha with ⟨b, hb, e⟩ | q
    · rcases h.sd b hb with ⟨b0, hb0, e0⟩ | q
      · exact .inl ⟨b0, hb0, by rw [e0, e]⟩
      · exact .inr (by rw [← e]; exact q)
    · exact .inr (by have := h.nsd; omega)
  · have h1 := h'.rdy a ha hr (by have := (hK2.ei.sd a ha).1; omega)
    exact h.rdy a h1 hr (by have := (hK'.ei.sd a h1).1; omega)
theorem KStep.free (h : Sk.SkOk K) (s : Int) : KStep 0 K (Sk.freeA s K).2 := by
  have hok := Sk.freeA_ok h s
  unfold Sk.freeA at hok ⊢
  cases hg : Sk.getE K.E s with
  | none => exact KStep.refl h
  | some a =>
    rw [hg] at hok
    have hok' : Sk.SkOk { K with E := (Sk.delE s K.E).map (Sk.orp s) } := hok
    have mem : ∀ b, b ∈ (Sk.delE s K.E).map (Sk.orp s) → ∃ b0 ∈ K.E, Sk.orp s b0 = b := fun b hb => by
      obtain ⟨b0, h0, e⟩ := List.mem_map.1 hb
      unfold Sk.delE at h0
      exact ⟨b0, (List.mem_filter.1 h0).1, e⟩
    refine KStep.of (Int.le_refl _) (fun b hb => ?_) (fun b hb hr => ?_) (fun b hb => (hok'.ei.sd b hb).1) (fun b hb => (h.ei.sd b hb).1)
    · obtain ⟨b0, h0, rfl⟩ := mem b hb
      exact .inl ⟨b0, h0, by unfold Sk.orp; split <;> rfl⟩
    · obtain ⟨b0, h0, rfl⟩ := mem b hb
      unfold Sk.orp at hr ⊢
      split at hr
      · cases hr
      · rename_i q
        rw [if_neg q]
        exact h0
theorem KStep.add {e : Sk.Ent} {p : Int} (h : Sk.SkOk K) (hok : Sk.SkOk { Sk.addS K e with eph := p }) (hr : e.rdy = false) : KStep 0 K { Sk.addS K e with eph := p } := by
  have mem : ∀ b, b ∈ K.E ++ [(({ e with sd := K.nsd } : Sk.Ent), (0 : Nat))] → b ∈ K.E ∨ b = (({ e with sd := K.nsd } : Sk.Ent), 0) := fun b hb => by
    rcases List.mem_append.1 hb with q | q
    · exact .inl q
    · exact .inr (List.mem_singleton.1 q)
  refine KStep.of (by show K.nsd ≤ K.nsd + 1; omega) (fun b hb => ?_) (fun b hb hr' => ?_) (fun b hb => (hok.ei.sd b hb).1) (fun b hb => (h.ei.sd b hb).1)
  · rcases mem b hb with q | rfl
    · exact .inl ⟨b, q, rfl⟩
    · exact .inr (Int.le_refl _)
  · rcases mem b hb with q | rfl
    · exact q
    · have : e.rdy = true := hr'
      rw [hr] at this
      cases this
theorem KStep.listen (h : Sk.SkOk K) (p : Int) : KStep 0 K (Sk.listenA p K).2 := by
  have hok := Sk.listenA_ok h p
  unfold Sk.listenA at hok ⊢
  by_cases c1 : p < 1 ∨ 8 ≤ p
  · rw [if_pos c1]; exact KStep.refl h
  rw [if_neg c1] at hok ⊢
  by_cases c2 : Sk.lisE K.E p ≠ 0
  · rw [if_pos c2]; exact KStep.refl h
  rw [if_neg c2] at hok ⊢
  by_cases c3 : (K.E.filter Sk.isL).length = 2
  · rw [if_pos c3]; exact KStep.refl h
  rw [if_neg c3] at hok ⊢
  exact KStep.add (p := K.eph) h hok rfl
theorem KStep.connect (h : Sk.SkOk K) (rh rp : Int) : KStep 0 K (Sk.connectA rh rp K).2 := by
  have hok := Sk.connectA_ok h rh rp
  unfold Sk.connectA at hok ⊢
  by_cases c1 : rh < 1 ∨ 255 < rh
  · rw [if_pos c1]; exact KStep.refl h
  rw [if_neg c1] at hok ⊢
  by_cases c2 : rp < 1 ∨ 15 < rp
  · rw [if_pos c2]; exact KStep.refl h
  rw [if_neg c2] at hok ⊢
  by_cases c3 : Sk.lowE K.E = -1
  · rw [if_pos c3]; exact KStep.refl h
  rw [if_neg c3] at hok ⊢
  exact KStep.add h hok rfl
theorem KStep.child (h : Sk.SkOk K) (lp rh rp : Int) : KStep 0 K (Sk.childA lp rh rp K).2 := by
  have hok := Sk.childA_ok h lp rh rp
  unfold Sk.childA at hok ⊢
  by_cases c1 : Sk.lisE K.E lp = 0
  · rw [if_pos c1]; exact KStep.refl h
  rw [if_neg c1] at hok ⊢
  by_cases c2 : rh < 1 ∨ 255 < rh
  · rw [if_pos c2]; exact KStep.refl h
  rw [if_neg c2] at hok ⊢
  by_cases c3 : rp < 1 ∨ 15 < rp
  · rw [if_pos c3]; exact KStep.refl h
  rw [if_neg c3] at hok ⊢
  by_cases c4 : Sk.lookE K.E lp rh rp ≠ 0
  · rw [if_pos c4]; exact KStep.refl h
  rw [if_neg c4] at hok ⊢
  by_cases c5 : 2 ≤ (K.E.filter (Sk.kidOf (Sk.lisE K.E lp))).length ∨ Sk.lowE K.E = -1
  · rw [if_pos c5]; exact KStep.refl h
  rw [if_neg c5] at hok ⊢
  exact KStep.add (p := K.eph) h hok rfl
theorem KStep.accept (h : Sk.SkOk K) (l : Int) : KStep 0 K (Sk.acceptA l K).2 := by
  have hok := Sk.acceptA_ok h l
  unfold Sk.acceptA at hok ⊢
  cases hg : Sk.getE K.E l with
  | none => exact KStep.refl h
  | some a =>
    rw [hg] at hok
    have hok1 : Sk.SkOk (if a.1.kind ≠ 1 then (((0, 21), K) : (Int × Int) × Sk.SkS) else match Sk.qE K.E l with
        | [] => ((0, 14), K)
        | q :: _ => ((q.1.sd, 0), { K with E := Sk.turnE q.1.sd Sk.accG K.E })).2 := hok
    show KStep 0 K (if a.1.kind ≠ 1 then _ else _ : (Int × Int) × Sk.SkS).2
    by_cases ck : a.1.kind ≠ 1
    · rw [if_pos ck]; exact KStep.refl h
    rw [if_neg ck] at hok1 ⊢
    cases hq : Sk.qE K.E l with
    | nil => exact KStep.refl h
    | cons q r =>
      rw [hq] at hok1
      have hok2 : Sk.SkOk { K with E := Sk.turnE q.1.sd Sk.accG K.E } := hok1
      show KStep 0 K { K with E := Sk.turnE q.1.sd Sk.accG K.E }
      refine KStep.of (Int.le_refl _) (fun b hb => ?_) (fun b hb hr => ?_) (fun b hb => (hok2.ei.sd b hb).1) (fun b hb => (h.ei.sd b hb).1)
      · obtain ⟨b0, h0, rfl⟩ := mem_turn.1 hb
        exact .inl ⟨b0, h0, by split <;> rfl⟩
      · obtain ⟨b0, h0, rfl⟩ := mem_turn.1 hb
        split at hr
        · cases hr
        · rename_i z
          rw [if_neg z]
          exact h0
theorem KStep.ready (h : Sk.SkOk K) (sd : Int) : KStep sd K (Sk.readyA sd K).2 ∨ KStep 0 K (Sk.readyA sd K).2 := by
  have hok := Sk.readyA_ok h sd
  unfold Sk.readyA at hok ⊢
  cases hg : Sk.getE K.E sd with
  | none => exact .inr (KStep.refl h)
  | some a =>
    rw [hg] at hok
    have hok1 : Sk.SkOk (if a.1.par = 0 then ((21, K) : Int × Sk.SkS) else if a.1.rdy = true then (13, K) else (0, { K with E := Sk.turnE sd (Sk.rdyG (K.tick + 1)) K.E, tick := K.tick + 1 })).2 := hok
    show KStep sd K (if a.1.par = 0 then ((21, K) : Int × Sk.SkS) else if a.1.rdy = true then (13, K) else (0, { K with E := Sk.turnE sd (Sk.rdyG (K.tick + 1)) K.E, tick := K.tick + 1 })).2 ∨ KStep 0 K (if a.1.par = 0 then ((21, K) : Int × Sk.SkS) else if a.1.rdy = true then (13, K) else (0, { K with E := Sk.turnE sd (Sk.rdyG (K.tick + 1)) K.E, tick := K.tick + 1 })).2
    by_cases c1 : a.1.par = 0
    · rw [if_pos c1]; exact .inr (KStep.refl h)
    rw [if_neg c1] at hok1 ⊢
    by_cases c2 : a.1.rdy = true
    · rw [if_pos c2]; exact .inr (KStep.refl h)
    rw [if_neg c2] at hok1 ⊢
    left
    refine ⟨Int.le_refl _, fun b hb => ?_, fun b hb hr hs => ?_, fun b hb hr hs b2 hb2 hr2 hs2 => ?_, fun b hb hs => ?_⟩
    rotate_left 3
    · have := List.mem_of_find?_eq_some hg
      have e := List.find?_some hg
      simp only [decide_eq_true_eq] at e
      rw [h.ei.uniq hb this (by rw [hs, e])]
      simpa using c2
    · obtain ⟨b0, h0, rfl⟩ := mem_turn.1 hb
      exact .inl ⟨b0, h0, by split <;> rfl⟩
    · obtain ⟨b0, h0, rfl⟩ := mem_turn.1 hb
      by_cases z : b0.1.sd = sd
      · rw [if_pos z] at hs; exact absurd z hs
      · rw [if_neg z]; exact h0
    · obtain ⟨b0, h0, rfl⟩ := mem_turn.1 hb
      obtain ⟨b1, h1, rfl⟩ := mem_turn.1 hb2
      by_cases z : b0.1.sd = sd
      · rw [if_pos z]
        by_cases z1 : b1.1.sd = sd
        · rw [if_pos z1] at hs2; exact absurd z1 hs2
        · rw [if_neg z1] at hr2 ⊢
          have := h.ei.tck b1 h1 hr2
          show b1.2 < K.tick + 1
          omega
      · rw [if_neg z] at hs; exact absurd hs z
/-! ### the host's calls -/
theorem KStep.tick : ∀ (l : List Int) (t : TC), Sk.SkOk t.K → Sk.SkOk (tickT l t).1.K ∧ KStep 0 t.K (tickT l t).1.K
  | [], t, h => ⟨h, KStep.refl h⟩
  | sd :: l, t, h => by
    have same := KStep.tick l t h
    show Sk.SkOk (match Sk.getE t.K.E sd with | none => tickT l t | some a => if a.1.kind ≠ 2 then tickT l t else ((tickT l (tick1T a t).1).1, (tick1T a t).2 ++ (tickT l (tick1T a t).1).2)).1.K ∧ KStep 0 t.K (match Sk.getE t.K.E sd with | none => tickT l t | some a => if a.1.kind ≠ 2 then tickT l t else ((tickT l (tick1T a t).1).1, (tick1T a t).2 ++ (tickT l (tick1T a t).1).2)).1.K
    cases hg : Sk.getE t.K.E sd with
    | none => exact same
    | some a =>
      show Sk.SkOk (if a.1.kind ≠ 2 then tickT l t else ((tickT l (tick1T a t).1).1, (tick1T a t).2 ++ (tickT l (tick1T a t).1).2) : TC × List OutS).1.K ∧ KStep 0 t.K (if a.1.kind ≠ 2 then tickT l t else ((tickT l (tick1T a t).1).1, (tick1T a t).2 ++ (tickT l (tick1T a t).1).2) : TC × List OutS).1.K
      by_cases ck : a.1.kind ≠ 2
      · rw [if_pos ck]; exact same
      rw [if_neg ck]
      have h1 : Sk.SkOk (tick1T a t).1.K ∧ KStep 0 t.K (tick1T a t).1.K := by
        unfold tick1T
        show Sk.SkOk (if (tickF (t.C (slotN a))).1.st = 0 then (Sk.freeA a.1.sd t.K).2 else t.K) ∧ KStep 0 t.K (if (tickF (t.C (slotN a))).1.st = 0 then (Sk.freeA a.1.sd t.K).2 else t.K)
        split
        · exact ⟨Sk.freeA_ok h a.1.sd, KStep.free h a.1.sd⟩
        · exact ⟨h, KStep.refl h⟩
      obtain ⟨q1, q2⟩ := KStep.tick l (tick1T a t).1 h1.1
      exact ⟨q1, KStep.trans h q1 h1.2 q2 h1.1⟩
theorem KStep.seg (clk src : Int) (s : SegV) (h : Sk.SkOk t.K) : ∃ sd, KStep sd t.K (inSegT clk src s t).1.K := by
  unfold inSegT
  split
  · show ∃ sd, KStep sd t.K (toRowT (Sk.lookE t.K.E s.1.dp src s.1.sp) s t).1.K
    unfold toRowT
    split
    · exact ⟨0, KStep.refl h⟩
    · rename_i a ha
      show ∃ sd, KStep sd t.K (if a.1.par ≠ 0 ∧ a.1.rdy = false ∧ (inputF s.1 s.2 (t.C (slotN a))).1.st = 3 then (Sk.readyA (Sk.lookE t.K.E s.1.dp src s.1.sp) t.K).2 else t.K)
      split
      · rcases KStep.ready h (Sk.lookE t.K.E s.1.dp src s.1.sp) with q | q
        · exact ⟨_, q⟩
        · exact ⟨_, q⟩
      · exact ⟨0, KStep.refl h⟩
  split
  · refine ⟨0, ?_⟩
    unfold toLisT
    split
    · exact KStep.refl h
    split
    · exact KStep.child h _ _ _
    · split
      · exact KStep.child h _ _ _
      · exact KStep.child h _ _ _
  split
  · exact ⟨0, KStep.refl h⟩
  · exact ⟨0, KStep.refl h⟩
theorem KStep.connectT (clk rh rp : Int) (h : Sk.SkOk t.K) : KStep 0 t.K (connectT clk rh rp t).t.K := by
  unfold Go.Proofs.Qxb6500424aGreat.connectT
  split
  · exact KStep.refl h
  split
  · exact KStep.connect h rh rp
  · split
    · exact KStep.connect h rh rp
    · exact KStep.connect h rh rp
theorem KStep.shutL (lsd : Int) : ∀ (l : List Int) (t : TC), (shutLT lsd l t).1.K = t.K
  | [], t => rfl
  | sd :: l, t => by
    show (shutLT lsd l (shut1T lsd sd t).1).1.K = t.K
    rw [KStep.shutL lsd l]
    unfold shut1T
    split
    · rfl
    split
    · rfl
    split <;> rfl
theorem KStep.endT (f : CS → OutC) (sd : Int) (h : Sk.SkOk t.K) : KStep 0 t.K (endT f sd t).t.K := by
  unfold Go.Proofs.Qxb6500424aGreat.endT
  split
  · show KStep 0 t.K (Sk.freeA sd (shutLT sd (sdsE t.K.E) t).1.K).2
    rw [KStep.shutL]
    exact KStep.free h sd
  split
  · exact KStep.refl h
  · split
    · exact KStep.refl h
    · exact KStep.refl h
theorem sendT_K (sd : Int) (P : List Int) : (sendT sd P t).t.K = t.K := by
  unfold sendT
  split
  · rfl
  · split <;> rfl
theorem recvT_K (sd mx : Int) : (recvT sd mx t).t.K = t.K := by
  unfold recvT
  split
  · rfl
  · split <;> rfl
end
end Go.Proofs.Qxb6500424aGreat
