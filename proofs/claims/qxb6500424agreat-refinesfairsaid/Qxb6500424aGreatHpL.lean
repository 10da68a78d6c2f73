/-
  host: the plain law of the network: a host's table and its ends.
-/
import Derived.Test.Qxb6500424aGreatHoA
import Derived.Test.Qxb6500424aGreatHsC
import Derived.Test.Qxb6500424aGreatSkJ
set_option linter.unusedVariables false
set_option linter.unusedSimpArgs false
namespace Go.Proofs.Qxb6500424aGreat
/-- A row of a host's table and its end. -/
structure RowOk (c : Nat) (t : TC) (G : List GE) (X : Nat → CS) (a : Sk.AE) (i : Nat) (g : GE) : Prop where
  at_ : G[i]? = some g
  h : g.h = c
  sd : g.sd = a.1.sd
  lp : g.lp = a.1.lp
  rh : g.rh = a.1.rh
  rp : g.rp = a.1.rp
  gone : g.gone = false
  C : t.C (slotN a) = X i
  par : g.cl = true → a.1.par = 0
  rdy : a.1.par ≠ 0 → (a.1.rdy = true ↔ g.ot.isSome = true)
  s2 : (X i).st = 2 → a.1.par ≠ 0
structure Tab (c : Nat) (t : TC) (G : List GE) (X : Nat → CS) : Prop where
  sk : Sk.SkOk t.K
  row : ∀ a ∈ t.K.E, a.1.kind = 2 → ∃ i g, RowOk c t G X a i g
  end_ : ∀ (i : Nat) g, G[i]? = some g → g.h = c → g.gone = false → ∃ a ∈ t.K.E, a.1.kind = 2 ∧ a.1.sd = g.sd
  uniq : ∀ (i k : Nat) g g', G[i]? = some g → G[k]? = some g' → g.h = c → g'.h = c → g.sd = g'.sd → i = k
  sdb : ∀ (i : Nat) g, G[i]? = some g → g.h = c → 1 ≤ g.sd ∧ g.sd < t.K.nsd
  free : ∀ s : Nat, s < 4 → (∀ a ∈ t.K.E, a.1.kind = 2 → a.1.slot ≠ (s : Int)) → t.C s = C0
  lis : ∀ a ∈ t.K.E, a.1.kind = 1 → ∀ (i : Nat) g, G[i]? = some g → g.h = c → g.sd ≠ a.1.sd
section
variable {c : Nat} {t : TC} {G : List GE} {X : Nat → CS} {i : Nat} {g g2 : GE} {x' : CS} {a a' b : Sk.AE}
theorem Tab.set_other (h : Tab c t G X) (hi : G[i]? = some g) (hne : g.h ≠ c) (hk : g2.h = g.h) : Tab c t (G.set i g2) (updX X i x') := by
  refine ⟨h.sk, fun a ha hka => ?_, fun k y hy hh hg => ?_, fun k l y z hy hz hh hh' he => ?_, fun k y hy hh => ?_, h.free, fun b hb hkb k y hy hh => ?_⟩
  · obtain ⟨k, y, r⟩ := h.row a ha hka
    have q : k ≠ i := fun q => by subst q; have := r.at_; rw [hi] at this; cases this; exact hne r.h
    have e : updX X i x' k = X k := by unfold updX; rw [if_neg q]
    exact ⟨k, y, by rw [set_ne q]; exact r.at_, r.h, r.sd, r.lp, r.rh, r.rp, r.gone, by rw [e]; exact r.C, r.par, r.rdy, by rw [e]; exact r.s2⟩
  · rcases set_cases hi hy with ⟨_, rfl⟩ | ⟨_, hy'⟩
    · exact absurd (hk ▸ hh) hne
    · exact h.end_ k y hy' hh hg
  · rcases set_cases hi hy with ⟨_, rfl⟩ | ⟨_, hy'⟩
    · exact absurd (hk ▸ hh) hne
    · rcases set_cases hi hz with ⟨_, rfl⟩ | ⟨_, hz'⟩
      · exact absurd (hk ▸ hh') hne
      · exact h.uniq k l y z hy' hz' hh hh' he
  · rcases set_cases hi hy with ⟨_, rfl⟩ | ⟨_, hy'⟩
    · exact absurd (hk ▸ hh) hne
    · exact h.sdb k y hy' hh
  · rcases set_cases hi hy with ⟨_, rfl⟩ | ⟨_, hy'⟩
    · exact absurd (hk ▸ hh) hne
    · exact h.lis b hb hkb k y hy' hh
theorem Tab.push_other (h : Tab c t G X) (hne : g.h ≠ c) : Tab c t (G ++ [g]) (updX X G.length x') := by
  refine ⟨h.sk, fun a ha hka => ?_, fun k y hy hh hg => ?_, fun k l y z hy hz hh hh' he => ?_, fun k y hy hh => ?_, h.free, fun b hb hkb k y hy hh => ?_⟩
  · obtain ⟨k, y, r⟩ := h.row a ha hka
    have q : k ≠ G.length := fun q => by have := (List.getElem?_eq_some_iff.1 r.at_).1; omega
    have e : updX X G.length x' k = X k := by unfold updX; rw [if_neg q]
    exact ⟨k, y, get_app r.at_, r.h, r.sd, r.lp, r.rh, r.rp, r.gone, by rw [e]; exact r.C, r.par, r.rdy, by rw [e]; exact r.s2⟩
  · rcases app_cases hy with ⟨_, rfl⟩ | ⟨_, hy'⟩
    · exact absurd hh hne
    · exact h.end_ k y hy' hh hg
  · rcases app_cases hy with ⟨_, rfl⟩ | ⟨_, hy'⟩
    · exact absurd hh hne
    · rcases app_cases hz with ⟨_, rfl⟩ | ⟨_, hz'⟩
      · exact absurd hh' hne
      · exact h.uniq k l y z hy' hz' hh hh' he
  · rcases app_cases hy with ⟨_, rfl⟩ | ⟨_, hy'⟩
    · exact absurd hh hne
    · exact h.sdb k y hy' hh
  · rcases app_cases hy with ⟨_, rfl⟩ | ⟨_, hy'⟩
    · exact absurd hh hne
    · exact h.lis b hb hkb k y hy' hh
theorem slot_ne (hk : Sk.SkOk t.K) (ha : a ∈ t.K.E) (hb : b ∈ t.K.E) (ka : a.1.kind = 2) (kb : b.1.kind = 2) (hne : b.1.sd ≠ a.1.sd) : slotN b ≠ slotN a := fun q => by
  have h1 := (hk.ei.ok a ha).con ka
  have h2 := (hk.ei.ok b hb).con kb
  unfold slotN at q
  exact hne (hk.ei.slt b hb a ha kb ka (by omega))
/-- A row moves on, its entry perhaps turned. -/
theorem Tab.change {K' : Sk.SkS} (h : Tab c t G X) (ha : a ∈ t.K.E) (hka : a.1.kind = 2) (r : RowOk c t G X a i g) (kp : Kp g g2) (hg : g2.gone = false) (hK : Sk.SkOk K') (hnsd : K'.nsd = t.K.nsd) (ea : a'.1 = { a.1 with par := a'.1.par, rdy := a'.1.rdy })
    (hf : ∀ b ∈ K'.E, b = a' ∨ (b ∈ t.K.E ∧ b.1.sd ≠ a.1.sd)) (hb1 : a' ∈ K'.E) (hb2 : ∀ b ∈ t.K.E, b.1.sd ≠ a.1.sd → b ∈ K'.E) (hpar : g2.cl = true → a'.1.par = 0) (hrdy : a'.1.par ≠ 0 → (a'.1.rdy = true ↔ g2.ot.isSome = true)) (hs2 : x'.st = 2 → a'.1.par ≠ 0) :
    Tab c ⟨K', updX t.C (slotN a) x'⟩ (G.set i g2) (updX X i x') := by
  have esd : a'.1.sd = a.1.sd := by rw [ea]
  have ekd : a'.1.kind = a.1.kind := by rw [ea]
  have esl : slotN a' = slotN a := by unfold slotN; rw [ea]
  have hi := r.at_
  refine ⟨hK, fun b hb hkb => ?_, fun k y hy hh hgn => ?_, fun k l y z hy hz hh hh' he => ?_, fun k y hy hh => ?_, fun s hs hn => ?_, fun b hb hkb k y hy hh => ?_⟩
  rotate_left 5
  · rcases hf b hb with rfl | ⟨hb', hne⟩
    · rw [ekd, hka] at hkb; cases hkb
    · rcases set_cases hi hy with ⟨_, rfl⟩ | ⟨_, hy'⟩
      · rw [kp.sd]; exact h.lis b hb' hkb i g hi r.h
      · exact h.lis b hb' hkb k y hy' hh
  · rcases hf b hb with rfl | ⟨hb', hne⟩
    · refine ⟨i, g2, set_at hi, by rw [kp.h]; exact r.h, by rw [kp.sd, r.sd, esd], ?_, ?_, ?_, hg, ?_, hpar, hrdy, ?_⟩
      · rw [kp.lp, r.lp, ea]
      · rw [kp.rh, r.rh, ea]
      · rw [kp.rp, r.rp, ea]
      · show updX t.C (slotN a) x' (slotN b) = updX X i x' i
        rw [esl]
        simp [updX]
      · rw [show updX X i x' i = x' by simp [updX]]
        exact hs2
    · obtain ⟨k, y, rb⟩ := h.row b hb' hkb
      have q : k ≠ i := fun q => by subst q; have := rb.at_; rw [hi] at this; cases this; exact hne (by rw [← rb.sd, r.sd])
      have e : updX X i x' k = X k := by unfold updX; rw [if_neg q]
      have e2 : updX t.C (slotN a) x' (slotN b) = t.C (slotN b) := by unfold updX; rw [if_neg (slot_ne h.sk ha hb' hka hkb hne)]
      exact ⟨k, y, by rw [set_ne q]; exact rb.at_, rb.h, rb.sd, rb.lp, rb.rh, rb.rp, rb.gone, by rw [e]; show updX t.C (slotN a) x' (slotN b) = _; rw [e2]; exact rb.C, rb.par, rb.rdy, by rw [e]; exact rb.s2⟩
  · rcases set_cases hi hy with ⟨_, rfl⟩ | ⟨_, hy'⟩
    · exact ⟨a', hb1, by rw [ekd]; exact hka, by rw [esd, kp.sd, r.sd]⟩
    · obtain ⟨b, hb, hkb, hsd⟩ := h.end_ k y hy' hh hgn
      by_cases q : b.1.sd = a.1.sd
      · exact ⟨a', hb1, by rw [ekd]; exact hka, by rw [esd, ← hsd, q]⟩
      · exact ⟨b, hb2 b hb q, hkb, hsd⟩
  · rcases set_cases hi hy with ⟨e1, rfl⟩ | ⟨_, hy'⟩
    · rcases set_cases hi hz with ⟨e2, rfl⟩ | ⟨_, hz'⟩
      · omega
      · rw [e1]
        exact h.uniq i l g z hi hz' r.h hh' (by rw [← kp.sd]; exact he)
    · rcases set_cases hi hz with ⟨e2, rfl⟩ | ⟨_, hz'⟩
      · rw [e2]
        exact h.uniq k i y g hy' hi hh r.h (by rw [← kp.sd]; exact he)
      · exact h.uniq k l y z hy' hz' hh hh' he
  · show 1 ≤ y.sd ∧ y.sd < K'.nsd
    rw [hnsd]
    rcases set_cases hi hy with ⟨e1, rfl⟩ | ⟨_, hy'⟩
    · rw [kp.sd]; exact h.sdb i g hi r.h
    · exact h.sdb k y hy' hh
  · have hns : slotN a ≠ s := fun q => by
      have := (h.sk.ei.ok a ha).con hka
      refine hn a' hb1 (by rw [ekd]; exact hka) ?_
      have : a'.1.slot = a.1.slot := by rw [ea]
      rw [this]
      unfold slotN at q
      omega
    show updX t.C (slotN a) x' s = C0
    unfold updX
    rw [if_neg (fun q => hns q.symm)]
    refine h.free s hs fun b hb hkb => ?_
    by_cases q : b.1.sd = a.1.sd
    · have := h.sk.ei.uniq hb ha q
      subst this
      intro qs
      exact hns (by unfold slotN; omega)
    · exact hn b (hb2 b hb q) hkb
/-- A row moves on; the table stays. -/
theorem Tab.own (h : Tab c t G X) (ha : a ∈ t.K.E) (hka : a.1.kind = 2) (r : RowOk c t G X a i g) (kp : Kp g g2) (hg : g2.gone = false) (hot : a.1.par ≠ 0 → (a.1.rdy = true ↔ g2.ot.isSome = true)) (hs2 : x'.st = 2 → (X i).st = 2) : Tab c ⟨t.K, updX t.C (slotN a) x'⟩ (G.set i g2) (updX X i x') :=
  h.change (K' := t.K) (a' := a) ha hka r kp hg h.sk rfl rfl (fun b hb => by
    by_cases q : b.1.sd = a.1.sd
    · exact .inl (h.sk.ei.uniq hb ha q)
    · exact .inr ⟨hb, q⟩) ha (fun b hb _ => hb) (fun q => r.par (by rw [← kp.cl]; exact q)) hot (fun q => r.s2 (hs2 q))
/-- A row goes. -/
theorem Tab.remove (h : Tab c t G X) (ha : a ∈ t.K.E) (hka : a.1.kind = 2) (r : RowOk c t G X a i g) (kp : Kp g g2) (hg : g2.gone = true) : Tab c ⟨(Sk.freeA a.1.sd t.K).2, updX t.C (slotN a) C0⟩ (G.set i g2) (updX X i x') := by
  have e : (Sk.freeA a.1.sd t.K).2 = { t.K with E := Sk.delE a.1.sd t.K.E } := by
    unfold Sk.freeA
    rw [Sk.getE_some h.sk.ei ha]
    show ({ t.K with E := (Sk.delE a.1.sd t.K.E).map (Sk.orp a.1.sd) } : Sk.SkS) = _
    rw [Sk.orp_none h.sk ha hka]
  have hsk := Sk.freeA_ok h.sk a.1.sd
  rw [e] at hsk ⊢
  have hi := r.at_
  have mem : ∀ b, b ∈ Sk.delE a.1.sd t.K.E ↔ b ∈ t.K.E ∧ b.1.sd ≠ a.1.sd := fun b => by
    unfold Sk.delE
    rw [List.mem_filter]
    simp
  refine ⟨hsk, fun b hb hkb => ?_, fun k y hy hh hgn => ?_, fun k l y z hy hz hh hh' he => ?_, fun k y hy hh => ?_, fun s hs hn => ?_, fun b hb hkb k y hy hh => ?_⟩
  rotate_left 5
  · obtain ⟨hb', hne⟩ := (mem b).1 hb
    rcases set_cases hi hy with ⟨_, rfl⟩ | ⟨_, hy'⟩
    · rw [kp.sd]; exact h.lis b hb' hkb i g hi r.h
    · exact h.lis b hb' hkb k y hy' hh
  · obtain ⟨hb', hne⟩ := (mem b).1 hb
    obtain ⟨k, y, rb⟩ := h.row b hb' hkb
    have q : k ≠ i := fun q => by subst q; have := rb.at_; rw [hi] at this; cases this; exact hne (by rw [← rb.sd, r.sd])
    have e : updX X i x' k = X k := by unfold updX; rw [if_neg q]
    have e2 : updX t.C (slotN a) C0 (slotN b) = t.C (slotN b) := by unfold updX; rw [if_neg (slot_ne h.sk ha hb' hka hkb hne)]
    exact ⟨k, y, by rw [set_ne q]; exact rb.at_, rb.h, rb.sd, rb.lp, rb.rh, rb.rp, rb.gone, by rw [e]; show updX t.C (slotN a) C0 (slotN b) = _; rw [e2]; exact rb.C, rb.par, rb.rdy, by rw [e]; exact rb.s2⟩
  · rcases set_cases hi hy with ⟨_, rfl⟩ | ⟨qk, hy'⟩
    · rw [hg] at hgn; cases hgn
    · obtain ⟨b, hb, hkb, hsd⟩ := h.end_ k y hy' hh hgn
      refine ⟨b, (mem b).2 ⟨hb, fun q => qk ?_⟩, hkb, hsd⟩
      exact h.uniq k i y g hy' hi hh r.h (by rw [r.sd, ← q, hsd])
  · rcases set_cases hi hy with ⟨e1, rfl⟩ | ⟨_, hy'⟩
    · rcases set_cases hi hz with ⟨e2, rfl⟩ | ⟨_, hz'⟩
      · omega
      · rw [e1]
        exact h.uniq i l g z hi hz' r.h hh' (by rw [← kp.sd]; exact he)
    · rcases set_cases hi hz with ⟨e2, rfl⟩ | ⟨_, hz'⟩
      · rw [e2]
        exact h.uniq k i y g hy' hi hh r.h (by rw [← kp.sd]; exact he)
      · exact h.uniq k l y z hy' hz' hh hh' he
  · rcases set_cases hi hy with ⟨e1, rfl⟩ | ⟨_, hy'⟩
    · rw [kp.sd]; exact h.sdb i g hi r.h
    · exact h.sdb k y hy' hh
  · show updX t.C (slotN a) C0 s = C0
    unfold updX
    split
    · rfl
    · rename_i q
      refine h.free s hs fun b hb hkb => ?_
      by_cases qs : b.1.sd = a.1.sd
      · have := h.sk.ei.uniq hb ha qs
        subst this
        intro e'
        exact q (by unfold slotN; omega)
      · exact hn b ((mem b).2 ⟨hb, qs⟩) hkb
/-- The table turns; the ends stay. -/
theorem Tab.turn {K' : Sk.SkS} (h : Tab c t G X) (hK : Sk.SkOk K') (hnsd : t.K.nsd ≤ K'.nsd)
    (hf : ∀ b ∈ K'.E, b.1.kind = 2 → ∃ b0 ∈ t.K.E, b.1 = { b0.1 with par := b.1.par, rdy := b.1.rdy } ∧ ((b.1.par = b0.1.par ∧ b.1.rdy = b0.1.rdy) ∨ (b.1.par = 0 ∧ ∀ i g, RowOk c t G X b0 i g → (X i).st ≠ 2)))
    (hb : ∀ b0 ∈ t.K.E, b0.1.kind = 2 → ∃ b ∈ K'.E, b.1.kind = 2 ∧ b.1.sd = b0.1.sd ∧ b.1.slot = b0.1.slot)
    (hl : ∀ b ∈ K'.E, b.1.kind = 1 → (∃ b0 ∈ t.K.E, b0.1.kind = 1 ∧ b0.1.sd = b.1.sd) ∨ t.K.nsd ≤ b.1.sd) : Tab c ⟨K', t.C⟩ G X := by
  refine ⟨hK, fun b hbm hkb => ?_, fun k y hy hh hgn => ?_, h.uniq, fun k y hy hh => ?_, fun s hs hn => ?_, fun b hb' hkb k y hy hh => ?_⟩
  rotate_left 4
  · rcases hl b hb' hkb with ⟨b0, h0, k0, e0⟩ | q
    · rw [← e0]; exact h.lis b0 h0 k0 k y hy hh
    · have := h.sdb k y hy hh; omega
  · obtain ⟨b0, hb0, e, hp⟩ := hf b hbm hkb
    have ek : b.1.kind = b0.1.kind := by rw [e]
    obtain ⟨i, g, r⟩ := h.row b0 hb0 (by rw [← ek]; exact hkb)
    have esl : slotN b = slotN b0 := by unfold slotN; rw [e]
    refine ⟨i, g, r.at_, r.h, by rw [r.sd, e], by rw [r.lp, e], by rw [r.rh, e], by rw [r.rp, e], r.gone, by rw [esl]; exact r.C, ?_, ?_, ?_⟩
    · rcases hp with ⟨p1, _⟩ | ⟨p1, _⟩
      · rw [p1]; exact r.par
      · exact fun _ => p1
    · rcases hp with ⟨p1, p2⟩ | ⟨p1, _⟩
      · rw [p1, p2]; exact r.rdy
      · exact fun q => absurd p1 q
    · rcases hp with ⟨p1, _⟩ | ⟨p1, p2⟩
      · rw [p1]; exact r.s2
      · exact fun q => absurd q (p2 i g r)
  · obtain ⟨b0, hb0, hkb, hsd⟩ := h.end_ k y hy hh hgn
    obtain ⟨b, hb1, hb2, hb3, _⟩ := hb b0 hb0 hkb
    exact ⟨b, hb1, hb2, by rw [hb3]; exact hsd⟩
  · have := h.sdb k y hy hh
    exact ⟨this.1, by show y.sd < K'.nsd; omega⟩
  · refine h.free s hs fun b0 hb0 hkb q => ?_
    obtain ⟨b, hb1, hb2, hb3, hb4⟩ := hb b0 hb0 hkb
    exact hn b hb1 hb2 (by rw [hb4]; exact q)
/-- A new row, and its end. -/
theorem Tab.push {e : Sk.Ent} {K' : Sk.SkS} (h : Tab c t G X) (hK : Sk.SkOk K') (hE : K'.E = t.K.E ++ [(e, 0)]) (hnsd : K'.nsd = t.K.nsd + 1) (hk : e.kind = 2) (hsd : e.sd = t.K.nsd) (hgh : g.h = c) (hgs : g.sd = e.sd) (hlp : g.lp = e.lp) (hrh : g.rh = e.rh) (hrp : g.rp = e.rp) (hgn : g.gone = false)
    (hpar : g.cl = true → e.par = 0) (hrdy : e.par ≠ 0 → (e.rdy = true ↔ g.ot.isSome = true)) (hs2 : x'.st = 2 → e.par ≠ 0) : Tab c ⟨K', updX t.C e.slot.toNat x'⟩ (G ++ [g]) (updX X G.length x') := by
  have mem : ∀ b, b ∈ K'.E ↔ b ∈ t.K.E ∨ b = (e, 0) := fun b => by rw [hE]; simp
  have hnew : ((e, 0) : Sk.AE) ∈ K'.E := (mem _).2 (.inr rfl)
  have hne : ∀ b ∈ t.K.E, b.1.kind = 2 → slotN b ≠ e.slot.toNat := fun b hb hkb q => by
    have h1 := (h.sk.ei.ok b hb).con hkb
    have h2 := (hK.ei.ok _ hnew).con hk
    have h2' : 0 ≤ e.slot := h2.2.2.2.2.2.2.1
    have := hK.ei.slt b ((mem b).2 (.inl hb)) (e, 0) hnew hkb hk (by show b.1.slot = e.slot; unfold slotN at q; omega)
    have e1 := h.sk.ei.sd b hb
    have : b.1.sd = e.sd := this
    omega
  refine ⟨hK, fun b hb hkb => ?_, fun k y hy hh hg => ?_, fun k l y z hy hz hh hh' he => ?_, fun k y hy hh => ?_, fun s hs hn => ?_, fun b hb hkb k y hy hh => ?_⟩
  rotate_left 5
  · rcases (mem b).1 hb with hb' | rfl
    · rcases app_cases hy with ⟨_, rfl⟩ | ⟨_, hy'⟩
      · have := h.sk.ei.sd b hb'; omega
      · exact h.lis b hb' hkb k y hy' hh
    · have hkb' : e.kind = 1 := hkb
      omega
  · rcases (mem b).1 hb with hb' | rfl
    · obtain ⟨k, y, r⟩ := h.row b hb' hkb
      have q : k ≠ G.length := fun q => by have := (List.getElem?_eq_some_iff.1 r.at_).1; omega
      have e1 : updX X G.length x' k = X k := by unfold updX; rw [if_neg q]
      have e2 : updX t.C e.slot.toNat x' (slotN b) = t.C (slotN b) := by unfold updX; rw [if_neg (hne b hb' hkb)]
      exact ⟨k, y, get_app r.at_, r.h, r.sd, r.lp, r.rh, r.rp, r.gone, by rw [e1]; show updX t.C e.slot.toNat x' (slotN b) = _; rw [e2]; exact r.C, r.par, r.rdy, by rw [e1]; exact r.s2⟩
    · have e1 : updX X G.length x' G.length = x' := by simp [updX]
      refine ⟨G.length, g, by simp, hgh, hgs, hlp, hrh, hrp, hgn, ?_, hpar, hrdy, by rw [e1]; exact hs2⟩
      rw [e1]
      show updX t.C e.slot.toNat x' e.slot.toNat = x'
      simp [updX]
  · rcases app_cases hy with ⟨_, rfl⟩ | ⟨_, hy'⟩
    · exact ⟨(e, 0), hnew, hk, hgs.symm⟩
    · obtain ⟨b, hb, hkb, hs⟩ := h.end_ k y hy' hh hg
      exact ⟨b, (mem b).2 (.inl hb), hkb, hs⟩
  · rcases app_cases hy with ⟨e1, rfl⟩ | ⟨e1, hy'⟩
    · rcases app_cases hz with ⟨e2, rfl⟩ | ⟨e2, hz'⟩
      · omega
      · have := h.sdb l z hz' hh'
        omega
    · rcases app_cases hz with ⟨e2, rfl⟩ | ⟨e2, hz'⟩
      · have := h.sdb k y hy' hh
        omega
      · exact h.uniq k l y z hy' hz' hh hh' he
  · show 1 ≤ y.sd ∧ y.sd < K'.nsd
    have := h.sk.nsd
    rcases app_cases hy with ⟨e1, rfl⟩ | ⟨e1, hy'⟩
    · omega
    · have := h.sdb k y hy' hh
      omega
  · show updX t.C e.slot.toNat x' s = C0
    have h2 := (hK.ei.ok _ hnew).con hk
    have h2' : 0 ≤ e.slot := h2.2.2.2.2.2.2.1
    have hns : s ≠ e.slot.toNat := fun q => hn (e, 0) hnew hk (by show e.slot = (s : Int); omega)
    unfold updX
    rw [if_neg hns]
    exact h.free s hs fun b hb hkb => hn b ((mem b).2 (.inl hb)) hkb
end
end Go.Proofs.Qxb6500424aGreat
