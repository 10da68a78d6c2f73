/-
  host: the plain law of the network: a listener ends; Accept, Listen; the clock.
-/
import Derived.Test.Qxb6500424aGreatHpO
set_option linter.unusedVariables false
set_option linter.unusedSimpArgs false
namespace Go.Proofs.Qxb6500424aGreat
section
variable {T : Int} {t t1 : Nat → TC} {G G1 : List GE} {X X1 : Nat → CS} {Lg N N1 : List LE} {c i : Nat} {g g2 : GE} {x' : CS} {a : Sk.AE} {e : LE} {sd lsd mx : Int} {P : List Int}
theorem TrAll.next (h : TrAll T G X G1 X1) (hi : G1[i]? = some g) (h0 : G[i]? = some g) (hX : X1 i = X i) (hl : g.gone = false) (tr : Tr T G i g g2 (X i) x') : TrAll T G X (G1.set i g2) (updX X1 i x') := fun k y hy => by
  by_cases q : k = i
  · subst q
    rw [h0] at hy
    cases hy
    exact ⟨g2, set_at hi, .inr ⟨hl, by rw [show updX X1 k x' k = x' by simp [updX]]; exact tr⟩⟩
  · obtain ⟨y2, hy2, z⟩ := h k y hy
    exact ⟨y2, by rw [set_ne q]; exact hy2, by rw [show updX X1 i x' k = X1 k by unfold updX; rw [if_neg q]]; exact z⟩
/-- A change that opens nothing speaks of no other end. -/
theorem Tr.any {G' : List GE} {x : CS} (h : Tr T G i g g2 x x') (hn : x'.st ≠ 3 ∨ x.st = 3) : Tr T G' i g g2 x x' := by
  refine ⟨h.kp, h.may, h.go, ?_, h.frz, h.pfm, h.rcm⟩
  rcases h.how with z | ⟨z1, z2, _⟩ | ⟨z1, z2, z3, z4⟩
  · exact .inl z
  · rcases hn with q | q
    · exact absurd z2 q
    · omega
  · exact .inr (.inr ⟨z1, z2, z3, z4⟩)
theorem SameSR.trans {G2 : List GE} (h : SameSR G G1) (h2 : SameSR G1 G2) (hl : ∀ (i : Nat) g, G[i]? = some g → ∃ g1, G1[i]? = some g1) : SameSR G G2 := fun i g g2 a b => by
  obtain ⟨g1, h1⟩ := hl i g a
  have q1 := h i g g1 a h1
  have q2 := h2 i g1 g2 h1 b
  exact ⟨by rw [q2.1, q1.1], by rw [q2.2.1, q1.2.1], by rw [q2.2.2, q1.2.2]⟩
structure ShutI (T : Int) (t t1 : Nat → TC) (G G1 : List GE) (X X1 : Nat → CS) (Lg N1 : List LE) (c : Nat) (lsd : Int) (l : List Int) (O : List OutS) : Prop where
  sys : Sys T t1 G1 X1 (Lg ++ N1)
  oth : ∀ k, k ≠ c → t1 k = t k
  K : (t1 c).K = (t c).K
  cov : Cov T c O N1
  tr : TrAll T G X G1 X1
  sr : SameSR G G1
  len : G1.length = G.length
  calm : Calm G1 X X1
  todo : ∀ (i : Nat) g, G1[i]? = some g → g.h = c → g.sd ∈ l → G[i]? = some g ∧ X1 i = X i
  done : ∀ a ∈ (t c).K.E, a.1.kind = 2 → a.1.par = lsd → a.1.sd ∉ l → ((t1 c).C (slotN a)).st = 4 ∧ ((t1 c).C (slotN a)).why ≠ 0
theorem shut_step {l : List Int} {O : List OutS} (hc : c < 3) (hl0 : lsd ≠ 0) (hnd : sd ∉ l) (h : ShutI T t t1 G G1 X X1 Lg N1 c lsd (sd :: l) O) :
    ∃ G2 X2 N2, ShutI T t (updH t1 c (shut1T lsd sd (t1 c)).1) G G2 X X2 Lg N2 c lsd l (O ++ (shut1T lsd sd (t1 c)).2) := by
  have tb := h.sys.tab c hc
  have same : (∀ a ∈ (t c).K.E, a.1.kind = 2 → a.1.par = lsd → a.1.sd ≠ sd) → shut1T lsd sd (t1 c) = (t1 c, []) → ∃ G2 X2 N2, ShutI T t (updH t1 c (shut1T lsd sd (t1 c)).1) G G2 X X2 Lg N2 c lsd l (O ++ (shut1T lsd sd (t1 c)).2) := fun hn e0 => by
    rw [e0, updH_same, List.append_nil]
    exact ⟨G1, X1, N1, h.sys, h.oth, h.K, h.cov, h.tr, h.sr, h.len, h.calm, fun i g hg hh hm => h.todo i g hg hh (List.mem_cons_of_mem _ hm), fun a ha hk hp hm => h.done a ha hk hp (fun q => by
      rcases List.mem_cons.1 q with q | q
      · exact hn a ha hk hp q
      · exact hm q)⟩
  cases hget : Sk.getE (t1 c).K.E sd with
  | none =>
    refine same (fun a ha hk hp q => ?_) (by unfold shut1T; rw [hget])
    rw [h.K] at hget
    rw [← q, Sk.getE_some (by rw [← h.K]; exact tb.sk.ei) ha] at hget
    cases hget
  | some a =>
    have ham := List.mem_of_find?_eq_some hget
    have hsa : a.1.sd = sd := by have := List.find?_some hget; simpa using this
    by_cases cp : a.1.par ≠ lsd
    · refine same (fun b hb hk hp q => ?_) (by unfold shut1T; rw [hget]; show (if a.1.par ≠ lsd then _ else _ : TC × List OutS) = _; rw [if_pos cp])
      rw [← h.K] at hb
      have := tb.sk.ei.uniq hb ham (by rw [q, hsa])
      subst this
      exact cp hp
    · have cp' : a.1.par = lsd := by simpa using cp
      have hka : a.1.kind = 2 := by
        rcases (tb.sk.ei.ok a ham).kind with q | q
        · have := ((tb.sk.ei.ok a ham).lis q).2.2.2.2.2.1
          omega
        · exact q
      obtain ⟨i, g, r⟩ := tb.row a ham hka
      obtain ⟨g2, N, aft, kq, gn2, e0, st4, wy, tr⟩ := h.sys.abort1 hc ham hka r
      have hs1 : shut1T lsd sd (t1 c) = (⟨(t1 c).K, updX (t1 c).C (slotN a) (abortF (X1 i)).C⟩, (abortF (X1 i)).G.map (stampS a.1)) := by
        unfold shut1T
        rw [hget]
        show (if a.1.par ≠ lsd then _ else _ : TC × List OutS) = _
        rw [if_neg cp, r.C, if_pos e0]
      rw [hs1]
      obtain ⟨td1, td2⟩ := h.todo i g r.at_ r.h (by rw [r.sd, hsa]; exact List.mem_cons_self ..)
      refine ⟨G1.set i g2, updX X1 i (abortF (X1 i)).C, N1 ++ N, by rw [← List.append_assoc]; exact aft.sys, fun k hk => by rw [updH_ne hk]; exact h.oth k hk, by rw [updH_at]; exact h.K, h.cov.app aft.cov, h.tr.next r.at_ td1 td2 r.gone (by rw [← td2]; exact tr.any (.inl (by rw [st4]; decide))), ?_, by rw [List.length_set]; exact h.len, h.calm.set r.at_ (fun _ q => by rw [st4] at q; cases q), fun k y hy hh hm => ?_, fun b hb hk hp hm => ?_⟩
      · refine h.sr.trans (SameSR.set r.at_ kq.S kq.R kq.wc) fun k y hy => ?_
        have hlt := (List.getElem?_eq_some_iff.1 hy).1
        exact ⟨G1[k]'(by rw [h.len]; exact hlt), List.getElem?_eq_getElem _⟩
      · have hk : k ≠ i := fun q => by
          subst q
          rw [set_at r.at_] at hy
          cases hy
          rw [kq.sd, r.sd, hsa] at hm
          exact hnd hm
        rw [set_ne hk] at hy
        have := h.todo k y hy hh (List.mem_cons_of_mem _ hm)
        exact ⟨this.1, by rw [show updX X1 i (abortF (X1 i)).C k = X1 k by unfold updX; rw [if_neg hk]]; exact this.2⟩
      · rw [updH_at]
        show (updX (t1 c).C (slotN a) (abortF (X1 i)).C (slotN b)).st = 4 ∧ (updX (t1 c).C (slotN a) (abortF (X1 i)).C (slotN b)).why ≠ 0
        by_cases q : b.1.sd = sd
        · have hb1 : b ∈ (t1 c).K.E := by rw [h.K]; exact hb
          have := tb.sk.ei.uniq hb1 ham (by rw [q, hsa])
          subst this
          rw [show updX (t1 c).C (slotN b) (abortF (X1 i)).C (slotN b) = (abortF (X1 i)).C by simp [updX]]
          exact ⟨st4, wy⟩
        · have hb1 : b ∈ (t1 c).K.E := by rw [h.K]; exact hb
          have hns := slot_ne tb.sk ham hb1 hka hk (by rw [hsa]; exact q)
          rw [show updX (t1 c).C (slotN a) (abortF (X1 i)).C (slotN b) = (t1 c).C (slotN b) by unfold updX; rw [if_neg hns]]
          exact h.done b hb hk hp (fun z => by
            rcases List.mem_cons.1 z with z | z
            · exact q z
            · exact hm z)
theorem shut_all (hc : c < 3) (hl0 : lsd ≠ 0) : ∀ (l : List Int) (t1 : Nat → TC) (G1 : List GE) (X1 : Nat → CS) (N1 : List LE) (O : List OutS), l.Nodup → ShutI T t t1 G G1 X X1 Lg N1 c lsd l O → ∃ G2 X2 N2, ShutI T t (updH t1 c (shutLT lsd l (t1 c)).1) G G2 X X2 Lg N2 c lsd [] (O ++ (shutLT lsd l (t1 c)).2)
  | [], t1, G1, X1, N1, O, _, h => ⟨G1, X1, N1, by
      show ShutI T t (updH t1 c (t1 c)) G G1 X X1 Lg N1 c lsd [] (O ++ [])
      rw [updH_same, List.append_nil]; exact h⟩
  | sd :: l, t1, G1, X1, N1, O, hnd, h => by
    have hn := List.nodup_cons.1 hnd
    obtain ⟨G2, X2, N2, h2⟩ := shut_step hc hl0 hn.1 h
    obtain ⟨G3, X3, N3, h3⟩ := shut_all hc hl0 l _ G2 X2 N2 _ hn.2 h2
    refine ⟨G3, X3, N3, ?_⟩
    rw [updH_at] at h3
    have e1 : updH (updH t1 c (shut1T lsd sd (t1 c)).1) c (shutLT lsd l (shut1T lsd sd (t1 c)).1).1 = updH t1 c (shutLT lsd (sd :: l) (t1 c)).1 := by
      funext k
      unfold updH
      split
      · rfl
      · rfl
    rw [e1, List.append_assoc] at h3
    exact h3
theorem sds_nodup {K : Sk.SkS} (h : Sk.SkOk K) : (sdsE K.E).Nodup := by
  unfold sdsE
  rw [List.nodup_iff_pairwise_ne, List.pairwise_map]
  exact h.ei.nd
/-- A listener ends, and its children with it. -/
theorem Sys.shut (h : Sys T t G X Lg) (hc : c < 3) (hl : lisB (t c).K.E sd = true) :
    ∃ G' X' N, After T t (updH t c (shutT sd (t c)).1) G X Lg c (shutT sd (t c)).2 G' X' N ∧ SameSR G G' ∧ G'.length = G.length ∧ Calm G' X X' ∧ (∀ a ∈ (t c).K.E, a.1.kind = 2 → a.1.par = sd → ((shutT sd (t c)).1.C (slotN a)).st = 4 ∧ ((shutT sd (t c)).1.C (slotN a)).why ≠ 0) := by
  have tb := h.tab c hc
  obtain ⟨a, hget, hka⟩ : ∃ a, Sk.getE (t c).K.E sd = some a ∧ a.1.kind = 1 := by
    unfold lisB at hl
    split at hl
    · cases hl
    · rename_i a ha
      exact ⟨a, ha, by simpa using hl⟩
  have ham := List.mem_of_find?_eq_some hget
  have hsa : a.1.sd = sd := by have := List.find?_some hget; simpa using this
  have hsd0 : sd ≠ 0 := by have := tb.sk.ei.sd a ham; omega
  have start : ShutI T t t G G X X Lg [] c sd (sdsE (t c).K.E) [] := ⟨by rw [List.append_nil]; exact h, fun _ _ => rfl, rfl, Cov.nil _ _ _, TrAll.refl _ _ _, SameSR.refl G, rfl, fun _ _ _ _ q => q, fun i g hg _ _ => ⟨hg, rfl⟩, fun b hb hk hp hm => absurd (List.mem_map.2 ⟨b, hb, rfl⟩) hm⟩
  obtain ⟨G2, X2, N2, h2⟩ := shut_all hc hsd0 _ t G X [] [] (sds_nodup tb.sk) start
  have hK2 := h2.K
  rw [updH_at] at hK2
  have tb2 := h2.sys.tab c hc
  rw [updH_at] at tb2
  have hsk := Sk.freeA_ok tb2.sk sd
  have eF : (Sk.freeA sd (shutLT sd (sdsE (t c).K.E) (t c)).1.K).2 = { (shutLT sd (sdsE (t c).K.E) (t c)).1.K with E := (Sk.delE sd (shutLT sd (sdsE (t c).K.E) (t c)).1.K.E).map (Sk.orp sd) } := by
    unfold Sk.freeA
    rw [hK2, hget]
  have mem : ∀ b, b ∈ (Sk.delE sd (shutLT sd (sdsE (t c).K.E) (t c)).1.K.E).map (Sk.orp sd) ↔ ∃ b0 ∈ (shutLT sd (sdsE (t c).K.E) (t c)).1.K.E, b0.1.sd ≠ sd ∧ Sk.orp sd b0 = b := fun b => by
    rw [List.mem_map]
    constructor
    · rintro ⟨b0, h1, h3⟩
      unfold Sk.delE at h1
      obtain ⟨h4, h5⟩ := List.mem_filter.1 h1
      exact ⟨b0, h4, by simpa using h5, h3⟩
    · rintro ⟨b0, h4, h5, h3⟩
      exact ⟨b0, by unfold Sk.delE; exact List.mem_filter.2 ⟨h4, by simpa using h5⟩, h3⟩
  have tb3 : Tab c (shutT sd (t c)).1 G2 X2 := by
    unfold shutT
    refine tb2.turn hsk (by rw [eF]; exact Int.le_refl _) (fun b hb hkb => ?_) (fun b0 hb0 hkb => ?_) (fun b hb hkb => ?_)
    rotate_left 2
    · rw [eF] at hb
      obtain ⟨b0, h4, h5, rfl⟩ := (mem b).1 hb
      exact .inl ⟨b0, h4, by unfold Sk.orp at hkb; split at hkb <;> exact hkb, by unfold Sk.orp; split <;> rfl⟩
    · rw [eF] at hb
      obtain ⟨b0, h4, h5, rfl⟩ := (mem b).1 hb
      refine ⟨b0, h4, ?_, ?_⟩
      · unfold Sk.orp; split <;> rfl
      · by_cases q : b0.1.par = sd
        · refine .inr ⟨by rw [Sk.orp_par, if_pos q], fun i g r hs => ?_⟩
          have ek : (Sk.orp sd b0).1.kind = b0.1.kind := by unfold Sk.orp; split <;> rfl
          have hd := h2.done b0 (by rw [← hK2]; exact h4) (by rw [← ek]; exact hkb) q (by simp)
          rw [updH_at, r.C] at hd
          omega
        · exact .inl ⟨by rw [Sk.orp_par, if_neg q], by rw [Sk.orp_rdy, if_neg q]⟩
    · have hne : b0.1.sd ≠ sd := fun q => by
        have : b0 = a := tb2.sk.ei.uniq hb0 (by rw [hK2]; exact ham) (by rw [q, hsa])
        subst this
        omega
      refine ⟨Sk.orp sd b0, by rw [eF]; exact (mem _).2 ⟨b0, hb0, hne, rfl⟩, ?_, ?_, ?_⟩
      · unfold Sk.orp; split <;> exact hkb
      · unfold Sk.orp; split <;> rfl
      · unfold Sk.orp; split <;> rfl
  refine ⟨G2, X2, N2, ⟨⟨h.T0, h2.sys.inv, fun k hk => ?_, h2.sys.hlt⟩, ?_, h2.tr⟩, h2.sr, h2.len, h2.calm, fun b hb hk hp => ?_⟩
  · by_cases q : k = c
    · subst q; rw [updH_at]; exact tb3
    · rw [updH_ne q]
      have := h2.sys.tab k hk
      rw [updH_ne q] at this
      exact this
  · have := h2.cov
    rw [List.nil_append] at this
    exact this
  · have := h2.done b hb hk hp (by simp)
    rw [updH_at] at this
    exact this
/-- Abort of a row of the caller's. -/
theorem Sys.abort (h : Sys T t G X Lg) (hc : c < 3) (hl : lisB (t c).K.E sd = false) (ho : oursE (t c).K.E sd = some a) :
    ∃ i g g2 N, RowOk c (t c) G X a i g ∧ (endT abortF sd (t c)).e = 0 ∧ After T t (updH t c (endT abortF sd (t c)).t) G X Lg c (endT abortF sd (t c)).G (G.set i g2) (updX X i (abortF (X i)).C) N ∧ Kq g g2 ∧ (abortF (X i)).C.st = 4 ∧ (abortF (X i)).C.why ≠ 0 := by
  obtain ⟨hg, hk, hp⟩ := oursE_some ho
  obtain ⟨ham, hsd, i, g, r⟩ := h.rowOf hc hg hk
  obtain ⟨g2, N, aft, kq, gn2, e0, st4, wy, tr⟩ := h.abort1 hc ham hk r
  have es : endT abortF sd (t c) = ⟨(), 0, ⟨(t c).K, updX (t c).C (slotN a) (abortF (X i)).C⟩, (abortF (X i)).G.map (stampS a.1)⟩ := by
    unfold endT
    rw [if_neg (by rw [hl]; decide), ho]
    show (if (abortF ((t c).C (slotN a))).e ≠ 0 then _ else _ : CallR Unit) = _
    rw [r.C, if_neg (by rw [e0]; decide)]
  rw [es]
  exact ⟨i, g, g2, N, r, rfl, aft, kq, st4, wy⟩
/-- Accept: a child that has opened is the caller's from now on. -/
theorem Sys.accept (h : Sys T t G X Lg) (hc : c < 3) : Sys T (updH t c ⟨(Sk.acceptA sd (t c).K).2, (t c).C⟩) G X Lg := by
  have tb := h.tab c hc
  have hok := Sk.acceptA_ok tb.sk sd
  have key : Tab c ⟨(Sk.acceptA sd (t c).K).2, (t c).C⟩ G X := by
    unfold Sk.acceptA at hok ⊢
    cases hget : Sk.getE (t c).K.E sd with
    | none => exact tb
    | some a =>
      rw [hget] at hok
      show Tab c ⟨(if a.1.kind ≠ 1 then _ else _ : (Int × Int) × Sk.SkS).2, _⟩ G X
      by_cases ck : a.1.kind ≠ 1
      · rw [if_pos ck]; exact tb
      rw [if_neg ck]
      have hok1 : Sk.SkOk (if a.1.kind ≠ 1 then (((0, 21), (t c).K) : (Int × Int) × Sk.SkS) else match Sk.qE (t c).K.E sd with
        | [] => ((0, 14), (t c).K)
        | q :: _ => ((q.1.sd, 0), { (t c).K with E := Sk.turnE q.1.sd Sk.accG (t c).K.E })).2 := hok
      rw [if_neg ck] at hok1
      cases hq : Sk.qE (t c).K.E sd with
      | nil => exact tb
      | cons q l =>
        rw [hq] at hok1
        show Tab c ⟨{ (t c).K with E := Sk.turnE q.1.sd Sk.accG (t c).K.E }, _⟩ G X
        have hqm : q ∈ (t c).K.E.filter (Sk.rdyOf sd) := (Sk.qE_spec tb.sk.ei sd).2.subset (by rw [hq]; exact List.mem_cons_self ..)
        obtain ⟨hqE, hqr⟩ := List.mem_filter.1 hqm
        obtain ⟨hqp, hqy⟩ := Sk.rdyOf_iff.1 hqr
        refine tb.turn hok1 (Int.le_refl _) (fun b hb hkb => ?_) (fun b0 hb0 hkb => ?_) (fun b hb hkb => ?_)
        rotate_left 2
        · obtain ⟨b0, hb0, e0⟩ := mem_turn.1 hb
          by_cases qs : b0.1.sd = q.1.sd
          · rw [if_pos qs] at e0; subst e0; exact .inl ⟨b0, hb0, hkb, rfl⟩
          · rw [if_neg qs] at e0; subst e0; exact .inl ⟨b, hb0, hkb, rfl⟩
        · obtain ⟨b0, hb0, e0⟩ := mem_turn.1 hb
          by_cases qs : b0.1.sd = q.1.sd
          · rw [if_pos qs] at e0
            have eb : b0 = q := tb.sk.ei.uniq hb0 hqE qs
            subst e0
            refine ⟨b0, hb0, rfl, .inr ⟨rfl, fun i g r hs => ?_⟩⟩
            rw [eb] at r
            have hp0 : q.1.par ≠ 0 := fun z => by
              rcases tb.sk.ei.ok q hqE with w | w
              · rw [w.2.2.2.2.2.2.2] at hqy; cases hqy
              · rw [w.2.2.2.2.2.2.2.2.2 z] at hqy; cases hqy
            have := (r.rdy hp0).1 hqy
            have lv := h.inv.live i g r.at_ r.gone
            rw [(lv.op (.inr hs)).2.2.1] at this
            cases this
          · rw [if_neg qs] at e0
            subst e0
            exact ⟨b, hb0, rfl, .inl ⟨rfl, rfl⟩⟩
        · by_cases qs : b0.1.sd = q.1.sd
          · exact ⟨Sk.accG b0, mem_turn.2 ⟨b0, hb0, by rw [if_pos qs]⟩, hkb, rfl, rfl⟩
          · exact ⟨b0, mem_turn.2 ⟨b0, hb0, by rw [if_neg qs]⟩, hkb, rfl, rfl⟩
  refine ⟨h.T0, h.inv, fun k hk => ?_, h.hlt⟩
  by_cases q : k = c
  · subst q; rw [updH_at]; exact key
  · rw [updH_ne q]; exact h.tab k hk
/-- Listen: a new row, no end. -/
theorem Sys.listen (h : Sys T t G X Lg) (hc : c < 3) : Sys T (updH t c ⟨(Sk.listenA sd (t c).K).2, (t c).C⟩) G X Lg := by
  have tb := h.tab c hc
  have hok := Sk.listenA_ok tb.sk sd
  have key : Tab c ⟨(Sk.listenA sd (t c).K).2, (t c).C⟩ G X := by
    unfold Sk.listenA at hok ⊢
    by_cases c1 : sd < 1 ∨ 8 ≤ sd
    · rw [if_pos c1]; exact tb
    rw [if_neg c1] at hok ⊢
    by_cases c2 : Sk.lisE (t c).K.E sd ≠ 0
    · rw [if_pos c2]; exact tb
    rw [if_neg c2] at hok ⊢
    by_cases c3 : ((t c).K.E.filter Sk.isL).length = 2
    · rw [if_pos c3]; exact tb
    rw [if_neg c3] at hok ⊢
    refine tb.turn hok (by show (t c).K.nsd ≤ (t c).K.nsd + 1; omega) (fun b hb hkb => ?_) (fun b0 hb0 hkb => ⟨b0, ?_, hkb, rfl, rfl⟩) (fun b hb hkb => ?_)
    rotate_left 2
    · have hb' : b ∈ (t c).K.E ++ [(_, 0)] := hb
      rcases List.mem_append.1 hb' with z | z
      · exact .inl ⟨b, z, hkb, rfl⟩
      · simp only [List.mem_singleton] at z
        subst z
        exact .inr (Int.le_refl _)
    · have hb' : b ∈ (t c).K.E ++ [(_, 0)] := hb
      rcases List.mem_append.1 hb' with z | z
      · exact ⟨b, z, rfl, .inl ⟨rfl, rfl⟩⟩
      · simp only [List.mem_singleton] at z
        subst z
        cases hkb
    · show b0 ∈ (t c).K.E ++ [(_, 0)]
      exact List.mem_append.2 (.inl hb0)
  refine ⟨h.T0, h.inv, fun k hk => ?_, h.hlt⟩
  by_cases q : k = c
  · subst q; rw [updH_at]; exact key
  · rw [updH_ne q]; exact h.tab k hk
end
end Go.Proofs.Qxb6500424aGreat
