/-
  host: the plain law of the network: the world's clock ticks.
-/
import Derived.Test.Qxb6500424aGreatHpP
set_option linter.unusedVariables false
set_option linter.unusedSimpArgs false
namespace Go.Proofs.Qxb6500424aGreat
section
variable {T : Int} {tk : Nat → Bool} {t t1 : Nat → TC} {G G1 : List GE} {X X1 : Nat → CS} {Lg N N1 : List LE} {c i : Nat} {g g2 : GE} {x x' : CS} {a : Sk.AE} {e : LE} {sd lsd mx : Int} {P : List Int}
theorem arm_st (x : CS) : (armF x).st = x.st := by rw [armF_eq]
theorem tick_st (hnz : x.st ≠ 0) : (x.st = 4 → (tickF x).1.st = 0 ∨ ((tickF x).1.st = 4 ∧ (tickF x).1.why = x.why)) ∧ (x.st ≠ 4 → (tickF x).1.st = x.st ∨ (tickF x).1.st = 4) := by
  unfold tickF
  rw [if_neg hnz]
  refine ⟨fun h4 => ?_, fun h4 => ?_⟩
  · rw [if_pos h4]
    by_cases q : dec1 x.qt = 0 ∧ x.B.A.length = 0
    · rw [if_pos q]; exact .inl rfl
    · rw [if_neg q]; exact .inr ⟨h4, rfl⟩
  · rw [if_neg h4]
    by_cases c0 : 0 < x.tm
    · rw [if_pos c0]
      by_cases c1 : x.tm - 1 = 0
      · rw [if_pos c1]
        by_cases c2 : x.rt = 3
        · rw [if_pos c2]; exact .inr rfl
        · rw [if_neg c2]
          exact .inl (by show (pumpF _).1.st = x.st; rw [pump_st, arm_st])
      · rw [if_neg c1]
        exact .inl (by rw [pump_st])
    · rw [if_neg c0]
      exact .inl (by rw [pump_st])
theorem tick_pf {x : CS} (h : CsOk x) (h3 : x.st = 3) (h3' : (tickF x).1.st = 3) : (tickF x).1.pf = x.pf := by
  have ht := h.tm
  by_cases c0 : x.tm = 0
  · exact (tick_zero h h3 c0).2.1.pf
  · by_cases c1 : x.tm = 1
    · rcases tick_one h h3 c1 with ⟨z, _⟩ | ⟨_, z, _⟩
      · rw [h3'] at z; cases z
      · exact z.pf
    · exact (tick_gt h h3 (by omega)).2.1.pf
theorem tick_A {x : CS} (h : CsOk x) (h3 : x.st = 3) (h3' : (tickF x).1.st = 3) : (tickF x).1.B = x.B := by
  have ht := h.tm
  by_cases c0 : x.tm = 0
  · exact (tick_zero h h3 c0).2.1.B
  · by_cases c1 : x.tm = 1
    · rcases tick_one h h3 c1 with ⟨z, _⟩ | ⟨_, z, _⟩
      · rw [h3'] at z; cases z
      · exact z.B
    · exact (tick_gt h h3 (by omega)).2.1.B
/-- A block's segment, with the ports of its end. -/
def stampG (g : GE) (s : SegV) : OutS := (g.rh, ({ s.1 with sp := g.lp, dp := g.rp }, s.2))
structure TickI (T : Int) (tk : Nat → Bool) (t t1 : Nat → TC) (G G1 : List GE) (X X1 : Nat → CS) (Lg N : List LE) (c : Nat) (l : List Int) (O : List OutS) : Prop where
  T0 : 0 ≤ T
  inv : Inv T tk G1 X1 (Lg ++ N)
  tab : ∀ k, k < 3 → Tab k (t1 k) G1 X1
  hlt : ∀ (i : Nat) g, G1[i]? = some g → g.h < 3
  oth : ∀ k, k ≠ c → t1 k = t k
  cov : Cov T c O N
  tr : TrAll T G X G1 X1
  sr : SameSR G G1
  len : G1.length = G.length
  calm : Calm G1 X X1
  todo : ∀ (i : Nat) g, G1[i]? = some g → g.gone = false → (c < g.h ∨ (g.h = c ∧ g.sd ∈ l)) → tk i = false ∧ G[i]? = some g ∧ X1 i = X i
  done : ∀ (i : Nat) g, G1[i]? = some g → g.gone = false → (g.h < c ∨ (g.h = c ∧ g.sd ∉ l)) → tk i = true
  todoG : ∀ (i : Nat) g, G[i]? = some g → g.gone = false → (c < g.h ∨ (g.h = c ∧ g.sd ∈ l)) → G1[i]? = some g
  doneX : ∀ (i : Nat) g, G1[i]? = some g → g.gone = false → (g.h < c ∨ (g.h = c ∧ g.sd ∉ l)) → X1 i = (tickF (X i)).1
  outs : ∀ (i : Nat) g, G[i]? = some g → g.gone = false → g.h = c → g.sd ∉ l → ∀ s ∈ (tickF (X i)).2, stampG g s ∈ O
  outs2 : ∀ o ∈ O, ∃ (i : Nat) (g : GE), G[i]? = some g ∧ g.gone = false ∧ g.h = c ∧ ∃ s ∈ (tickF (X i)).2, o = stampG g s
theorem tick_step {l : List Int} {O : List OutS} (hc : c < 3) (hnd : sd ∉ l) (h : TickI T tk t t1 G G1 X X1 Lg N c (sd :: l) O) :
    ∃ tk2 G2 X2 N2 v O2, TickI T tk2 t (updH t1 c v) G G2 X X2 Lg N2 c l (O ++ O2) ∧ (∀ rest : TC × List OutS, rest = tickT l v → tickT (sd :: l) (t1 c) = (rest.1, O2 ++ rest.2)) := by
  have tb := h.tab c hc
  have same : (∀ a ∈ (t1 c).K.E, a.1.kind = 2 → a.1.sd ≠ sd) → tickT (sd :: l) (t1 c) = tickT l (t1 c) → ∃ tk2 G2 X2 N2 v O2, TickI T tk2 t (updH t1 c v) G G2 X X2 Lg N2 c l (O ++ O2) ∧ (∀ rest : TC × List OutS, rest = tickT l v → tickT (sd :: l) (t1 c) = (rest.1, O2 ++ rest.2)) := fun hn e0 => by
    have hno : ∀ (i : Nat) g, G1[i]? = some g → g.gone = false → g.h = c → g.sd ≠ sd := fun i g hg hgn hh q => by
      obtain ⟨b, hb, hkb, hsb⟩ := tb.end_ i g hg hh hgn
      exact hn b hb hkb (by rw [hsb, q])
    have up : ∀ (i : Nat) g, G1[i]? = some g → g.gone = false → (g.h < c ∨ (g.h = c ∧ g.sd ∉ l)) → (g.h < c ∨ (g.h = c ∧ g.sd ∉ sd :: l)) := fun i g hg hgn hh => by
      rcases hh with q | ⟨q1, q2⟩
      · exact .inl q
      · refine .inr ⟨q1, fun z => ?_⟩
        rcases List.mem_cons.1 z with z | z
        · exact hno i g hg hgn q1 z
        · exact q2 z
    refine ⟨tk, G1, X1, N, t1 c, [], ?_, fun rest hr => by rw [e0, hr]; rfl⟩
    rw [updH_same, List.append_nil]
    refine ⟨h.T0, h.inv, h.tab, h.hlt, h.oth, h.cov, h.tr, h.sr, h.len, h.calm, fun i g hg hgn hh => h.todo i g hg hgn ?_, fun i g hg hgn hh => h.done i g hg hgn (up i g hg hgn hh), fun i g hg hgn hh => h.todoG i g hg hgn ?_, fun i g hg hgn hh => h.doneX i g hg hgn (up i g hg hgn hh), fun i g hg hgn hh hl => h.outs i g hg hgn hh fun z => ?_, h.outs2⟩
    · rcases hh with q | ⟨q1, q2⟩
      · exact .inl q
      · exact .inr ⟨q1, List.mem_cons_of_mem _ q2⟩
    · rcases hh with q | ⟨q1, q2⟩
      · exact .inl q
      · exact .inr ⟨q1, List.mem_cons_of_mem _ q2⟩
    · rcases List.mem_cons.1 z with z | z
      · exact hno i g (h.todoG i g hg hgn (.inr ⟨hh, by rw [z]; exact List.mem_cons_self ..⟩)) hgn hh z
      · exact hl z
  cases hget : Sk.getE (t1 c).K.E sd with
  | none =>
    refine same (fun a ha hk q => ?_) (by show (match Sk.getE (t1 c).K.E sd with | none => tickT l (t1 c) | some a => _) = _; rw [hget])
    rw [← q, Sk.getE_some tb.sk.ei ha] at hget
    cases hget
  | some a =>
    have ham := List.mem_of_find?_eq_some hget
    have hsa : a.1.sd = sd := by have := List.find?_some hget; simpa using this
    by_cases ck : a.1.kind ≠ 2
    · refine same (fun b hb hk q => ?_) (by show (match Sk.getE (t1 c).K.E sd with | none => tickT l (t1 c) | some a => if a.1.kind ≠ 2 then tickT l (t1 c) else _) = _; rw [hget]; show (if a.1.kind ≠ 2 then _ else _ : TC × List OutS) = _; rw [if_pos ck])
      have : b = a := tb.sk.ei.uniq hb ham (by rw [q, hsa])
      subst this
      exact ck hk
    · have hka : a.1.kind = 2 := by simpa using ck
      obtain ⟨i, g, r⟩ := tb.row a ham hka
      obtain ⟨td0, td1, td2⟩ := h.todo i g r.at_ r.gone (.inr ⟨r.h, by rw [r.sd, hsa]; exact List.mem_cons_self ..⟩)
      have lv := h.inv.live i g r.at_ r.gone
      obtain ⟨g2, iv, kq, gn, fz⟩ := h.inv.tickRow (tk' := updT tk i true) (N := leN T g i (tickF (X1 i)).2) r.at_ r.gone (fun k hk => by unfold updT; rw [if_neg hk]) (by simp [updT]) td0 (leN_out T g i (tickF (X1 i)).2)
      obtain ⟨ts4, tsn⟩ := tick_st (x := X1 i) lv.nz
      have q3c : (tickF (X1 i)).1.st = 3 → (X1 i).st = 3 := fun q3 => by
        by_cases c4 : (X1 i).st = 4
        · rcases ts4 c4 with z | z
          · rw [q3] at z; cases z
          · rw [q3] at z; cases z.1
        · rcases tsn c4 with z | z
          · rw [← z]; exact q3
          · rw [q3] at z; cases z
      have tr : Tr T G i g g2 (X i) (tickF (X1 i)).1 := by
        rw [← td2]
        refine ⟨kq.toKp, fun q => ⟨?_, fun q4 => ?_⟩, fun q => ?_, .inl ⟨kq.pr, kq.ot, fun q q3 => ?_⟩, fz, fun q3 q3' q => ?_, fun q3 q3' => ?_⟩
        · by_cases c4 : (X1 i).st = 4
          · rcases ts4 c4 with z | z
            · have := gn.2 z; rw [q] at this; cases this
            · exact .inl (by rw [z.1, c4])
          · rcases tsn c4 with z | z
            · exact .inl z
            · have hst := lv.ok.st
              have hnz := lv.nz
              by_cases c3 : (X1 i).st = 3
              · exact .inr (.inr ⟨c3, z⟩)
              · exact .inr (.inl ⟨by omega, .inr z⟩)
        · rcases ts4 q4 with z | z
          · have := gn.2 z; rw [q] at this; cases this
          · exact .inl z.2
        · have z := gn.1 q
          have c4 : (X1 i).st = 4 := by
            apply Classical.byContradiction
            intro c4
            rcases tsn c4 with w | w
            · exact lv.nz (by rw [← w, z])
            · rw [z] at w; cases w
          refine ⟨c4, z, ?_⟩
          unfold tickF at z
          rw [if_neg lv.nz, if_pos c4] at z
          by_cases cq : dec1 (X1 i).qt = 0 ∧ (X1 i).B.A.length = 0
          · have := cq.1
            unfold dec1 at this
            split at this <;> omega
          · rw [if_neg cq] at z
            have z' : (X1 i).st = 0 := z
            omega
        · by_cases c4 : (X1 i).st = 4
          · rcases ts4 c4 with z | z
            · rw [q3] at z; cases z
            · rw [q3] at z; cases z.1
          · rcases tsn c4 with z | z
            · rw [← z]; exact q3
            · rw [q3] at z; cases z
        · rw [tick_pf lv.ok q3 q3']; exact q
        · rw [kq.R, tick_A lv.ok q3 q3']; exact Nat.le_refl _
      -- the table
      have hv : Tab c (tick1T a (t1 c)).1 (G1.set i g2) (updX X1 i (tickF (X1 i)).1) := by
        unfold tick1T
        rw [r.C]
        by_cases c0 : (tickF (X1 i)).1.st = 0
        · have eC0 : (tickF (X1 i)).1 = C0 := (tickF_ok lv.ok).free c0
          show Tab c ⟨if (tickF (X1 i)).1.st = 0 then (Sk.freeA a.1.sd (t1 c).K).2 else (t1 c).K, updX (t1 c).C (slotN a) (tickF (X1 i)).1⟩ _ _
          rw [if_pos c0, eC0]
          exact tb.remove ham hka r kq.toKp (gn.2 c0)
        · show Tab c ⟨if (tickF (X1 i)).1.st = 0 then (Sk.freeA a.1.sd (t1 c).K).2 else (t1 c).K, updX (t1 c).C (slotN a) (tickF (X1 i)).1⟩ _ _
          rw [if_neg c0]
          have gnf : g2.gone = false := by
            cases q : g2.gone with
            | false => rfl
            | true => exact absurd (gn.1 q) c0
          refine tb.own ham hka r kq.toKp gnf (fun q => by rw [r.rdy q, kq.ot]) (fun q => ?_)
          by_cases c4 : (X1 i).st = 4
          · rcases ts4 c4 with z | z
            · rw [q] at z; cases z
            · rw [q] at z; cases z.1
          · rcases tsn c4 with z | z
            · rw [← z]; exact q
            · rw [q] at z; cases z
      have hO : (tick1T a (t1 c)).2 = (tickF (X1 i)).2.map (stampS a.1) := by unfold tick1T; rw [r.C]
      refine ⟨updT tk i true, G1.set i g2, updX X1 i (tickF (X1 i)).1, N ++ leN T g i (tickF (X1 i)).2, (tick1T a (t1 c)).1, (tick1T a (t1 c)).2, ⟨h.T0, by rw [← List.append_assoc]; exact iv, fun k hk => ?_, fun k y hy => ?_, fun k hk => by rw [updH_ne hk]; exact h.oth k hk, h.cov.app (by rw [hO]; exact leN_cov r _), h.tr.next r.at_ td1 td2 r.gone tr, ?_, by rw [List.length_set]; exact h.len, h.calm.set r.at_ (fun _ q3 => by rw [← td2]; exact q3c q3), fun k y hy hgn hh => ?_, fun k y hy hgn hh => ?_, fun k y hy hgn hh => ?_, fun k y hy hgn hh => ?_, fun k y hy hgn hh hl s hs => ?_, fun o ho => ?_⟩, fun rest hr => ?_⟩
      · by_cases q : k = c
        · subst q; rw [updH_at]; exact hv
        · rw [updH_ne q]
          exact (h.tab k hk).set_other r.at_ (by rw [r.h]; exact fun e => q e.symm) kq.h
      · rcases set_cases r.at_ hy with ⟨_, rfl⟩ | ⟨_, hy'⟩
        · rw [kq.h]; exact h.hlt i g r.at_
        · exact h.hlt k y hy'
      · refine h.sr.trans (SameSR.set r.at_ kq.S kq.R kq.wc) fun k y hy => ?_
        have hlt := (List.getElem?_eq_some_iff.1 hy).1
        exact ⟨G1[k]'(by rw [h.len]; exact hlt), List.getElem?_eq_getElem _⟩
      · have hk : k ≠ i := fun q => by
          subst q
          rw [set_at r.at_] at hy
          cases hy
          rcases hh with z | ⟨_, z⟩
          · rw [kq.h, r.h] at z; omega
          · rw [kq.sd, r.sd, hsa] at z; exact hnd z
        rw [set_ne hk] at hy
        have := h.todo k y hy hgn (by
          rcases hh with z | ⟨z1, z2⟩
          · exact .inl z
          · exact .inr ⟨z1, List.mem_cons_of_mem _ z2⟩)
        exact ⟨by unfold updT; rw [if_neg hk]; exact this.1, this.2.1, by rw [show updX X1 i (tickF (X1 i)).1 k = X1 k by unfold updX; rw [if_neg hk]]; exact this.2.2⟩
      · by_cases hk : k = i
        · subst hk; simp [updT]
        · rw [set_ne hk] at hy
          unfold updT
          rw [if_neg hk]
          refine h.done k y hy hgn ?_
          rcases hh with z | ⟨z1, z2⟩
          · exact .inl z
          · refine .inr ⟨z1, fun w => ?_⟩
            rcases List.mem_cons.1 w with w | w
            · exact hk (tb.uniq k i y g hy r.at_ z1 r.h (by rw [w, r.sd, hsa]))
            · exact z2 w
      · have hk : k ≠ i := fun q => by
          subst q
          rw [td1] at hy
          cases hy
          rcases hh with z | ⟨_, z⟩
          · rw [r.h] at z; omega
          · rw [r.sd, hsa] at z; exact hnd z
        rw [set_ne hk]
        refine h.todoG k y hy hgn ?_
        rcases hh with z | ⟨z1, z2⟩
        · exact .inl z
        · exact .inr ⟨z1, List.mem_cons_of_mem _ z2⟩
      · by_cases hk : k = i
        · subst hk
          rw [show updX X1 k (tickF (X1 k)).1 k = (tickF (X1 k)).1 by simp [updX], td2]
        · rw [set_ne hk] at hy
          rw [show updX X1 i (tickF (X1 i)).1 k = X1 k by unfold updX; rw [if_neg hk]]
          refine h.doneX k y hy hgn ?_
          rcases hh with z | ⟨z1, z2⟩
          · exact .inl z
          · refine .inr ⟨z1, fun w => ?_⟩
            rcases List.mem_cons.1 w with w | w
            · exact hk (tb.uniq k i y g hy r.at_ z1 r.h (by rw [w, r.sd, hsa]))
            · exact z2 w
      · by_cases hk : y.sd = sd
        · have hy1 := h.todoG k y hy hgn (.inr ⟨hh, by rw [hk]; exact List.mem_cons_self ..⟩)
          have ek := tb.uniq k i y g hy1 r.at_ hh r.h (by rw [hk, r.sd, hsa])
          subst ek
          rw [r.at_] at hy1
          cases hy1
          refine List.mem_append.2 (.inr ?_)
          rw [hO, td2]
          refine List.mem_map.2 ⟨s, hs, ?_⟩
          unfold stampS stampG
          rw [r.rh, r.lp, r.rp]
        · exact List.mem_append.2 (.inl (h.outs k y hy hgn hh (fun z => by
            rcases List.mem_cons.1 z with z | z
            · exact hk z
            · exact hl z) s hs))
      · rcases List.mem_append.1 ho with z | z
        · exact h.outs2 o z
        · rw [hO, td2] at z
          obtain ⟨s, hs, rfl⟩ := List.mem_map.1 z
          refine ⟨i, g, td1, r.gone, r.h, s, hs, ?_⟩
          unfold stampS stampG
          rw [r.rh, r.lp, r.rp]
      · show (match Sk.getE (t1 c).K.E sd with | none => tickT l (t1 c) | some a => if a.1.kind ≠ 2 then tickT l (t1 c) else ((tickT l (tick1T a (t1 c)).1).1, (tick1T a (t1 c)).2 ++ (tickT l (tick1T a (t1 c)).1).2)) = _
        rw [hget]
        show (if a.1.kind ≠ 2 then _ else _ : TC × List OutS) = _
        rw [if_neg ck, hr]
theorem tick_all (hc : c < 3) : ∀ (l : List Int) (tk : Nat → Bool) (t1 : Nat → TC) (G1 : List GE) (X1 : Nat → CS) (N : List LE) (O : List OutS), l.Nodup → TickI T tk t t1 G G1 X X1 Lg N c l O → ∃ tk2 G2 X2 N2, TickI T tk2 t (updH t1 c (tickT l (t1 c)).1) G G2 X X2 Lg N2 c [] (O ++ (tickT l (t1 c)).2)
  | [], tk, t1, G1, X1, N, O, _, h => ⟨tk, G1, X1, N, by
      show TickI T tk t (updH t1 c (t1 c)) G G1 X X1 Lg N c [] (O ++ [])
      rw [updH_same, List.append_nil]; exact h⟩
  | sd :: l, tk, t1, G1, X1, N, O, hnd, h => by
    have hn := List.nodup_cons.1 hnd
    obtain ⟨tk2, G2, X2, N2, v, O2, h2, e2⟩ := tick_step hc hn.1 h
    obtain ⟨tk3, G3, X3, N3, h3⟩ := tick_all hc l _ _ G2 X2 N2 _ hn.2 h2
    refine ⟨tk3, G3, X3, N3, ?_⟩
    rw [updH_at] at h3
    have e1 := e2 (tickT l v) rfl
    have e3 : updH (updH t1 c v) c (tickT l v).1 = updH t1 c (tickT (sd :: l) (t1 c)).1 := by
      rw [e1]
      funext k
      unfold updH
      split
      · rfl
      · rfl
    rw [e3, List.append_assoc] at h3
    rw [e1] at h3 ⊢
    exact h3
/-- One host ticks. -/
theorem tick_host {Lg' : List LE} (hc : c < 3) (h : TickI T tk t t G G1 X X1 Lg' [] c (sdsE (t c).K.E) []) : ∃ tk2 G2 X2 N2, TickI T tk2 t (updH t c (tickT (sdsE (t c).K.E) (t c)).1) G G2 X X2 Lg' N2 c [] (tickT (sdsE (t c).K.E) (t c)).2 := by
  obtain ⟨tk2, G2, X2, N2, h2⟩ := tick_all hc _ tk t G1 X1 [] [] (sds_nodup (h.tab c hc).sk) h
  rw [List.nil_append] at h2
  exact ⟨tk2, G2, X2, N2, h2⟩
/-- From one host to the next. -/
theorem tick_next {Lg' : List LE} {O : List OutS} (hc : c + 1 < 3) (h : TickI T tk t t1 G G1 X X1 Lg' N c [] O) : TickI T tk t1 t1 G G1 X X1 (Lg' ++ N) [] (c + 1) (sdsE (t1 (c + 1)).K.E) [] := by
  have dn : ∀ (i : Nat) g, G1[i]? = some g → g.gone = false → (g.h < c + 1 ∨ (g.h = c + 1 ∧ g.sd ∉ sdsE (t1 (c + 1)).K.E)) → (g.h < c ∨ (g.h = c ∧ g.sd ∉ ([] : List Int))) := fun i g hg hgn hh => by
    rcases hh with q | ⟨q1, q2⟩
    · rcases Nat.lt_or_ge g.h c with z | z
      · exact .inl z
      · exact .inr ⟨by omega, by simp⟩
    · exfalso
      obtain ⟨b, hb, hkb, hsb⟩ := (h.tab (c + 1) hc).end_ i g hg q1 hgn
      exact q2 (List.mem_map.2 ⟨b, hb, hsb⟩)
  refine ⟨h.T0, by rw [List.append_nil]; exact h.inv, h.tab, h.hlt, fun _ _ => rfl, Cov.nil _ _ _, h.tr, h.sr, h.len, h.calm, fun i g hg hgn hh => h.todo i g hg hgn (.inl (by omega)), fun i g hg hgn hh => h.done i g hg hgn (dn i g hg hgn hh), fun i g hg hgn hh => h.todoG i g hg hgn (.inl (by omega)), fun i g hg hgn hh => h.doneX i g hg hgn (dn i g hg hgn hh), fun i g hg hgn hh hl => ?_, fun o ho => (by cases ho)⟩
  exfalso
  obtain ⟨b, hb, hkb, hsb⟩ := (h.tab (c + 1) hc).end_ i g (h.todoG i g hg hgn (.inl (by omega))) hh hgn
  exact hl (List.mem_map.2 ⟨b, hb, hsb⟩)
def tickW (t : Nat → TC) : Nat → TC := fun c => if c < 3 then (tickT (sdsE (t c).K.E) (t c)).1 else t c
/-- What the tick did, row by row. -/
def TickO (G : List GE) (X : Nat → CS) (c : Nat) (O : List OutS) : Prop :=
  (∀ (i : Nat) g, G[i]? = some g → g.gone = false → g.h = c → ∀ s ∈ (tickF (X i)).2, stampG g s ∈ O) ∧
  ∀ o ∈ O, ∃ (i : Nat) (g : GE), G[i]? = some g ∧ g.gone = false ∧ g.h = c ∧ ∃ s ∈ (tickF (X i)).2, o = stampG g s
theorem Sys.tick (h : Sys T t G X Lg) : ∃ G' X' N0 N1 N2, Sys (T + 1) (tickW t) G' X' (((Lg ++ N0) ++ N1) ++ N2) ∧ Cov (T + 1) 0 (tickT (sdsE (t 0).K.E) (t 0)).2 N0 ∧ Cov (T + 1) 1 (tickT (sdsE (t 1).K.E) (t 1)).2 N1 ∧ Cov (T + 1) 2 (tickT (sdsE (t 2).K.E) (t 2)).2 N2 ∧ TrAll (T + 1) G X G' X' ∧ SameSR G G' ∧ G'.length = G.length ∧ Calm G' X X' ∧ (∀ (i : Nat) g, G'[i]? = some g → g.gone = false → X' i = (tickF (X i)).1) ∧ TickO G X 0 (tickT (sdsE (t 0).K.E) (t 0)).2 ∧ TickO G X 1 (tickT (sdsE (t 1).K.E) (t 1)).2 ∧ TickO G X 2 (tickT (sdsE (t 2).K.E) (t 2)).2 := by
  have no : ∀ (i : Nat) g, G[i]? = some g → g.gone = false → ¬ (g.h < 0 ∨ (g.h = 0 ∧ g.sd ∉ sdsE (t 0).K.E)) := fun i g hg hgn hh => by
    rcases hh with q | ⟨q1, q2⟩
    · omega
    · obtain ⟨b, hb, hkb, hsb⟩ := (h.tab 0 (by omega)).end_ i g hg q1 hgn
      exact q2 (List.mem_map.2 ⟨b, hb, hsb⟩)
  have i0 : TickI (T + 1) (fun _ => false) t t G G X X Lg [] 0 (sdsE (t 0).K.E) [] := by
    refine ⟨by have := h.T0; omega, by rw [List.append_nil]; exact h.inv.clock, h.tab, h.hlt, fun _ _ => rfl, Cov.nil _ _ _, TrAll.refl _ _ _, SameSR.refl G, rfl, fun _ _ _ _ q => q, fun i g hg _ _ => ⟨rfl, hg, rfl⟩, fun i g hg hgn hh => absurd hh (no i g hg hgn), fun i g hg hgn hh => hg, fun i g hg hgn hh => absurd hh (no i g hg hgn), fun i g hg hgn h0 hl => absurd (.inr ⟨h0, hl⟩) (no i g hg hgn), fun o ho => (by cases ho)⟩
  obtain ⟨tk0, G0, X0, N0, h0⟩ := tick_host (by omega) i0
  have i1 := tick_next (by omega) h0
  obtain ⟨tk1, G1, X1, N1, h1⟩ := tick_host (by omega) i1
  have i2 := tick_next (by omega) h1
  obtain ⟨tk2, G2, X2, N2, h2⟩ := tick_host (by omega) i2
  have e1 : updH t 0 (tickT (sdsE (t 0).K.E) (t 0)).1 1 = t 1 := updH_ne (by omega)
  have c1 := h1.cov
  have c2 := h2.cov
  rw [e1] at c1
  have o1 := And.intro h1.outs h1.outs2
  rw [e1] at o1
  have e2 : updH (updH t 0 (tickT (sdsE (t 0).K.E) (t 0)).1) 1 (tickT (sdsE (t 1).K.E) (t 1)).1 2 = t 2 := by rw [updH_ne (by omega), updH_ne (by omega)]
  have e1' : updH t 0 (tickT (sdsE (t 0).K.E) (t 0)).1 (0 + 1) = t 1 := e1
  have hfin : updH (updH (updH t 0 (tickT (sdsE (t 0).K.E) (t 0)).1) (0 + 1) (tickT (sdsE (updH t 0 (tickT (sdsE (t 0).K.E) (t 0)).1 (0 + 1)).K.E) (updH t 0 (tickT (sdsE (t 0).K.E) (t 0)).1 (0 + 1))).1) (0 + 1 + 1) (tickT (sdsE (updH (updH t 0 (tickT (sdsE (t 0).K.E) (t 0)).1) (0 + 1) (tickT (sdsE (updH t 0 (tickT (sdsE (t 0).K.E) (t 0)).1 (0 + 1)).K.E) (updH t 0 (tickT (sdsE (t 0).K.E) (t 0)).1 (0 + 1))).1 (0 + 1 + 1)).K.E) (updH (updH t 0 (tickT (sdsE (t 0).K.E) (t 0)).1) (0 + 1) (tickT (sdsE (updH t 0 (tickT (sdsE (t 0).K.E) (t 0)).1 (0 + 1)).K.E) (updH t 0 (tickT (sdsE (t 0).K.E) (t 0)).1 (0 + 1))).1 (0 + 1 + 1))).1 = tickW t := by
    rw [e1']
    have e2' : updH (updH t 0 (tickT (sdsE (t 0).K.E) (t 0)).1) (0 + 1) (tickT (sdsE (t 1).K.E) (t 1)).1 (0 + 1 + 1) = t 2 := e2
    rw [e2']
    funext k
    unfold updH tickW
    rcases Nat.lt_or_ge k 3 with q | q
    · rw [if_pos q]
      match k, q with
      | 0, _ => rfl
      | 1, _ => rfl
      | 2, _ => rfl
    · rw [if_neg (by omega), if_neg (by omega), if_neg (by omega), if_neg (by omega)]
  have o2 := And.intro h2.outs h2.outs2
  have e3 : updH (updH t 0 (tickT (sdsE (t 0).K.E) (t 0)).1) (0 + 1) (tickT (sdsE (updH t 0 (tickT (sdsE (t 0).K.E) (t 0)).1 (0 + 1)).K.E) (updH t 0 (tickT (sdsE (t 0).K.E) (t 0)).1 (0 + 1))).1 (0 + 1 + 1) = t 2 := by rw [updH_ne (by omega), updH_ne (by omega)]
  rw [e3] at o2
  refine ⟨G2, X2, N0, N1, N2, ⟨h2.T0, ?_, fun k hk => ?_, h2.hlt⟩, h0.cov, c1, ?_, h2.tr, h2.sr, h2.len, h2.calm, fun i g hg hgn => h2.doneX i g hg hgn ?_, ⟨fun i g hg hgn hh => h0.outs i g hg hgn hh (by simp), h0.outs2⟩, ⟨fun i g hg hgn hh => o1.1 i g hg hgn hh (by simp), o1.2⟩, ⟨fun i g hg hgn hh => o2.1 i g hg hgn hh (by simp), o2.2⟩⟩
  · refine Inv.ticked h2.inv fun k y hy hgn => h2.done k y hy hgn ?_
    have := h2.hlt k y hy
    rcases Nat.lt_or_ge y.h (0 + 1 + 1) with z | z
    · exact .inl z
    · exact .inr ⟨by omega, by simp⟩
  · have := h2.tab k hk
    rw [hfin] at this
    exact this
  · have e3 : updH (updH t 0 (tickT (sdsE (t 0).K.E) (t 0)).1) (0 + 1) (tickT (sdsE (updH t 0 (tickT (sdsE (t 0).K.E) (t 0)).1 (0 + 1)).K.E) (updH t 0 (tickT (sdsE (t 0).K.E) (t 0)).1 (0 + 1))).1 (0 + 1 + 1) = t 2 := by rw [updH_ne (by omega), updH_ne (by omega)]
    rw [e3] at c2
    exact c2
  · have := h2.hlt i g hg
    rcases Nat.lt_or_ge g.h (0 + 1 + 1) with z | z
    · exact .inl z
    · exact .inr ⟨by omega, by simp⟩
end
end Go.Proofs.Qxb6500424aGreat
