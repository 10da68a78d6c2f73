/-
  host: the work: all open ends at once; who was born when.
-/
import Derived.Test.Qxb6500424aGreatHsM
import Derived.Test.Qxb6500424aGreatHsI
set_option linter.unusedVariables false
set_option linter.unusedSimpArgs false
namespace Go.Proofs.Qxb6500424aGreat
/-- Since T0 no caller has done anything. -/
def Bth (T0 : Int) (G : List GE) : Prop := ∀ (i : Nat) g, G[i]? = some g → (g.cl = true → g.bt ≤ T0) ∧ ((∀ o, g.ot = some o → T0 < o) → g.S = [] ∧ g.wc = false)
def ZAll (μ : Int) (Qo Qn : List Fg) (G : List GE) (X : Nat → CS) : Prop := ∀ (i j : Nat) g y, G[i]? = some g → g.gone = false → (X i).st = 3 → G[j]? = some y → Pair i j g y → Zc μ Qo Qn g y (X i) (X j)
section
variable {T T0 T1 : Int} {t t' : Nat → TC} {G G' : List GE} {X X' : Nat → CS} {Lg Lg' : List LE} {i j k d c : Nat} {g y g' y' : GE} {x z : CS} {q : Fg} {Q Qo Qn : List Fg} {O : List OutS} {Of : Nat → List OutS} {μ : Int}
theorem Bth.init (h : Sys T t G X Lg) : Bth T G := fun i g hi => by
  refine ⟨fun _ => (h.inv.ends.time i g hi).bt.2, fun ho => ?_⟩
  cases e : g.ot with
  | none =>
    have z := h.inv.zero i g hi e
    exact ⟨z.S, z.f.2.2.2⟩
  | some o =>
    have a := ho o e
    have b := ((h.inv.ends.time i g hi).ot o e).2.1
    omega
theorem Bth.step (h : Bth T0 G) (hs : Sys T t G X Lg) (tr : TrAll T1 G X G' X') (sr : SameSR G G') (hl : G'.length = G.length ∨ ∃ y p, G' = G ++ [y] ∧ Born T1 c G y p (X' G.length)) : Bth T0 G' := fun i g2 hi2 => by
  by_cases hi : i < G.length
  · have hg : G[i]? = some G[i] := List.getElem?_eq_getElem hi
    generalize G[i] = g at hg
    obtain ⟨b1, b2⟩ := h i g hg
    obtain ⟨s1, _, s3⟩ := sr i g g2 hg hi2
    obtain ⟨z, hz, w⟩ := tr i g hg
    rw [hi2] at hz
    cases hz
    rcases w with ⟨_, rfl⟩ | ⟨hgn, w⟩
    · exact ⟨b1, b2⟩
    refine ⟨fun e => by rw [w.kp.bt]; exact b1 (by rw [← w.kp.cl]; exact e), fun ho => ?_⟩
    rw [s1, s3]
    apply b2
    intro o eo
    have lv := hs.inv.live i g hg hgn
    rcases w.how with ⟨_, e, _⟩ | ⟨s, _⟩ | ⟨s, _⟩
    · exact ho o (by rw [e]; exact eo)
    · have := (lv.op (.inl s)).2.2.1; rw [this] at eo; cases eo
    · have := (lv.op (.inr s)).2.2.1; rw [this] at eo; cases eo
  · rcases hl with e | ⟨y, p, e, bn⟩
    · have := (List.getElem?_eq_some_iff.1 hi2).1
      omega
    · rw [e, List.getElem?_append_right (by omega)] at hi2
      have ey := List.mem_singleton.1 (List.mem_of_getElem? hi2)
      subst ey
      exact ⟨fun q => (by rw [bn.cl] at q; cases q), fun _ => ⟨bn.z.S, bn.z.f.2.2.2⟩⟩
theorem Pair.pr (h : Pair i j g y) : g.pr = some j := by
  rcases h with ⟨_, e⟩ | ⟨_, e⟩
  · exact e.pr
  · exact e.pr2
theorem rem_idle (h : Sys T t G X Lg) (hi : G[i]? = some g) (hl : g.gone = false) (h3 : (X i).st = 3) (hS : g.S = []) (hw : g.wc = false) : rem (X i) = 0 := by
  obtain ⟨j, y, _, _, oo, _⟩ := (h.inv.live i g hi hl).s3 (.inl h3)
  unfold rem
  rw [oo.D, hS, oo.wc, hw]
  simp
theorem Zc.skip (h : Zc μ (q :: Qo) Qn g y x z) (h1 : ¬ To g q) (h2 : ¬ To y q) : Zc μ Qo Qn g y x z := by
  rcases h with h | h | h | ⟨m, h⟩ | ⟨m, h⟩ | ⟨a, b, c, h⟩ | ⟨a, b, h⟩
  · exact .inl h
  · exact .inr (.inl h)
  · exact .inr (.inr (.inl h))
  · exact .inr (.inr (.inr (.inl ⟨m, h.tail h1⟩)))
  · exact .inr (.inr (.inr (.inr (.inl ⟨m, h⟩))))
  · refine .inr (.inr (.inr (.inr (.inr (.inl ⟨a, b, c, ?_⟩)))))
    rcases h with h | ⟨h, e⟩ | ⟨h, e⟩ | h | h
    · exact .inl h
    · exact .inr (.inl ⟨h.tail h2, e⟩)
    · exact .inr (.inr (.inl ⟨h.tail h1, e⟩))
    · exact .inr (.inr (.inr (.inl h)))
    · exact .inr (.inr (.inr (.inr h)))
  · refine .inr (.inr (.inr (.inr (.inr (.inr ⟨a, b, ?_⟩)))))
    rcases h with h | ⟨h, e⟩
    · exact .inl h
    · exact .inr ⟨h.tail, e⟩
theorem ZAll.skip (h : ZAll μ (q :: Qo) Qn G X) (hn : ∀ (i : Nat) g, G[i]? = some g → ¬ To g q) : ZAll μ Qo Qn G X := fun i j g y hi hl h3 hj hp => (h i j g y hi hl h3 hj hp).skip (hn i g hi) (hn j y hj)
theorem ZAll.deliver (h : DSt T t t' G G' X X' Lg Lg' d q O) (hb : Bth T0 G') (hT : T0 < T) (hlen : G'.length = G.length ∨ ∃ y p, G' = G ++ [y] ∧ Born T d G y p (X' G.length)) (hz : ZAll μ (q :: Qo) Qn G X) : ZAll μ Qo (Qn ++ nwQ T d O) G' X' := fun i j g' y' hi' hl' h3' hj' hp' => by
  have op : g'.ot = some T → Zc μ Qo (Qn ++ nwQ T d O) g' y' (X' i) (X' j) := fun eo => by
    obtain ⟨a, b⟩ := (hb i g' hi').2 (fun o e => by rw [eo] at e; cases e; exact hT)
    exact .inl (rem_idle h.s1 hi' hl' h3' a b)
  by_cases hi : i < G.length
  · have hg : G[i]? = some G[i] := List.getElem?_eq_getElem hi
    generalize G[i] = g at hg
    obtain ⟨z, hz', w⟩ := h.tr i g hg
    rw [hi'] at hz'
    cases hz'
    rcases w with ⟨e, rfl⟩ | ⟨hl, w⟩
    · rw [hl'] at e; cases e
    rcases w.how with ⟨e, _, s3⟩ | ⟨_, _, eo, _⟩ | ⟨_, _, eo, _⟩
    · have h3 := s3 hl' h3'
      obtain ⟨j0, y0, hj0, hp0, _⟩ := h.s0.inv.cn hg hl h3
      have e0 := hp0.pr
      have e1 := hp'.pr
      rw [e, e0] at e1
      cases e1
      exact d_step h hg hl h3 hj0 hp0 hi' hl' h3' hj' hp' (hz i j g y0 hg hl h3 hj0 hp0)
    · exact op eo
    · exact op eo
  · rcases hlen with e | ⟨y, p, e, bn⟩
    · have := (List.getElem?_eq_some_iff.1 hi').1
      omega
    · have hlt := (List.getElem?_eq_some_iff.1 hi').1
      rw [e, List.length_append] at hlt
      have ei : i = G.length := by simp at hlt; omega
      have := bn.st
      rw [ei] at h3'
      omega
theorem ZAll.tick (h : KSt T t t' G G' X X' Lg Lg' Of) (hlen : G'.length = G.length) (hc : Calm G' X X') (hz : ZAll μ [] Qn G X) : ZAll (μ - 1) (Qn ++ tkQ (T + 1) Of) [] G' X' := fun i j g' y' hi' hl' h3' hj' hp' => by
  have h3 := hc i g' hi' hl' h3'
  have hi : i < G.length := by rw [← hlen]; exact (List.getElem?_eq_some_iff.1 hi').1
  have hg : G[i]? = some G[i] := List.getElem?_eq_getElem hi
  generalize G[i] = g at hg
  obtain ⟨z, hz', w⟩ := h.tr i g hg
  rw [hi'] at hz'
  cases hz'
  rcases w with ⟨e, rfl⟩ | ⟨hl, w⟩
  · rw [hl'] at e; cases e
  rcases w.how with ⟨e, _, s3⟩ | ⟨s, _⟩ | ⟨s, _⟩
  · obtain ⟨j0, y0, hj0, hp0, _⟩ := h.s0.inv.cn hg hl h3
    have e0 := hp0.pr
    have e1 := hp'.pr
    rw [e, e0] at e1
    cases e1
    exact k_step h hg hl h3 hj0 hp0 hi' hl' h3' hj' hp' (hz i j g y0 hg hl h3 hj0 hp0)
  · omega
  · omega
theorem tick_tm (h : CsOk x) (h3 : x.st = 3) (h3' : (tickF x).1.st = 3) : rem (tickF x).1 = 0 ∨ 0 < (tickF x).1.tm := by
  have ht := h.tm
  by_cases c0 : x.tm = 0
  · obtain ⟨_, ts, w⟩ := tick_zero h h3 c0
    rcases w with w | w
    · exact .inl (by rw [ts.rem]; exact w)
    · exact .inr w.1
  · by_cases c1 : x.tm = 1
    · rcases tick_one h h3 c1 with ⟨w, _⟩ | ⟨_, _, _, _, e, _⟩
      · omega
      · right
        rw [e]
        have : (0 : Int) < 2 ^ (x.rt + 1).toNat := Int.pow_pos (by decide)
        omega
    · obtain ⟨_, _, e, _⟩ := tick_gt h h3 (by omega)
      right
      omega
theorem el_bd (h : CsOk x) : el x ≤ 30 := by
  unfold el
  have ht := h.tm
  have hr := h.rt
  have : x.rt = 0 ∨ x.rt = 1 ∨ x.rt = 2 ∨ x.rt = 3 := by omega
  have p : (2 : Int) ^ x.rt.toNat ≤ 8 := by rcases this with e | e | e | e <;> rw [e] <;> decide
  omega
theorem rem_bd (h : CsOk x) : rem x ≤ 17 := by
  have := h.S.len
  unfold rem
  split <;> omega
/-- No end opens for long. -/
theorem not_opening (h : Sys T t G X Lg) (hb : Bth T0 G) (hT : T0 + 64 ≤ T) (hi : G[i]? = some g) (hl : g.gone = false) : ¬ ((X i).st = 1 ∨ (X i).st = 2) := fun h1 => by
  have lv := h.inv.live i g hi hl
  have ag := (lv.op h1).2.1
  have := el_bd lv.ok
  have ta : tau T allT i = T := rfl
  rw [ta] at ag
  cases e : g.cl with
  | true =>
    have := (hb i g hi).1 e
    omega
  | false =>
    obtain ⟨p, q, hp, kid⟩ := h.inv.ends.kid i g hi e
    have := (hb p q hp).1 kid.cl2
    have := kid.bt
    omega
theorem ZAll.start (h : Sys T t G X Lg) (hb : Bth T0 G) (hT : T0 + 31 ≤ T) (htm : ∀ (i : Nat) g, G[i]? = some g → g.gone = false → (X i).st = 3 → rem (X i) = 0 ∨ 0 < (X i).tm) : ZAll 66 Q [] G X := fun i j g y hi hl h3 hj hp => by
  by_cases hr : rem (X i) = 0
  · exact .inl hr
  have tm := (htm i g hi hl h3).resolve_left hr
  have lx := h.inv.live i g hi hl
  have full : NoM y (X j) → Zc 66 Q [] g y (X i) (X j) := fun a => .inr (.inr (.inr (.inr (.inr (.inr ⟨a, fun q hq => (by cases hq), .inl (by decide)⟩)))))
  cases yg : y.gone with
  | true =>
    cases yp : y.pf with
    | false => exact .inr (.inl ⟨yp, .inl yg⟩)
    | true => exact full (.inl yg)
  | false =>
    have ly := h.inv.live j y hj yg
    have hst := ly.ok.st
    have hnz := ly.nz
    by_cases c4 : (X j).st = 4
    · cases yp : y.pf with
      | false => exact .inr (.inl ⟨yp, .inr c4⟩)
      | true => exact full (.inr (.inl c4))
    by_cases c3 : (X j).st = 3
    · cases zp : (X j).pf with
      | true => exact full (.inr (.inr zp))
      | false =>
        refine .inr (.inr (.inr (.inr (.inr (.inl ⟨yg, c3, zp, .inl ⟨tm, ?_⟩⟩)))))
        have := rem_bd lx.ok
        have := lx.ok.tm
        omega
    · exfalso
      have ag := (ly.op (by omega)).2.1
      have := el_bd ly.ok
      have ta : tau T allT j = T := rfl
      rw [ta] at ag
      have yb : y.bt ≤ T0 := by
        rcases hp with ⟨_, es⟩ | ⟨_, es⟩
        · obtain ⟨o, ho, hbo, _⟩ := es.ot
          by_cases co : T0 < o
          · obtain ⟨a, b⟩ := (hb i g hi).2 (fun o2 e2 => by rw [ho] at e2; cases e2; exact co)
            exact absurd (rem_idle h hi hl h3 a b) hr
          · omega
        · exact (hb j y hj).1 es.cl
      omega
end
end Go.Proofs.Qxb6500424aGreat
