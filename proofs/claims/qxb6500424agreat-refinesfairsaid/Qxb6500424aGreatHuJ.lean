/-
  host: fair weather: a fragment that waits; between two settles.
-/
import Derived.Test.Qxb6500424aGreatHuI
set_option linter.unusedVariables false
set_option linter.unusedSimpArgs false
namespace Go.Proofs.Qxb6500424aGreat
section
variable {b b' T T0 T1 : Int} {t t' : Nat → TC} {H : Nat → HS} {Wo Wo1 Wn Wn1 Fs W : List FL} {G G' : List GE} {X X' : Nat → CS} {M M' : Nat → List DG} {Lg Lg' : List LE} {i j k l c n d m kk i' : Nat} {g y g' y' gm gm' : GE} {x x' z z' : CS} {f : FL} {q : DG} {O : List OutS}
theorem fr_om (g : DG) (c n i : Nat) : (g.fr c n i)[9]? = some (if i + 1 < Ip.cntF (g.D c).length then ((i * 16 + 128 : Nat) : Int) else ((i * 16 : Nat) : Int)) := by
  unfold DG.fr Fm.encFrame Fm.encBody Ip.pktF
  split <;> rfl
theorem FrOk.idx (h : FrOk T M f c n i q) (h' : FrOk T M f c n i' q) (hf : f.fl = false) (hl : (q.D c).length ≤ 20) : i = i' := by
  have e1 := h.raw hf
  have e2 := h'.raw hf
  have o1 := fr_om q c n i
  have o2 := fr_om q c n i'
  rw [← e1] at o1
  rw [← e2, o1] at o2
  injection o2 with o2
  have hc := Ip.cntF_le (n := (q.D c).length) (by omega)
  have i1 := h.il
  have i2 := h'.il
  split at o2 <;> split at o2 <;> omega
/-- The wire is laid anew. -/
theorem FW.rewire (h : FW b T t Wo Wn G X M i) (hb' : b' ≤ T) (ag : Ages Wo1 Wn1) (hns : ∀ f ∈ Wo1 ++ Wn1, f ∈ Wo ++ Wn)
    (so : ∀ q, Sn T M Wo q → Sn T M Wo1 q) (sn : ∀ q, Sn T M Wn q → Sn T M Wo1 q ∨ Sn T M Wn1 q)
    (p1 : ∀ g f n q d, P1 T t Wo Wn G X M i g f n q d → P1 T t Wo1 Wn1 G X M i g f n q d)
    (rp : ∀ (k j : Nat) g y, G[k]? = some g → g.gone = false → (X k).st = 3 → G[j]? = some y → Pair k j g y → Rp b T Wo Wn M g y (X k) → Rp b' T Wo1 Wn1 M g y (X k)) : FW b' T t Wo1 Wn1 G X M i := by
  have ns : NoSyn T M (Wo ++ Wn) → NoSyn T M (Wo1 ++ Wn1) := fun z f hf => z f (hns f hf)
  refine ⟨hb', ag, h.rs, h.wy, h.cur, ?_, fun k j g y hk hl h3 hj hp => ?_, h.qts⟩
  · rcases h.os with ⟨z0, z⟩ | ⟨g0, f0, n0, q0, d0, p⟩ | ⟨z0, j, g, y, tw, s1, s2, r1, r2, w⟩ | ⟨z0, j, g, y, tw, pr, s1, s2, tm, w⟩
    · exact .inl ⟨ns z0, z⟩
    · exact .inr (.inl ⟨g0, f0, n0, q0, d0, p1 _ _ _ _ _ p⟩)
    · refine .inr (.inr (.inl ⟨ns z0, j, g, y, tw, s1, s2, r1, r2, ?_⟩))
      rcases w with ⟨⟨q, a, r⟩, e1, e2⟩ | ⟨⟨q, a, r⟩, e1, e2⟩
      · exact .inl ⟨⟨q, so q a, r⟩, e1, e2⟩
      · rcases sn q a with a | a
        · exact .inl ⟨⟨q, a, r⟩, by omega, by omega⟩
        · exact .inr ⟨⟨q, a, r⟩, e1, e2⟩
    · refine .inr (.inr (.inr ⟨ns z0, j, g, y, tw, pr, s1, s2, tm, ?_⟩))
      rcases w with ⟨⟨q, a, r⟩, e⟩ | ⟨⟨q, a, r⟩, e⟩
      · exact .inl ⟨⟨q, so q a, r⟩, e⟩
      · rcases sn q a with a | a
        · exact .inl ⟨⟨q, a, r⟩, by omega⟩
        · exact .inr ⟨⟨q, a, r⟩, e⟩
  · obtain ⟨yl, r, fn⟩ := h.prs k j g y hk hl h3 hj hp
    refine ⟨yl, rp k j g y hk hl h3 hj hp r, fun zp xf => ?_⟩
    rcases fn zp xf with ⟨⟨e, q, a, w⟩, v⟩ | ⟨⟨e, q, a, w⟩, v⟩
    · exact .inl ⟨⟨e, q, so q a, w⟩, v⟩
    · rcases sn q a with a | a
      · exact .inl ⟨⟨e, q, a, w⟩, fun z4 => by have := v z4; omega⟩
      · exact .inr ⟨⟨e, q, a, w⟩, v⟩
/-- A fragment that waits. -/
theorem FW.quiet (h : FW b T t Wo Wn G X M i) (lk : ∀ c, c < 3 → LinkOk c T (H c) (M c) Lg) (fo : FrOk T M f c n kk q) (hf : f ∈ Wo) (sub : ∀ x ∈ Wo, x = f ∨ x ∈ Wo1) (sub1 : ∀ x ∈ Wo1, x ∈ Wo) (h16 : 16 < (q.D c).length) (hrel : b + 4 ≤ T → kk + 1 < Ip.cntF (q.D c).length) : FW b T t Wo1 Wn G X M i := by
  have agf := h.ag.o f hf
  have so : ∀ q0, Sn T M Wo q0 → Sn T M Wo1 q0 := fun q0 a => by
    obtain ⟨x, hx, e1, e2, e3, n0, i0, fo0⟩ := a
    rcases sub x hx with z | z
    · subst z
      obtain ⟨z1, _, z3⟩ := fo0.uniq lk fo e1 (by omega)
      rw [z1, z3] at e3
      omega
    · exact ⟨x, z, e1, e2, e3, n0, i0, fo0⟩
  have fl : ∀ {y : GE} {x : CS}, b + 4 ≤ T → HasFlyF T M Wo y x → HasFlyF T M Wo1 y x := fun hb a => by
    obtain ⟨f0, hf0, c0, n0, i0, g0, fo0, e, r⟩ := a
    rcases sub f0 hf0 with z | z
    · exfalso
      subst z
      obtain ⟨z1, z2, z3⟩ := fo0.uniq lk fo agf.1 (by omega)
      subst z1
      subst z2
      subst z3
      have hk := ((lk c0 fo0.c3).ok g0 (List.mem_of_getElem? fo0.at_)).1
      have := fo0.idx fo agf.1 (DG.len hk).2
      have := hrel hb
      omega
    · exact ⟨f0, z, c0, n0, i0, g0, fo0, e, r⟩
  refine h.rewire h.b0 ⟨fun x hx => h.ag.o x (sub1 x hx), h.ag.n⟩ (fun x hx => ?_) so (fun q a => .inr a) (fun g f0 n0 q0 d0 p => ?_) (fun k j g y _ _ _ _ _ r => ?_)
  · rcases List.mem_append.1 hx with z | z
    · exact List.mem_append.2 (.inl (sub1 x z))
    · exact List.mem_append.2 (.inr z)
  · exfalso
    obtain ⟨_, _, z3, z4⟩ := p.no h.ag lk hf fo
    subst z4
    have := p.one
    rw [← z3] at this
    omega
  · have hs : ∀ {g : GE} {x : CS}, HS1 T M Wo g x → HS1 T M Wo1 g x := fun a => by
      obtain ⟨q0, a, r⟩ := a
      exact ⟨q0, so q0 a, r⟩
    rcases r with r | ⟨r, v⟩ | ⟨r, hb, v⟩
    · exact .inl r
    · refine .inr (.inl ⟨r, ?_⟩)
      rcases v with v | v | ⟨e, eb, v⟩ | v
      · exact .inl (hs v)
      · exact .inr (.inl v)
      · exact .inr (.inr (.inl ⟨e, eb, fl eb v⟩))
      · exact .inr (.inr (.inr v))
    · refine .inr (.inr ⟨r, hb, ?_⟩)
      rcases v with ⟨v, e⟩ | v | ⟨e, v, e2⟩
      · exact .inl ⟨hs v, e⟩
      · exact .inr (.inl v)
      · exact .inr (.inr ⟨e, fl hb v, e2⟩)
/-- Between two settles all frames are old. -/
theorem FW.merge (h : FW T T t Wo Wn G X M i) : FW T T t (Wo ++ Wn) [] G X M i := by
  refine h.rewire (Int.le_refl _) ⟨fun x hx => ?_, fun x hx => (by cases hx)⟩ (fun x hx => by rw [List.append_nil] at hx; exact hx) (fun q a => a.app) (fun q a => .inl a.app2) (fun g f0 n0 q0 d0 p => ⟨p.at_, p.gone, p.cl, p.st, p.rt, p.tm, by rw [p.wo, p.wn]; rfl, rfl, p.fo, p.fl, p.one, p.qd, p.sp, p.dp, p.d3, p.rh, p.nd, p.all, p.lis⟩) (fun k j g y _ _ _ _ _ r => ?_)
  · rcases List.mem_append.1 hx with z | z
    · exact h.ag.o x z
    · have := h.ag.n x z; exact ⟨this.1, by omega⟩
  · rcases r with r | ⟨r, v⟩ | ⟨r, hb, v⟩
    · exact .inl r
    · refine .inr (.inl ⟨r, ?_⟩)
      rcases v with ⟨q, a, v⟩ | ⟨_, q, a, v⟩ | ⟨e, eb, v⟩ | v
      · exact .inl ⟨q, a.app, v⟩
      · exact .inl ⟨q, a.app2, v⟩
      · omega
      · exact .inr (.inr (.inr v))
    · omega
/-- A settle has ended. -/
theorem FW.rebase (h : FW b T t Wo [] G X M i) (hb : b + 9 ≤ T) : FW T T t Wo [] G X M i := by
  refine h.rewire (Int.le_refl _) h.ag (fun x hx => hx) (fun q a => a) (fun q a => .inr a) (fun g f0 n0 q0 d0 p => p) (fun k j g y _ _ _ _ _ r => ?_)
  rcases r with r | ⟨r, v⟩ | ⟨r, hb, v⟩
  · exact .inl r
  · refine .inr (.inl ⟨r, ?_⟩)
    rcases v with v | ⟨_, v⟩ | ⟨e, eb, v⟩ | ⟨v1, v2, v3⟩
    · exact .inl v
    · exact absurd v.nil id
    · exact .inr (.inr (.inr ⟨by omega, by omega, by omega⟩))
    · omega
  · rcases v with ⟨_, e⟩ | ⟨_, _, e⟩ | ⟨_, _, e⟩ <;> omega
/-- Where no end lives there is no frame. -/
theorem FW.empty (h : FW b T t Wo Wn G X M i) (sys : Sys T t G X Lg) (lk : ∀ c, c < 3 → LinkOk c T (H c) (M c) Lg) (fr : ∀ f ∈ Wo ++ Wn, ∃ c n i g, FrOk T M f c n i g) (ha : ∀ (k : Nat) g, G[k]? = some g → g.gone = true) : Wo = [] ∧ Wn = [] := by
  have no : ∀ f, f ∉ Wo ++ Wn := fun f hf => by
    obtain ⟨c, n, k, q, fo⟩ := fr f hf
    rcases h.arrive sys lk hf fo with fl | ⟨m, gm, hm, hl, _⟩
    · rcases h.os with ⟨z0, _⟩ | ⟨g0, f0, n0, q0, d0, p⟩ | ⟨z0, _⟩ | ⟨z0, _⟩
      · obtain ⟨c', n', k', q', fo', e⟩ := z0 f hf
        have a : f.fl = false ∧ f.age ≤ 1 := by
          rcases List.mem_append.1 hf with z | z
          · exact h.ag.o f z
          · have := h.ag.n f z; exact ⟨this.1, by omega⟩
        obtain ⟨_, _, e3⟩ := fo'.uniq lk fo a.1 (by omega)
        rw [e3] at e
        exact e fl
      · have := ha i g0 p.at_
        rw [p.gone] at this
        cases this
      · rename_i w
        obtain ⟨j, g, y, tw, _⟩ := w
        have := ha i g tw.hi
        rw [tw.gi] at this
        cases this
      · rename_i w
        obtain ⟨j, g, y, tw, _⟩ := w
        have := ha i g tw.hi
        rw [tw.gi] at this
        cases this
    · have := ha m gm hm
      rw [hl] at this
      cases this
  refine ⟨?_, ?_⟩
  · cases e : Wo with
    | nil => rfl
    | cons f l => exact absurd (List.mem_append.2 (.inl (by rw [e]; exact List.mem_cons_self ..))) (no f)
  · cases e : Wn with
    | nil => rfl
    | cons f l => exact absurd (List.mem_append.2 (.inr (by rw [e]; exact List.mem_cons_self ..))) (no f)
end
end Go.Proofs.Qxb6500424aGreat
