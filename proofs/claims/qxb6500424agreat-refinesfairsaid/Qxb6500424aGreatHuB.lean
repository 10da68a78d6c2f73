/-
  host: fair weather: datagrams of one fragment on the wire.
-/
import Derived.Test.Qxb6500424aGreatHuA
import Derived.Test.Qxb6500424aGreatHsP
set_option linter.unusedVariables false
set_option linter.unusedSimpArgs false
namespace Go.Proofs.Qxb6500424aGreat
/-- A datagram of one fragment is on the wire. -/
def Sn (T : Int) (M : Nat → List DG) (W : List FL) (q : Fg) : Prop := ∃ f ∈ W, f.fl = false ∧ f.age ≤ 1 ∧ (q.2.D q.1).length ≤ 16 ∧ ∃ n i, FrOk T M f q.1 n i q.2
structure Ages (Wo Wn : List FL) : Prop where
  o : ∀ f ∈ Wo, f.fl = false ∧ f.age ≤ 1
  n : ∀ f ∈ Wn, f.fl = false ∧ f.age = 0
/-- The datagrams' log grows. -/
def MExt (M M' : Nat → List DG) : Prop := ∀ (c n : Nat) g, c < 3 → (M c)[n]? = some g → (M' c)[n]? = some g
section
variable {T : Int} {H : Nat → HS} {W W' Wo Wn Wo1 : List FL} {M M' : Nat → List DG} {c c' n n' i i' d : Nat} {g g' : DG} {f : FL} {q q0 : Fg} {G : List GE} {X : Nat → CS} {Lg : List LE} {E : List DG}
theorem FrOk.ext (h : FrOk T M f c n i g) (hM : MExt M M') : FrOk T M' f c n i g := ⟨h.c3, hM c n g h.c3 h.at_, h.il, h.a0, h.age, h.raw, h.flip⟩
theorem FrOk.tick (h : FrOk T M f c n i g) (ha : f.age ≤ 3) : FrOk (T + 1) M (ageF f) c n i g := by
  have e : (ageF f).age = f.age + 1 := by
    unfold ageF
    show (if f.age ≤ 4 then f.age + 1 else f.age) = _
    rw [if_pos (by omega)]
  have := h.a0
  have := h.age (by omega)
  exact ⟨h.c3, h.at_, h.il, by rw [e]; omega, fun _ => by rw [e]; omega, h.raw, h.flip⟩
theorem fr_src (g : DG) (c n i : Nat) : (g.fr c n i)[1]? = some ((c : Int) + 1) := by
  unfold DG.fr Fm.encFrame Fm.encBody
  rfl
theorem fr_id (g : DG) (c n i : Nat) : (g.fr c n i)[8]? = some ((n : Int) % 256) := by
  unfold DG.fr Fm.encFrame Fm.encBody Ip.pktF
  split <;> rfl
theorem FrOk.uniq (lk : ∀ c, c < 3 → LinkOk c T (H c) (M c) Lg) (h : FrOk T M f c n i g) (h' : FrOk T M f c' n' i' g') (hf : f.fl = false) (ha : f.age ≤ 4) : c = c' ∧ n = n' ∧ g = g' := by
  have e1 := h.raw hf
  have e2 := h'.raw hf
  have s1 := fr_src g c n i
  have s2 := fr_src g' c' n' i'
  have d1 := fr_id g c n i
  have d2 := fr_id g' c' n' i'
  rw [← e1] at s1 d1
  rw [← e2] at s2 d2
  rw [s1] at s2
  rw [d1] at d2
  injection s2 with s2
  injection d2 with d2
  have ec : c = c' := by omega
  subst ec
  have a1 := h.age ha
  have a2 := h'.age ha
  have en := (lk c h.c3).ids h.at_ h'.at_ d2 (by omega) (by omega)
  subst en
  have := h.at_
  rw [h'.at_] at this
  cases this
  exact ⟨rfl, rfl, rfl⟩
theorem Sn.mono (h : Sn T M W q) (hW : ∀ f ∈ W, f ∈ W') : Sn T M W' q := by
  obtain ⟨f, a, b⟩ := h
  exact ⟨f, hW f a, b⟩
theorem Sn.ext (h : Sn T M W q) (hM : MExt M M') : Sn T M' W q := by
  obtain ⟨f, a, b, c, d, n, i, e⟩ := h
  exact ⟨f, a, b, c, d, n, i, e.ext hM⟩
theorem Sn.app (h : Sn T M W q) : Sn T M (W ++ W') q := h.mono fun f hf => List.mem_append.2 (.inl hf)
theorem Sn.app2 (h : Sn T M W' q) : Sn T M (W ++ W') q := h.mono fun f hf => List.mem_append.2 (.inr hf)
theorem Sn.tick (h : Sn T M W q) (ha : ∀ f ∈ W, f.age = 0) : Sn (T + 1) M (W.map ageF) q := by
  obtain ⟨f, a, b, c, d, n, i, e⟩ := h
  have h0 := ha f a
  refine ⟨ageF f, List.mem_map.2 ⟨f, a, rfl⟩, b, ?_, d, n, i, e.tick (by omega)⟩
  unfold ageF
  show (if f.age ≤ 4 then f.age + 1 else f.age) ≤ 1
  rw [if_pos (by omega)]
  omega
/-- A frame goes: another datagram stays. -/
theorem Sn.keep (lk : ∀ c, c < 3 → LinkOk c T (H c) (M c) Lg) (h : Sn T M Wo q0) (fo : FrOk T M f c n i g) (hW : ∀ x ∈ Wo, x = f ∨ x ∈ Wo1) : q0 = (c, g) ∨ Sn T M Wo1 q0 := by
  obtain ⟨x, a, b, e, l, n', i', e2⟩ := h
  rcases hW x a with z | z
  · subst z
    obtain ⟨z1, _, z3⟩ := e2.uniq lk fo b (by omega)
    exact .inl (by rw [← z1, ← z3])
  · exact .inr ⟨x, z, b, e, l, n', i', e2⟩
theorem mem_fsOf : ∀ (E : List DG) (n k : Nat) {g : DG} {i : Nat}, E[k]? = some g → i < Ip.cntF (g.D c).length → g.fr c (n + k) i ∈ fsOf c n E
  | [], n, k, g, i, h, _ => by cases h
  | e :: l, n, k, g, i, h, hi => by
    show _ ∈ (List.range (Ip.cntF (e.D c).length)).map (fun i => e.fr c n i) ++ fsOf c (n + 1) l
    cases k with
    | zero =>
      have e1 : e = g := by injection h
      subst e1
      exact List.mem_append.2 (.inl (List.mem_map.2 ⟨i, List.mem_range.2 hi, rfl⟩))
    | succ k =>
      refine List.mem_append.2 (.inr ?_)
      have := mem_fsOf l (n + 1) k (g := g) (by simpa using h) hi
      rw [show n + 1 + k = n + (k + 1) by omega] at this
      exact this
theorem sn_new (hd : d < 3) (hM : M' d = M d ++ E) (hg : g ∈ E) (ht : g.t = T) (hl : 8 ≤ (g.D d).length ∧ (g.D d).length ≤ 16) : Sn T M' ((fsOf d (M d).length E).map flF) (d, g) := by
  obtain ⟨k, hk⟩ := List.mem_iff_getElem?.1 hg
  have hc : Ip.cntF (g.D d).length = 1 := by
    unfold Ip.cntF
    rw [if_neg (by omega)]
    omega
  refine ⟨flF (g.fr d ((M d).length + k) 0), List.mem_map.2 ⟨_, mem_fsOf E (M d).length k hk (by omega), rfl⟩, rfl, by show (0 : Int) ≤ 1; decide, hl.2, (M d).length + k, 0, hd, ?_, by show 0 < Ip.cntF (g.D d).length; omega, by show (0 : Int) ≤ 0; decide, fun _ => by show (0 : Int) = T - g.t; omega, fun _ => rfl, fun z => by cases z⟩
  rw [hM, List.getElem?_append_right (by omega)]
  have : (M d).length + k - (M d).length = k := by omega
  rw [this]
  exact hk
/-- The new frames are just those of the new datagrams. -/
theorem fs_new (hd : d < 3) (hM : M' d = M d ++ E) (ht : ∀ g ∈ E, g.t = T) : ∀ f ∈ (fsOf d (M d).length E).map flF, f.fl = false ∧ f.age = 0 ∧ ∃ n i, ∃ g ∈ E, FrOk T M' f d n i g := by
  have key : ∀ (E1 E2 : List DG), E = E1 ++ E2 → ∀ F ∈ fsOf d ((M d).length + E1.length) E2, ∃ n i, ∃ g ∈ E, FrOk T M' (flF F) d n i g := fun E1 E2 => by
    induction E2 generalizing E1 with
    | nil => intro _ F hF; cases hF
    | cons e l ih =>
      intro eE F hF
      have hF' : F ∈ (List.range (Ip.cntF (e.D d).length)).map (fun i => e.fr d ((M d).length + E1.length) i) ++ fsOf d ((M d).length + E1.length + 1) l := hF
      rcases List.mem_append.1 hF' with z | z
      · obtain ⟨i, hi, rfl⟩ := List.mem_map.1 z
        have hem : e ∈ E := by rw [eE]; simp
        refine ⟨(M d).length + E1.length, i, e, hem, hd, ?_, List.mem_range.1 hi, by show (0 : Int) ≤ 0; decide, fun _ => by show (0 : Int) = T - e.t; rw [ht e hem]; omega, fun _ => rfl, fun z => by cases z⟩
        rw [hM, eE, List.getElem?_append_right (by omega)]
        have : (M d).length + E1.length - (M d).length = E1.length := by omega
        rw [this, List.getElem?_append_right (Nat.le_refl _), Nat.sub_self]
        rfl
      · refine ih (E1 ++ [e]) (by rw [eE]; simp) F ?_
        rw [List.length_append]
        exact z
  intro f hf
  obtain ⟨F, hF, rfl⟩ := List.mem_map.1 hf
  have := key [] E rfl F (by simpa using hF)
  exact ⟨rfl, rfl, this⟩
end
end Go.Proofs.Qxb6500424aGreat
