/-
  Blocks told apart by their types; tables of cells; copies into them.
-/
import Derived.Test.Qxb6500424aGreatVcG
set_option linter.unusedVariables false
namespace Go.Vc

/-- The blocks of X are of the types ts. -/
def Tys (w : World) (X : List Nat) (ts : List TypeId) : Prop := ∀ k ∈ X, k < w.heap.size → ∃ cs t, Own w k cs t ∧ t ∈ ts
theorem ownT {w w' : World} {X : List Nat} {ts : List TypeId} {b : Nat} {c : Array Value} {t : TypeId} (he : Ext X w w') (hX : Tys w X ts) (h : Own w b c t) (ht : t ∉ ts) : Own w' b c t :=
  he.own h fun hb => by
    obtain ⟨cs, t', ho, ht'⟩ := hX b hb h.lt
    rw [(h.unique ho).2] at ht
    exact ht ht'
theorem rowT {w w' : World} {X : List Nat} {ts : List TypeId} {b : Option Addr} {l c sz : Nat} {t : TypeId} {vs : List Value} (h : Row w b l c sz t vs) (he : Ext X w w') (hX : Tys w X ts) (ht : t ∉ ts) : Row w' b l c sz t vs := by
  refine ⟨h.1, h.2.1, ?_⟩
  rcases h.2.2 with q | ⟨k, cs, rfl, ho, hr⟩
  · exact .inl q
  · exact .inr ⟨k, cs, rfl, ownT he hX ho ht, hr⟩
theorem Tys.one {w : World} {k : Nat} {cs : Array Value} {t : TypeId} (h : Own w k cs t) : Tys w [k] [t] := fun x hx _ => by
  simp at hx
  subst hx
  exact ⟨_, _, h, by simp⟩
theorem Tys.nil (w : World) (ts : List TypeId) : Tys w [] ts := fun x hx => by cases hx
theorem Tys.row {w : World} {b : Option Addr} {l c sz : Nat} {t : TypeId} {vs : List Value} (h : Row w b l c sz t vs) : Tys w (rowBlk b) [t] := fun k hk _ => by
  obtain ⟨cs, ho⟩ := h.ty hk
  exact ⟨_, _, ho, by simp⟩
theorem Tys.app {w : World} {X Y : List Nat} {ts us : List TypeId} (h : Tys w X ts) (h' : Tys w Y us) : Tys w (X ++ Y) (ts ++ us) := fun k hk hl => by
  rcases List.mem_append.1 hk with q | q
  · obtain ⟨cs, t, ho, ht⟩ := h k q hl
    exact ⟨cs, t, ho, List.mem_append.2 (.inl ht)⟩
  · obtain ⟨cs, t, ho, ht⟩ := h' k q hl
    exact ⟨cs, t, ho, List.mem_append.2 (.inr ht)⟩
theorem Tys.mono {w : World} {X : List Nat} {ts us : List TypeId} (h : Tys w X ts) (hs : ∀ t ∈ ts, t ∈ us) : Tys w X us := fun k hk hl => by
  obtain ⟨cs, t, ho, ht⟩ := h k hk hl
  exact ⟨cs, t, ho, hs t ht⟩
/-- The stretch wrote, of what was there, blocks of the types ts alone. -/
def ExtT (w w' : World) (ts : List TypeId) : Prop := ∃ X, Ext X w w' ∧ Tys w X ts
theorem ExtT.of {w w' : World} {X : List Nat} {ts : List TypeId} (h : Ext X w w') (ht : Tys w X ts) : ExtT w w' ts := ⟨X, h, ht⟩
theorem ExtT.nil {w w' : World} (h : Ext [] w w') (ts : List TypeId) : ExtT w w' ts := ⟨[], h, Tys.nil _ _⟩
theorem ExtT.refl (w : World) (ts : List TypeId) : ExtT w w ts := ExtT.nil (Ext.refl _ _) ts
theorem ExtT.own {w w' : World} {ts : List TypeId} {b : Nat} {c : Array Value} {t : TypeId} (h : ExtT w w' ts) (ho : Own w b c t) (ht : t ∉ ts) : Own w' b c t := by
  obtain ⟨X, he, hX⟩ := h
  exact ownT he hX ho ht
theorem ExtT.row {w w' : World} {ts : List TypeId} {b : Option Addr} {l c sz : Nat} {t : TypeId} {vs : List Value} (h : ExtT w w' ts) (hr : Row w b l c sz t vs) (ht : t ∉ ts) : Row w' b l c sz t vs := by
  obtain ⟨X, he, hX⟩ := h
  exact rowT hr he hX ht
theorem ExtT.size {w w' : World} {ts : List TypeId} (h : ExtT w w' ts) : w.heap.size ≤ w'.heap.size := by
  obtain ⟨X, he, _⟩ := h
  exact he.size
theorem ExtT.mono {w w' : World} {ts us : List TypeId} (h : ExtT w w' ts) (hs : ∀ t ∈ ts, t ∈ us) : ExtT w w' us := by
  obtain ⟨X, he, hX⟩ := h
  exact ⟨X, he, hX.mono hs⟩
theorem Ext.back {w w' : World} {X : List Nat} {k : Nat} {cs : Array Value} {t : TypeId} (he : Ext X w w') (hk : k ∉ X) (hl : k < w.heap.size) (ho : Own w' k cs t) : Own w k cs t := by
  obtain ⟨f, h1, h2⟩ := ho
  exact ⟨f, by rw [← he.heap k hl hk]; exact h1, h2⟩
theorem ExtT.trans {w w' w'' : World} {ts : List TypeId} (h : ExtT w w' ts) (h' : ExtT w' w'' ts) : ExtT w w'' ts := by
  obtain ⟨X, he, hX⟩ := h
  obtain ⟨Y, he', hY⟩ := h'
  refine ⟨X ++ Y, (he.mono fun x hx _ => List.mem_append.2 (.inl hx)).trans (he'.mono fun x hx _ => List.mem_append.2 (.inr hx)), fun k hk hl => ?_⟩
  rcases List.mem_append.1 hk with q | q
  · exact hX k q hl
  · by_cases hkX : k ∈ X
    · exact hX k hkX hl
    · obtain ⟨cs, t, ho, ht⟩ := hY k q (by have := he.size; omega)
      exact ⟨cs, t, he.back hkX hl ho, ht⟩
/-- A copy into a table of cells. -/
theorem Copy.fn {w : World} {b o n l m : Nat} {xb : Option Addr} {f g : Nat → Value} {t : TypeId} {news : List Value} {K : Int → World → Prop} (h : Own w b (fnArr n f) t) (hx : CellsAt w xb news) (hn : news.length = Nat.min m l) (hl : o + news.length ≤ n) (h1 : news.all Value.oneCell' = true) (hg : ∀ j, j < n → fnPut f o news j = g j)
    (hk : ∀ w', w'.heap.size = w.heap.size → Own w' b (fnArr n g) t → Ext [b] w w' → K ((Nat.min m l : Nat) : Int) w') : Copy 1 (some ⟨b, o, none⟩) l xb m w K :=
  ⟨news, by omega, hx, Sts.fn h hl h1 hg hk⟩
end Go.Vc
