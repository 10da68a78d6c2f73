/-
  ip: the real layer's sorted list of slots.
-/
import Derived.Test.Qxb6500425aIpN
set_option linter.unusedVariables false
set_option linter.unusedSimpArgs false
open Go.Vc
namespace Go.Proofs.Qxb6500425a

def rowsCell (at_ : Nat → Int) (n : Int) (j : Nat) : Value := if j < 3 then .int .i64 (at_ j) else .int .i64 n
/-- o lists the used slots below i, by rising key. -/
structure Lists (S : IPS) (i : Nat) (o : List Nat) : Prop where
  mem : ∀ x, x ∈ o ↔ x < i ∧ (S.sl x).used = true
  sorted : o.Pairwise fun x y => (S.sl x).key < (S.sl y).key
  len : o.length ≤ i
theorem used_tab (S : IPS) : tab S = ([0, 1, 2].filter fun i => (S.sl i).used).map fun i => (S.sl i).abs := by
  unfold tab one
  cases h0 : (S.sl 0).used <;> cases h1 : (S.sl 1).used <;> cases h2 : (S.sl 2).used <;> simp [h0, h1, h2, List.filter]
theorem Lists.tab {S : IPS} {A : List AR} {o : List Nat} (h : Lists S 3 o) (hr : Rel A S) : o.map (fun i => (S.sl i).abs) = A := by
  have hnd : o.Nodup := h.sorted.imp (fun {x y} hlt e => by subst e; omega)
  have hp : o.Perm ([0, 1, 2].filter fun i => (S.sl i).used) := by
    refine (List.perm_ext_iff_of_nodup hnd (List.Pairwise.filter _ (by decide))).2 fun a => ?_
    rw [h.mem a, List.mem_filter]
    simp only [List.mem_cons, List.not_mem_nil, or_false]
    constructor
    · rintro ⟨q1, q2⟩
      exact ⟨by omega, q2⟩
    · rintro ⟨q1, q2⟩
      exact ⟨by omega, q2⟩
  refine sorted_unique ?_ hr.sorted ?_
  · unfold Sorted
    rw [List.pairwise_map]
    exact h.sorted
  · refine (hp.map _).trans ?_
    rw [← used_tab]
    exact hr.perm.symm
theorem Lists.ins {S : IPS} {i j : Nat} {o : List Nat} (h : Lists S i o) (hu : (S.sl i).used = true) (hj : j ≤ o.length) (hk : KeysNe S) (hi : i < 3) (hlo : j = 0 ∨ ∀ x, o[j - 1]? = some x → (S.sl x).key ≤ (S.sl i).key) (hhi : ∀ t x, j ≤ t → o[t]? = some x → (S.sl i).key < (S.sl x).key) : Lists S (i + 1) (o.take j ++ i :: o.drop j) := by
  have hlow : ∀ x ∈ o.take j, (S.sl x).key < (S.sl i).key := fun x hx => by
    obtain ⟨t, ht⟩ := List.getElem?_of_mem hx
    have htj : t < j := by
      have := (List.getElem?_eq_some_iff.1 ht).1
      rw [List.length_take] at this
      omega
    have hto : o[t]? = some x := by
      rw [List.getElem?_take, if_pos htj] at ht
      exact ht
    have hxo := List.mem_of_getElem? hto
    have hxm := (h.mem x).1 hxo
    have hne : (S.sl x).key ≠ (S.sl i).key := hk x i (by omega) hi (by omega) hxm.2 hu
    rcases hlo with q | q
    · omega
    · obtain ⟨y, hy⟩ : ∃ y, o[j - 1]? = some y := ⟨_, List.getElem?_eq_getElem (by omega)⟩
      have h1 := q y hy
      by_cases e : t = j - 1
      · subst e
        rw [hto] at hy
        simp at hy
        subst hy
        omega
      · obtain ⟨ht1, ht2⟩ := List.getElem?_eq_some_iff.1 hto
        obtain ⟨hy1, hy2⟩ := List.getElem?_eq_some_iff.1 hy
        have := List.pairwise_iff_getElem.1 h.sorted t (j - 1) ht1 hy1 (by omega)
        rw [ht2, hy2] at this
        omega
  have hhigh : ∀ x ∈ o.drop j, (S.sl i).key < (S.sl x).key := fun x hx => by
    obtain ⟨t, ht⟩ := List.getElem?_of_mem hx
    rw [List.getElem?_drop] at ht
    exact hhi (j + t) x (by omega) ht
  refine ⟨fun x => ?_, ?_, ?_⟩
  · rw [List.mem_append, List.mem_cons]
    constructor
    · rintro (q | rfl | q)
      · have := (h.mem x).1 (List.mem_of_mem_take q)
        exact ⟨by omega, this.2⟩
      · exact ⟨by omega, hu⟩
      · have := (h.mem x).1 (List.mem_of_mem_drop q)
        exact ⟨by omega, this.2⟩
    · rintro ⟨q1, q2⟩
      by_cases e : x = i
      · exact .inr (.inl e)
      · have hx := (h.mem x).2 ⟨by omega, q2⟩
        rw [← List.take_append_drop j o] at hx
        rcases List.mem_append.1 hx with q | q
        · exact .inl q
        · exact .inr (.inr q)
  · rw [List.pairwise_append]
    refine ⟨h.sorted.sublist (List.take_sublist _ _), List.pairwise_cons.2 ⟨hhigh, h.sorted.sublist (List.drop_sublist _ _)⟩, fun x hx y hy => ?_⟩
    rcases List.mem_cons.1 hy with rfl | hy
    · exact hlow x hx
    · have := hlow x hx
      have := hhigh y hy
      omega
  · rw [List.length_append, List.length_cons, List.length_take, List.length_drop]
    have := h.len
    omega
end Go.Proofs.Qxb6500425a
