/-
  Lists kept by a key: sorted, put in, taken out, found.
-/
import Derived.Test.Qxb6500424aGreatVcG
set_option linter.unusedVariables false
namespace Go.Vc
section
variable {α : Type} {κ : α → Nat}
/-- Strictly ascending by key. -/
def Asc (κ : α → Nat) (A : List α) : Prop := A.Pairwise (fun x y => κ x < κ y)
theorem asc_unique : ∀ {A B : List α}, Asc κ A → Asc κ B → A.Perm B → A = B
  | [], B, _, _, hp => by
    have := hp.length_eq
    exact (List.eq_nil_of_length_eq_zero this.symm).symm
  | a :: A, [], _, _, hp => by
    have := hp.length_eq
    simp at this
  | a :: A, b :: B, hA, hB, hp => by
    have hA' := List.pairwise_cons.1 hA
    have hB' := List.pairwise_cons.1 hB
    have hab : a = b := by
      have h1 : a ∈ b :: B := hp.subset (List.mem_cons_self ..)
      have h2 : b ∈ a :: A := hp.symm.subset (List.mem_cons_self ..)
      rcases List.mem_cons.1 h1 with e | h1
      · exact e
      rcases List.mem_cons.1 h2 with e | h2
      · exact e.symm
      have q1 := hB'.1 a h1
      have q2 := hA'.1 b h2
      omega
    subst hab
    rw [asc_unique hA'.2 hB'.2 (List.Perm.cons_inv hp)]
/-- Put in its place. -/
def insK (κ : α → Nat) (r : α) : List α → List α
  | [] => [r]
  | a :: A => if κ a < κ r then a :: insK κ r A else r :: a :: A
theorem insK_perm (r : α) : ∀ A, (insK κ r A).Perm (r :: A)
  | [] => List.Perm.refl _
  | a :: A => by
    unfold insK
    split
    · exact ((insK_perm r A).cons a).trans (List.Perm.swap r a A)
    · exact List.Perm.refl _
theorem insK_asc {r : α} : ∀ {A : List α}, Asc κ A → (∀ x ∈ A, κ x ≠ κ r) → Asc κ (insK κ r A)
  | [], _, _ => List.pairwise_singleton ..
  | a :: A, h, hne => by
    have h' := List.pairwise_cons.1 h
    unfold insK
    split
    · rename_i hlt
      refine List.pairwise_cons.2 ⟨fun x hx => ?_, insK_asc h'.2 (fun x hx => hne x (List.mem_cons_of_mem _ hx))⟩
      rcases List.mem_cons.1 ((insK_perm r A).subset hx) with e | hx
      · subst e; exact hlt
      · exact h'.1 x hx
    · rename_i hge
      have hk := hne a (List.mem_cons_self ..)
      refine List.pairwise_cons.2 ⟨fun x hx => ?_, h⟩
      rcases List.mem_cons.1 hx with e | hx
      · subst e; omega
      · have := h'.1 x hx; omega
theorem insK_length (r : α) (A : List α) : (insK κ r A).length = A.length + 1 := by
  have := (insK_perm (κ := κ) r A).length_eq
  simpa using this
/-- In the middle. -/
theorem insK_mid {r : α} : ∀ {P Q : List α}, (∀ x ∈ P, κ x < κ r) → (∀ x ∈ Q, ¬ κ x < κ r) → insK κ r (P ++ Q) = P ++ r :: Q
  | [], [], _, _ => rfl
  | [], q :: Q, _, hq => by
    show insK κ r (q :: Q) = r :: q :: Q
    unfold insK
    rw [if_neg (hq q (List.mem_cons_self ..))]
  | p :: P, Q, hp, hq => by
    show insK κ r (p :: (P ++ Q)) = p :: (P ++ r :: Q)
    unfold insK
    rw [if_pos (hp p (List.mem_cons_self ..)), insK_mid (fun x hx => hp x (List.mem_cons_of_mem _ hx)) hq]
theorem asc_left {A B : List α} (h : Asc κ (A ++ B)) : Asc κ A := (List.pairwise_append.1 h).1
theorem asc_right {A B : List α} (h : Asc κ (A ++ B)) : Asc κ B := (List.pairwise_append.1 h).2.1
theorem asc_mid {A B : List α} (h : Asc κ (A ++ B)) {x y : α} (hx : x ∈ A) (hy : y ∈ B) : κ x < κ y := (List.pairwise_append.1 h).2.2 x hx y hy
theorem asc_filter {A : List α} {f : α → Bool} (h : Asc κ A) : Asc κ (A.filter f) := List.Pairwise.filter _ h
theorem asc_map {A : List α} {f : α → α} (h : Asc κ A) (hf : ∀ x ∈ A, κ (f x) = κ x) : Asc κ (A.map f) := by
  unfold Asc
  rw [List.pairwise_map]
  exact List.Pairwise.imp_of_mem (fun hx hy hlt => by rw [hf _ hx, hf _ hy]; exact hlt) h
theorem asc_inj {A : List α} (h : Asc κ A) {i j : Nat} {x y : α} (hi : A[i]? = some x) (hj : A[j]? = some y) (he : κ x = κ y) : i = j := by
  obtain ⟨li, ei⟩ := List.getElem?_eq_some_iff.1 hi
  obtain ⟨lj, ej⟩ := List.getElem?_eq_some_iff.1 hj
  have hp := List.pairwise_iff_getElem.1 h
  rcases Nat.lt_trichotomy i j with c | c | c
  · have := hp i j li lj c
    rw [ei, ej] at this
    omega
  · exact c
  · have := hp j i lj li c
    rw [ei, ej] at this
    omega
end
theorem flat_congr' {α β : Type} {f g : α → List β} : ∀ {L : List α}, (∀ x ∈ L, f x = g x) → L.flatMap f = L.flatMap g
  | [], _ => rfl
  | a :: L, h => by rw [List.flatMap_cons, List.flatMap_cons, h a (List.mem_cons_self ..), flat_congr' fun x hx => h x (List.mem_cons_of_mem _ hx)]
/-- One place of a flat list told anew. -/
theorem flat_upd {β : Type} {f g : Nat → List β} {i : Nat} (hg : ∀ j, j ≠ i → g j = f j) : ∀ L : List Nat, L.Nodup → i ∈ L → (f i ++ L.flatMap g).Perm (g i ++ L.flatMap f)
  | [], _, h => by cases h
  | a :: L, hn, h => by
    have hn' := List.nodup_cons.1 hn
    rw [List.flatMap_cons, List.flatMap_cons]
    by_cases e : a = i
    · subst e
      have hL : L.flatMap g = L.flatMap f := flat_congr' fun j hj => hg j fun e => hn'.1 (e ▸ hj)
      rw [hL, ← List.append_assoc, ← List.append_assoc]
      exact List.Perm.append_right _ List.perm_append_comm
    · rw [hg a e]
      have hi : i ∈ L := by
        rcases List.mem_cons.1 h with h | h
        · exact absurd h.symm e
        · exact h
      have ih := flat_upd hg L hn'.2 hi
      exact (List.perm_append_comm_assoc ..).trans ((List.Perm.append_left _ ih).trans (List.perm_append_comm_assoc ..))
end Go.Vc
