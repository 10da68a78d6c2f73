/-
  ip: rows of the reassembly table, with no Go in sight.
-/
import Derived.Test.Qxb6500424aGreatIpB
set_option linter.unusedVariables false
set_option linter.unusedSimpArgs false
open Go.Vc
namespace Go.Proofs.Qxb6500424aGreat.Ip

/-- A row: what both sides hold of an unfinished datagram. cell: 40 numbers: a byte or -1. -/
structure AR where
  key : Int
  left : Int
  total : Int
  cell : List Int
def Slot.abs (s : Slot) : AR := ⟨s.key, s.left, s.total, (List.range 40).map fun k => if s.held.testBit k then s.buf k else -1⟩
def one (s : Slot) : List AR := if s.used = true then [s.abs] else []
def tab (S : IPS) : List AR := one (S.sl 0) ++ (one (S.sl 1) ++ one (S.sl 2))
def KeysNe (S : IPS) : Prop := ∀ i j, i < 3 → j < 3 → i ≠ j → (S.sl i).used = true → (S.sl j).used = true → (S.sl i).key ≠ (S.sl j).key

theorem mem_tab {S : IPS} {r : AR} : r ∈ tab S ↔ ∃ i, i < 3 ∧ (S.sl i).used = true ∧ r = (S.sl i).abs := by
  unfold tab one
  constructor
  · intro h
    rcases List.mem_append.1 h with h | h
    · split at h
      · rename_i hu; exact ⟨0, by omega, hu, by simpa using h⟩
      · cases h
    rcases List.mem_append.1 h with h | h
    · split at h
      · rename_i hu; exact ⟨1, by omega, hu, by simpa using h⟩
      · cases h
    · split at h
      · rename_i hu; exact ⟨2, by omega, hu, by simpa using h⟩
      · cases h
  · rintro ⟨i, hi, hu, rfl⟩
    match i, hi with
    | 0, _ => simp [hu]
    | 1, _ => simp [hu]
    | 2, _ => simp [hu]

/-- A row replaced. -/
theorem tab_set {S : IPS} {i : Nat} {s' : Slot} (hi : i < 3) (hu : (S.sl i).used = true) (hu' : s'.used = true) (hk : KeysNe S) :
    (tab S).map (fun x => if x.key = (S.sl i).key then s'.abs else x) = tab (S.setS i s') := by
  have other : ∀ j, j < 3 → j ≠ i → (one (S.sl j)).map (fun x => if x.key = (S.sl i).key then s'.abs else x) = one (S.sl j) := fun j hj hne => by
    unfold one
    split
    · rename_i huj
      have := hk j i hj hi hne huj hu
      simp [Slot.abs, this]
    · rfl
  have same : (one (S.sl i)).map (fun x => if x.key = (S.sl i).key then s'.abs else x) = one s' := by
    unfold one
    rw [if_pos hu, if_pos hu']
    simp [Slot.abs]
  unfold tab
  rw [List.map_append, List.map_append]
  have h3 : i = 0 ∨ i = 1 ∨ i = 2 := by omega
  rcases h3 with rfl | rfl | rfl
  · rw [same, other 1 (by omega) (by omega), other 2 (by omega) (by omega), setS_same, setS_ne _ _ (show 1 ≠ 0 by omega), setS_ne _ _ (show 2 ≠ 0 by omega)]
  · rw [other 0 (by omega) (by omega), same, other 2 (by omega) (by omega), setS_same, setS_ne _ _ (show 0 ≠ 1 by omega), setS_ne _ _ (show 2 ≠ 1 by omega)]
  · rw [other 0 (by omega) (by omega), other 1 (by omega) (by omega), same, setS_same, setS_ne _ _ (show 0 ≠ 2 by omega), setS_ne _ _ (show 1 ≠ 2 by omega)]
/-- A row dropped. -/
theorem tab_rem {S : IPS} {i : Nat} {s' : Slot} (hi : i < 3) (hu : (S.sl i).used = true) (hu' : s'.used = false) (hk : KeysNe S) :
    (tab S).filter (fun x => decide (x.key ≠ (S.sl i).key)) = tab (S.setS i s') := by
  have other : ∀ j, j < 3 → j ≠ i → (one (S.sl j)).filter (fun x => decide (x.key ≠ (S.sl i).key)) = one (S.sl j) := fun j hj hne => by
    unfold one
    split
    · rename_i huj
      have := hk j i hj hi hne huj hu
      simp [Slot.abs, this]
    · rfl
  have same : (one (S.sl i)).filter (fun x => decide (x.key ≠ (S.sl i).key)) = one s' := by
    unfold one
    rw [if_pos hu, if_neg (by simp [hu'])]
    simp [Slot.abs]
  unfold tab
  rw [List.filter_append, List.filter_append]
  have h3 : i = 0 ∨ i = 1 ∨ i = 2 := by omega
  rcases h3 with rfl | rfl | rfl
  · rw [same, other 1 (by omega) (by omega), other 2 (by omega) (by omega), setS_same, setS_ne _ _ (show 1 ≠ 0 by omega), setS_ne _ _ (show 2 ≠ 0 by omega)]
  · rw [other 0 (by omega) (by omega), same, other 2 (by omega) (by omega), setS_same, setS_ne _ _ (show 0 ≠ 1 by omega), setS_ne _ _ (show 2 ≠ 1 by omega)]
  · rw [other 0 (by omega) (by omega), other 1 (by omega) (by omega), same, setS_same, setS_ne _ _ (show 0 ≠ 2 by omega), setS_ne _ _ (show 1 ≠ 2 by omega)]
/-- A row added. -/
theorem tab_add {S : IPS} {i : Nat} {s' : Slot} (hi : i < 3) (hu : (S.sl i).used = false) (hu' : s'.used = true) : (s'.abs :: tab S).Perm (tab (S.setS i s')) := by
  have e0 : one (S.sl i) = [] := by unfold one; rw [if_neg (by simp [hu])]
  have e1 : one s' = [s'.abs] := by unfold one; rw [if_pos hu']
  unfold tab
  have h3 : i = 0 ∨ i = 1 ∨ i = 2 := by omega
  rcases h3 with rfl | rfl | rfl
  · rw [setS_same, setS_ne _ _ (show 1 ≠ 0 by omega), setS_ne _ _ (show 2 ≠ 0 by omega), e0, e1]
    exact List.Perm.refl _
  · rw [setS_same, setS_ne _ _ (show 0 ≠ 1 by omega), setS_ne _ _ (show 2 ≠ 1 by omega), e0, e1]
    simpa using (List.perm_middle (a := s'.abs) (l₁ := one (S.sl 0)) (l₂ := one (S.sl 2))).symm
  · rw [setS_same, setS_ne _ _ (show 0 ≠ 2 by omega), setS_ne _ _ (show 1 ≠ 2 by omega), e0, e1]
    have := (List.perm_middle (a := s'.abs) (l₁ := one (S.sl 0) ++ one (S.sl 1)) (l₂ := [])).symm
    simpa using this
theorem tab_length {S : IPS} : (tab S).length = (if (S.sl 0).used then 1 else 0) + ((if (S.sl 1).used then 1 else 0) + (if (S.sl 2).used then 1 else 0)) := by
  unfold tab one
  rw [List.length_append, List.length_append]
  congr 1
  · split <;> rfl
  · congr 1 <;> split <;> rfl

/-- Sorted by key. -/
def Sorted (A : List AR) : Prop := A.Pairwise (fun x y => x.key < y.key)
theorem sorted_unique : ∀ {A B : List AR}, Sorted A → Sorted B → A.Perm B → A = B
  | [], B, _, _, hp => by
    have := hp.length_eq
    exact (List.eq_nil_of_length_eq_zero this.symm).symm
  | a :: A, [], _, _, hp => by
    have := hp.length_eq
    simp at this
  | a :: A, b :: B, hA, hB, hp => by
    have hA' := List.pairwise_cons.1 hA
    have hB' := List.pairwise_cons.1 hB
    have hab : a = b := by
      have h1 : a ∈ b :: B := hp.subset (List.mem_cons_self ..)
      have h2 : b ∈ a :: A := hp.symm.subset (List.mem_cons_self ..)
      rcases List.mem_cons.1 h1 with e | h1
      · exact e
      rcases List.mem_cons.1 h2 with e | h2
      · exact e.symm
      have q1 := hB'.1 a h1
      have q2 := hA'.1 b h2
      omega
    subst hab
    rw [sorted_unique hA'.2 hB'.2 (List.Perm.cons_inv hp)]
/-- A row put in its place. -/
def insA (r : AR) : List AR → List AR
  | [] => [r]
  | a :: A => if a.key < r.key then a :: insA r A else r :: a :: A
theorem insA_perm (r : AR) : ∀ A, (insA r A).Perm (r :: A)
  | [] => List.Perm.refl _
  | a :: A => by
    unfold insA
    split
    · exact ((insA_perm r A).cons a).trans (List.Perm.swap r a A)
    · exact List.Perm.refl _
theorem insA_sorted {r : AR} : ∀ {A : List AR}, Sorted A → (∀ x ∈ A, x.key ≠ r.key) → Sorted (insA r A)
  | [], _, _ => List.pairwise_singleton ..
  | a :: A, h, hne => by
    have h' := List.pairwise_cons.1 h
    unfold insA
    split
    · rename_i hlt
      refine List.pairwise_cons.2 ⟨fun x hx => ?_, insA_sorted h'.2 (fun x hx => hne x (List.mem_cons_of_mem _ hx))⟩
      rcases List.mem_cons.1 ((insA_perm r A).subset hx) with e | hx
      · subst e; exact hlt
      · exact h'.1 x hx
    · rename_i hge
      have hk := hne a (List.mem_cons_self ..)
      refine List.pairwise_cons.2 ⟨fun x hx => ?_, h⟩
      rcases List.mem_cons.1 hx with e | hx
      · subst e; omega
      · have := h'.1 x hx; omega
theorem map_sorted {A : List AR} {f : AR → AR} (h : Sorted A) (hf : ∀ x ∈ A, (f x).key = x.key) : Sorted (A.map f) := by
  unfold Sorted
  rw [List.pairwise_map]
  exact List.Pairwise.imp_of_mem (fun hx hy hlt => by rw [hf _ hx, hf _ hy]; exact hlt) h
theorem filter_sorted {A : List AR} {f : AR → Bool} (h : Sorted A) : Sorted (A.filter f) := List.Pairwise.filter _ h
end Go.Proofs.Qxb6500424aGreat.Ip
