/-
  Rows of records: lists laid flat.
-/
import Derived.Test.Qxb6500424aGreatVcE
set_option linter.unusedVariables false
namespace Go.Vc
theorem putArr_toList (c : Array Value) (o : Nat) (vs : List Value) (h : o + vs.length ≤ c.size) : (putArr c o vs).toList = c.toList.take o ++ (vs ++ c.toList.drop (o + vs.length)) := by
  apply List.ext_getElem?
  intro j
  have e1 : (putArr c o vs).toList[j]? = (putArr c o vs)[j]? := by simp
  have hl : (c.toList.take o).length = o := by simp; omega
  rw [e1, getElem?_putArr vs c o j h]
  by_cases h1 : j < o
  · rw [if_neg (by omega), List.getElem?_append_left (by omega), List.getElem?_take, if_pos h1]
    simp
  · rw [List.getElem?_append_right (by omega), hl]
    by_cases h2 : j < o + vs.length
    · rw [if_pos (by omega), List.getElem?_append_left (by omega)]
    · rw [if_neg (by omega), List.getElem?_append_right (by omega), List.getElem?_drop]
      rw [show o + vs.length + (j - o - vs.length) = j by omega]
      simp
/-- A store into a row. -/
theorem Row.put {w : World} {k l c sz o : Nat} {t : TypeId} {vs news : List Value} {K : World → Prop} (h : Row w (some ⟨k, 0, none⟩) l c sz t vs) (ho : o + news.length ≤ l * sz) (h1 : news.all Value.oneCell' = true)
    (hK : ∀ w', w'.heap.size = w.heap.size → Row w' (some ⟨k, 0, none⟩) l c sz t (vs.take o ++ (news ++ vs.drop (o + news.length))) → Ext [k] w w' → K w') : Sts news ⟨k, o, none⟩ 0 w K := by
  rcases h.2.2 with ⟨e, _⟩ | ⟨k', cs, e, hown, hs, ht⟩
  · cases e
  · simp only [Option.some.injEq, Addr.mk.injEq, and_true] at e
    subst e
    have hfit : l * sz ≤ cs.size := Nat.le_trans (Nat.mul_le_mul_right _ h.2.1) hs
    refine Sts.mk hown (by omega) h1 fun w' hs' ho' he => hK w' hs' ⟨?_, h.2.1, .inr ⟨k, _, rfl, ho', by rw [size_putArr]; exact hs, ?_⟩⟩ he
    · have := h.1
      rw [List.length_append, List.length_append, List.length_take, List.length_drop]
      omega
    · rw [putArr_toList cs o news (by omega), ← ht]
      have hcl : cs.toList.length = cs.size := Array.length_toList
      have l1 : (cs.toList.take o).length = o := by rw [List.length_take]; omega
      have l2 : ((cs.toList.take (l * sz)).take o).length = o := by rw [List.length_take, List.length_take]; omega
      apply List.ext_getElem?
      intro j
      rw [List.getElem?_take]
      by_cases c1 : j < o
      · rw [if_pos (by omega), List.getElem?_append_left (by omega), List.getElem?_append_left (by omega), List.getElem?_take, if_pos c1, List.getElem?_take, if_pos c1, List.getElem?_take, if_pos (by omega)]
      · rw [List.getElem?_append_right (l₁ := (cs.toList.take (l * sz)).take o) (by omega), l2]
        by_cases c2 : j < o + news.length
        · rw [if_pos (by omega), List.getElem?_append_right (by omega), l1, List.getElem?_append_left (by omega), List.getElem?_append_left (by omega)]
        · rw [List.getElem?_append_right (l₁ := news) (by omega), List.getElem?_drop, List.getElem?_take]
          by_cases c3 : j < l * sz
          · rw [if_pos c3, if_pos (by omega), List.getElem?_append_right (by omega), l1, List.getElem?_append_right (by omega), List.getElem?_drop]
          · rw [if_neg c3, if_neg (by omega)]
section
variable {α : Type} {f : α → List Value} {n : Nat}
theorem flat_length (hf : ∀ a, (f a).length = n) : ∀ L : List α, (L.flatMap f).length = L.length * n
  | [] => by simp
  | a :: L => by rw [List.flatMap_cons, List.length_append, hf a, flat_length hf L, List.length_cons, Nat.add_mul]; omega
theorem flat_take (hf : ∀ a, (f a).length = n) : ∀ (L : List α) (i : Nat), (L.flatMap f).take (i * n) = (L.take i).flatMap f
  | [], i => by simp
  | a :: L, 0 => by simp
  | a :: L, i + 1 => by
    rw [List.flatMap_cons, List.take_succ_cons, List.flatMap_cons, ← flat_take hf L i, List.take_append, hf a]
    rw [List.take_of_length_le (by rw [hf a, Nat.add_mul]; omega)]
    congr 2
    rw [Nat.add_mul]; omega
theorem flat_drop (hf : ∀ a, (f a).length = n) : ∀ (L : List α) (i : Nat), (L.flatMap f).drop (i * n) = (L.drop i).flatMap f
  | [], i => by simp
  | a :: L, 0 => by simp
  | a :: L, i + 1 => by
    rw [List.flatMap_cons, List.drop_succ_cons, ← flat_drop hf L i, List.drop_append, hf a]
    rw [List.drop_eq_nil_of_le (by rw [hf a, Nat.add_mul]; omega), List.nil_append]
    congr 1
    rw [Nat.add_mul]; omega
theorem flat_get (hf : ∀ a, (f a).length = n) {L : List α} {i j : Nat} {a : α} (h : L[i]? = some a) (hj : j < n) : (L.flatMap f)[i * n + j]? = (f a)[j]? := by
  rw [← List.getElem?_drop, flat_drop hf]
  have hi := (List.getElem?_eq_some_iff.1 h).1
  have e : L.drop i = a :: L.drop (i + 1) := by
    rw [List.drop_eq_getElem_cons hi]
    rw [(List.getElem?_eq_some_iff.1 h).2]
  rw [e, List.flatMap_cons, List.getElem?_append_left (by rw [hf a]; exact hj)]
theorem flat_mid (hf : ∀ a, (f a).length = n) (L : List α) (i : Nat) (mid : List α) (j : Nat) : (L.flatMap f).take (i * n) ++ (mid.flatMap f ++ (L.flatMap f).drop (j * n)) = (L.take i ++ (mid ++ L.drop j)).flatMap f := by
  rw [flat_take hf, flat_drop hf, List.flatMap_append, List.flatMap_append]
theorem set_mid {L : List α} {i : Nat} {a' : α} (hi : i < L.length) : L.set i a' = L.take i ++ ([a'] ++ L.drop (i + 1)) := by
  rw [List.set_eq_take_append_cons_drop, if_pos hi]
  rfl
theorem flat_set (hf : ∀ a, (f a).length = n) {L : List α} {i : Nat} {a' : α} (hi : i < L.length) : (L.flatMap f).take (i * n) ++ (f a' ++ (L.flatMap f).drop (i * n + n)) = (L.set i a').flatMap f := by
  have h := flat_mid hf L i [a'] (i + 1)
  rw [set_mid hi, ← h]
  congr 2
  · simp
  · rw [Nat.add_mul, Nat.one_mul]
/-- One cell of one record set anew. -/
theorem flat_set1 (hf : ∀ a, (f a).length = n) {L : List α} {i j : Nat} {a a' : α} {v : Value} (h : L[i]? = some a) (hj : j < n) (he : f a' = (f a).set j v) : (L.flatMap f).take (i * n + j) ++ ([v] ++ (L.flatMap f).drop (i * n + j + 1)) = (L.set i a').flatMap f := by
  have hi := (List.getElem?_eq_some_iff.1 h).1
  rw [← flat_set hf hi, he]
  have hlen := flat_length hf L
  have hle : (i + 1) * n ≤ L.length * n := Nat.mul_le_mul_right _ hi
  rw [Nat.add_mul, Nat.one_mul] at hle
  apply List.ext_getElem?
  intro q
  have hfa := hf a
  have l1 : ((L.flatMap f).take (i * n + j)).length = i * n + j := by rw [List.length_take]; omega
  have l2 : ((L.flatMap f).take (i * n)).length = i * n := by rw [List.length_take]; omega
  by_cases c1 : q < i * n
  · rw [List.getElem?_append_left (by omega), List.getElem?_append_left (by omega), List.getElem?_take, List.getElem?_take, if_pos (by omega), if_pos c1]
  rw [List.getElem?_append_right (l₁ := (L.flatMap f).take (i * n)) (by omega), l2]
  by_cases c2 : q < i * n + n
  · rw [List.getElem?_append_left (l₁ := (f a).set j v) (by rw [List.length_set]; omega), List.getElem?_set]
    have hg : (L.flatMap f)[q]? = (f a)[q - i * n]? := by
      have := flat_get hf h (j := q - i * n) (by omega)
      rwa [show i * n + (q - i * n) = q by omega] at this
    by_cases c3 : q = i * n + j
    · subst c3
      rw [List.getElem?_append_right (by omega), l1, if_pos (by omega), if_pos (by omega)]
      simp
    · rw [if_neg (by omega)]
      by_cases c4 : q < i * n + j
      · rw [List.getElem?_append_left (by omega), List.getElem?_take, if_pos c4, hg]
      · rw [List.getElem?_append_right (by omega), l1, List.getElem?_append_right (by simp; omega), List.getElem?_drop]
        simp only [List.length_cons, List.length_nil]
        rw [show i * n + j + 1 + (q - (i * n + j) - (0 + 1)) = q by omega, hg]
  · rw [List.getElem?_append_right (l₁ := (f a).set j v) (by rw [List.length_set]; omega), List.length_set, List.getElem?_append_right (by omega), l1, List.getElem?_append_right (by simp; omega), List.getElem?_drop, List.getElem?_drop]
    simp only [List.length_cons, List.length_nil]
    rw [show i * n + j + 1 + (q - (i * n + j) - (0 + 1)) = i * n + n + (q - i * n - (f a).length) by omega]
end
end Go.Vc
