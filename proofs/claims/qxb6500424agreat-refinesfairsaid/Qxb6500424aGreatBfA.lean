/-
  sequence numbers; small laws of byte slices (cut out of gen/seg).
-/
import Derived.Test.Qxb6500424aGreatBytes
import Derived.Test.Qxb6500424aGreatSame
import Derived.Test.Qxb6500424aGreatVcF
import Derived.Test.Qxb6500424aGreatVcI
set_option linter.unusedVariables false
set_option linter.unusedSimpArgs false
open Go.Vc
namespace Go.Proofs.Qxb6500424aGreat


/-! ### sequence numbers -/
theorem tmod256 (x : Int) : x.tmod 256 = x % 256 ∨ x.tmod 256 = x % 256 - 256 := by
  rw [Int.tmod_eq_emod]
  split
  · exact .inl (by omega)
  · exact .inr (by simp)
theorem tmod_pos {x : Int} (n : Int) (h : 0 ≤ x) : x.tmod n = x % n := Int.tmod_eq_emod_of_nonneg h
def sqAdd (a n : Int) : Int := (a + n) % 256
theorem sqAdd_bd (a n : Int) : 0 ≤ sqAdd a n ∧ sqAdd a n < 256 := by unfold sqAdd; omega
theorem sqAdd_low {a : Int} (h : 0 ≤ a ∧ a < 256) : sqAdd a 0 = a := by unfold sqAdd; omega
def sqDiff (a b : Int) : Int := if 128 ≤ (a - b) % 256 then (a - b) % 256 - 256 else (a - b) % 256
theorem sqDiff_bd (a b : Int) : -128 ≤ sqDiff a b ∧ sqDiff a b < 128 := by unfold sqDiff; split <;> omega
section
variable {w : World}
theorem seqAdd_ok {a n : Int} {R : Int → World → Prop} (hR : R (sqAdd a n) w) : api_SeqAdd.Call a n w R := by
  apply api_SeqAdd.sound
  unfold api_SeqAdd.B0
  refine ⟨by decide, by decide, by decide, by decide, ?_⟩
  have h1 := tmod256 a
  have h2 := tmod256 n
  rw [w64 (x := a.tmod 256 + n.tmod 256) (by omega) (by omega)]
  have h3 := tmod256 (a.tmod 256 + n.tmod 256)
  rw [w64 (x := (a.tmod 256 + n.tmod 256).tmod 256 + 256) (by omega) (by omega), tmod_pos _ (by omega)]
  have e : ((a.tmod 256 + n.tmod 256).tmod 256 + 256) % 256 = sqAdd a n := by unfold sqAdd; omega
  rw [e]
  exact hR
theorem seqDiff_ok {a b : Int} {R : Int → World → Prop} (hR : R (sqDiff a b) w) : api_SeqDiff.Call a b w R := by
  apply api_SeqDiff.sound
  unfold api_SeqDiff.B0
  refine ⟨by decide, ?_⟩
  have h1 := tmod256 b
  rw [w64 (x := 0 - b.tmod 256) (by omega) (by omega)]
  refine seqAdd_ok ?_
  have e : sqAdd a (0 - b.tmod 256) = (a - b) % 256 := by unfold sqAdd; omega
  rw [e]
  unfold sqDiff at hR
  refine Bm.ite (fun h => ?_) fun h => ?_
  · rw [if_pos h] at hR
    rw [w64 (by omega) (by omega)]
    exact hR
  · rw [if_neg h] at hR
    exact hR
def leastN (mx : Int) (have0 : Nat) : Nat := (min mx (have0 : Int)).toNat
theorem leastN_le (mx : Int) (k : Nat) : leastN mx k ≤ k := by unfold leastN; omega
theorem least_ok {mx : Int} {k : Nat} {R : Int → World → Prop} (hR : R (leastN mx k : Int) w) : seg_least.Call mx (k : Int) w R := by
  apply seg_least.sound
  unfold seg_least.B0 seg_least.B1
  unfold leastN at hR
  refine Bm.ite (fun h => ?_) fun h => ?_
  · refine Bm.ite (fun h2 => absurd h2 (by omega)) fun h2 => ?_
    rw [show (((min mx (k : Int)).toNat : Nat) : Int) = (k : Int) by omega] at hR
    exact hR
  · refine Bm.ite (fun h2 => ?_) fun h2 => ?_
    · rw [show (((min mx (k : Int)).toNat : Nat) : Int) = 0 by omega] at hR
      exact hR
    · rw [show (((min mx (k : Int)).toNat : Nat) : Int) = mx by omega] at hR
      exact hR
end
/-! ### the plain sums -/
/-! ### the real side's running pair -/
theorem get_lt {α : Type} {L : List α} {n : Nat} (h : n < L.length) : ∃ a, L[n]? = some a := ⟨L[n], List.getElem?_eq_getElem h⟩
theorem take1 {α : Type} {L : List α} {n : Nat} {a : α} (h : L[n]? = some a) : L.take (n + 1) = L.take n ++ [a] := by
  rw [List.take_add_one, h]; rfl
theorem addr_k (r o : Nat) (k : Nat) : Addr.add ⟨r, o, none⟩ ((k : Int).toNat * 1) = ⟨r, o + k, none⟩ := by
  rw [add_mk, Int.toNat_natCast]; simp
/-- A byte loaded at a number of the loop's. -/
theorem Rd.ldn {w : World} {b : Option Addr} {v : List Int} (h : Rd w b v) {i : Nat} {x : Int} (hx : v[i]? = some x) {l : Nat} (hl : v.length = l) {K : Int → Prop} (hk : K x) : Pn b fun a => (0 ≤ (i : Int) ∧ (i : Int) < (l : Int)) ∧ LdI .u8 (Addr.add a ((i : Int).toNat * 1)) w K := by
  have hi := (List.getElem?_eq_some_iff.1 hx).1
  obtain ⟨k, o, rfl, hc⟩ := h.at hx
  refine Pn.mk ⟨⟨by omega, by omega⟩, LdI.cell ?_ hk⟩
  rw [addr_k]
  exact hc
theorem Rd.old {w w' : World} {b : Option Addr} {v : List Int} {S : List Nat} (h : Rd w b v) (he : Ext S w w') (hs : ∀ k ∈ S, w.heap.size ≤ k) : Rd w' b v := by
  rcases h.2 with rfl | ⟨k, o, e, hlt, _⟩
  · exact Rd.nil _ _
  · exact h.ext he (fun k' o' e' hx => by
      rw [e] at e'
      simp at e'
      have := hs k' hx
      omega)
/-! ### the model's sums -/
theorem Bf.row {w : World} {k : Nat} {v : List Int} (h : Bf w k v) : Row w (some ⟨k, 0, none⟩) v.length v.length 1 T_uint8 (U8 v) :=
  ⟨by rw [U8_length]; omega, Nat.le_refl _, .inr ⟨k, _, rfl, h.1, by simp [U8], by rw [List.take_of_length_le (by simp [U8])]⟩⟩
theorem row_rd {w : World} {b : Option Addr} {l c : Nat} {v : List Int} (h : Row w b l c 1 T_uint8 (U8 v)) (hb : IsB v) : Rd w b v := by
  refine ⟨hb, ?_⟩
  have hl : v.length = l := by have := h.1; rw [U8_length] at this; omega
  rcases h.2.2 with ⟨_, hc⟩ | ⟨k, cs, rfl, ho, hs, ht⟩
  · exact .inl (List.eq_nil_of_length_eq_zero (by have := h.2.1; omega))
  · refine .inr ⟨k, 0, rfl, ho.lt, fun i x hx => ho.cell ?_⟩
    have hi := (List.getElem?_eq_some_iff.1 hx).1
    have h1 : (cs.toList.take (l * 1))[i]? = some (.int .u8 x) := by rw [ht, U8_get, hx]; rfl
    rw [List.getElem?_take, if_pos (by omega)] at h1
    simpa using h1
theorem u8app (a b : List Int) : U8 a ++ U8 b = U8 (a ++ b) := by simp [U8]
/-- An append of bytes. -/
theorem app8 {w : World} {b : Option Addr} {l c : Nat} {v : List Int} {xb : Option Addr} {n : Nat} {x : List Int} {K : Option Addr → Nat → World → Prop} (hr : Row w b l c 1 T_uint8 (U8 v)) (hx : Rd w xb x) (hn : x.length = n) (hl : l + n ≤ 100000)
    (hk : ∀ b' c' w', Row w' b' (l + n) c' 1 T_uint8 (U8 (v ++ x)) → Ext (rowBlk b) w w' → (∀ k ∈ rowBlk b', k ∈ rowBlk b ∨ w.heap.size ≤ k) → K b' c' w') : Append 5 (.int .u8 0) 1 1 b l c xb n w K :=
  Vc.Append.mk (e := T_uint8) hr hx.cells (by rw [U8_length]; omega) rfl (U8_all x) (by omega) (by omega) fun b' c' w' h1 h2 h3 => hk b' c' w' (by rw [← u8app]; exact h1) h2 fun k hk' => (h3 k hk').imp id fun q => q.1
theorem drop_cons {p : List Int} {i : Nat} {x : Int} (hx : p[i]? = some x) : p.drop i = x :: p.drop (i + 1) := by
  obtain ⟨h, e⟩ := List.getElem?_eq_some_iff.1 hx
  rw [← e, List.getElem_cons_drop]
section
variable {w : World} {b : Option Addr} {raw : List Int} {l : Nat}
/-- The checks of Encode, in the order of both sides. -/
theorem Bm.or {p : Prop} [Decidable p] {q : Prop} [Decidable q] {X : Bool → Prop} (h1 : p ∨ q → X true) (h2 : ¬ p → ¬ q → X false) : Bm (decide p) (X true) (X (decide q)) := by
  by_cases hp : p
  · exact Bm.pos (decide_eq_true hp) (h1 (.inl hp))
  · refine Bm.neg (decide_eq_false hp) ?_
    by_cases hq : q
    · rw [decide_eq_true hq]; exact h1 (.inr hq)
    · rw [decide_eq_false hq]; exact h2 hp hq
theorem Bf.copy {w : World} {k o l n : Nat} {xb : Option Addr} {v x : List Int} {K : Int → World → Prop} (h : Bf w k v) (hx : Rd w xb x) (hn : x.length = Nat.min n l) (ho : o + x.length ≤ v.length)
    (hK : ∀ w', w'.heap.size = w.heap.size → Bf w' k (v.take o ++ (x ++ v.drop (o + x.length))) → Ext [k] w w' → K ((Nat.min n l : Nat) : Int) w') : Copy 1 (some ⟨k, o, none⟩) l xb n w K := by
  refine Copy.mk2 h.1 hx.cells (by rw [U8_length]; omega) (by rw [U8_length]; simp [U8]; omega) (U8_all x) fun w' hs ho' he => hK w' hs ⟨?_, ?_⟩ he
  · have e : putArr (U8 v).toArray o (U8 x) = (U8 (v.take o ++ (x ++ v.drop (o + x.length)))).toArray := by
      apply Array.ext'
      rw [putArr_toList _ _ _ (by rw [U8_length]; simp [U8]; omega)]
      simp [U8, List.map_take, List.map_drop]
    rw [e] at ho'
    exact ho'
  · exact (h.2.take o).append (hx.isB.append (h.2.drop _))
theorem getD_some {raw : List Int} {i : Nat} (h : i < raw.length) : raw[i]? = some (raw.getD i 0) := by
  rw [List.getElem?_eq_getElem h]
  simp [List.getD, h]
theorem getD_isB (hr : IsB raw) (i : Nat) : 0 ≤ raw.getD i 0 ∧ raw.getD i 0 < 256 := by
  by_cases h : i < raw.length
  · exact hr.get (getD_some h)
  · rw [List.getD_eq_getElem?_getD, List.getElem?_eq_none (by omega)]
    simp
end
end Go.Proofs.Qxb6500424aGreat
