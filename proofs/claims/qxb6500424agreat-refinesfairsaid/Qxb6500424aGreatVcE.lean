/-
  Small laws more: numbers that fit, loads by a cell, a block made and filled.
-/
import Derived.Test.Qxb6500424aGreatVcD
set_option linter.unusedVariables false
namespace Go.Vc
theorem wrap8_id {x : Int} (h0 : 0 ≤ x) (h1 : x < 256) : IntKind.u8.wrap x = x := by
  simp only [IntKind.wrap, IntKind.signed, IntKind.bits, Bool.false_and, Bool.false_eq_true, if_false]
  have e : (2 : Int) ^ (8 : Nat) = 256 := by decide
  rw [e]
  omega
theorem wrap8_eq (x : Int) : IntKind.u8.wrap x = x % 256 := by
  simp only [IntKind.wrap, IntKind.signed, IntKind.bits, Bool.false_and, Bool.false_eq_true, if_false]
  have e : (2 : Int) ^ (8 : Nat) = 256 := by decide
  rw [e]
  try omega
theorem wrap8_isB (x : Int) : 0 ≤ IntKind.u8.wrap x ∧ IntKind.u8.wrap x < 256 := by
  rw [wrap8_eq]
  omega
theorem w64 {x : Int} (h0 : -9223372036854775808 ≤ x) (h1 : x ≤ 9223372036854775807) : IntKind.i64.wrap x = x := by
  simp only [IntKind.wrap, IntKind.signed, IntKind.bits, Bool.true_and]
  have e : (2 : Int) ^ (64 : Nat) = 18446744073709551616 := by decide
  have e' : (2 : Int) ^ (64 - 1 : Nat) = 9223372036854775808 := by decide
  simp only [e, e']
  split <;> rename_i h <;> simp at h <;> omega
theorem w64b {x : Int} (h : 0 ≤ x ∧ x < 256) : IntKind.i64.wrap x = x := w64 (by omega) (by omega)

theorem LdI.cell {k : IntKind} {a : Addr} {w : World} {n : Int} {K : Int → Prop} (h : w.cell? a = some (.int k n)) (hk : K n) : LdI k a w K := ⟨n, h, hk⟩

theorem NewSet.mk {w : World} {c : Array Value} {vs : List Value} {t : TypeId} {K : Nat → World → Prop} (hl : vs.length = c.size) (h1 : vs.all Value.oneCell' = true)
    (h : ∀ r w', r = w.heap.size → w'.heap.size = r + 1 → Own w' r vs.toArray t → Ext [] w w' → K r w') : New (.cells c t) w fun r w1 => Sts vs ⟨r, 0, none⟩ 0 w1 fun w2 => K r w2 :=
  New.mk fun r w1 hr hs ho he => Sts.full ho hl h1 fun w2 hs2 ho2 he2 => h r w2 hr (by omega) ho2 (he.trans' he2 (fun x hx hlt => by simp at hx; omega))
theorem LdP.cell {a : Addr} {w : World} {n : Option Addr} {K : Option Addr → Prop} (h : w.cell? a = some (.pointer n)) (hk : K n) : LdP a w K := ⟨n, h, hk⟩
theorem LdL.cell {a : Addr} {w : World} {s : Option Addr} {l c : Nat} {K : Option Addr → Nat → Nat → Prop} (h : w.cell? a = some (.slice s l c)) (hk : K s l c) : LdL a w K := ⟨s, l, c, h, hk⟩

theorem LdB.cell {a : Addr} {w : World} {n : Bool} {K : Bool → Prop} (h : w.cell? a = some (.bool n)) (hk : K n) : LdB a w K := ⟨n, h, hk⟩
theorem LdS.cell {a : Addr} {w : World} {n : ByteArray} {K : ByteArray → Prop} (h : w.cell? a = some (.string n)) (hk : K n) : LdS a w K := ⟨n, h, hk⟩
/-! ### Blocks whose cells a function tells -/
def fnArr (n : Nat) (f : Nat → Value) : Array Value := ((List.range n).map f).toArray
theorem fnArr_size (n : Nat) (f : Nat → Value) : (fnArr n f).size = n := by simp [fnArr]
theorem fnArr_get {n o : Nat} (f : Nat → Value) (h : o < n) : (fnArr n f)[o]? = some (f o) := by simp [fnArr, h]
theorem fnArr_congr {n : Nat} {f g : Nat → Value} (h : ∀ j, j < n → f j = g j) : fnArr n f = fnArr n g := by
  unfold fnArr; congr 1
  exact List.map_congr_left fun j hj => h j (List.mem_range.1 hj)
theorem fnArr_ext {n : Nat} {f : Nat → Value} {c : Array Value} (hs : c.size = n) (h : ∀ j, j < n → c[j]? = some (f j)) : c = fnArr n f := by
  apply Array.ext_getElem?
  intro j
  by_cases hj : j < n
  · rw [h j hj, fnArr_get f hj]
  · rw [Array.getElem?_eq_none (by omega), Array.getElem?_eq_none (by rw [fnArr_size]; omega)]
/-- The cells from o on, told anew. -/
def fnPut (f : Nat → Value) (o : Nat) (vs : List Value) (j : Nat) : Value := if o ≤ j ∧ j < o + vs.length then vs.getD (j - o) undef else f j
theorem putArr_fn {n o : Nat} {f : Nat → Value} {vs : List Value} (h : o + vs.length ≤ n) : putArr (fnArr n f) o vs = fnArr n (fnPut f o vs) := by
  apply fnArr_ext (by rw [size_putArr, fnArr_size])
  intro j hj
  rw [getElem?_putArr vs _ _ _ (by rw [fnArr_size]; exact h)]
  unfold fnPut
  split
  · rename_i hc
    have : j - o < vs.length := by omega
    simp [this]
  · exact fnArr_get f hj
section
variable {w : World} {b o n : Nat} {f : Nat → Value} {t : TypeId}
theorem LdI.fn {k : IntKind} {v : Int} {K : Int → Prop} (h : Own w b (fnArr n f) t) (ho : o < n) (hv : f o = .int k v) (hk : K v) : LdI k ⟨b, o, none⟩ w K := LdI.mk h (by rw [fnArr_get f ho, hv]) hk
theorem LdB.fn {v : Bool} {K : Bool → Prop} (h : Own w b (fnArr n f) t) (ho : o < n) (hv : f o = .bool v) (hk : K v) : LdB ⟨b, o, none⟩ w K := LdB.mk h (by rw [fnArr_get f ho, hv]) hk
theorem LdS.fn {v : ByteArray} {K : ByteArray → Prop} (h : Own w b (fnArr n f) t) (ho : o < n) (hv : f o = .string v) (hk : K v) : LdS ⟨b, o, none⟩ w K := LdS.mk h (by rw [fnArr_get f ho, hv]) hk
theorem LdP.fn {v : Option Addr} {K : Option Addr → Prop} (h : Own w b (fnArr n f) t) (ho : o < n) (hv : f o = .pointer v) (hk : K v) : LdP ⟨b, o, none⟩ w K := LdP.mk h (by rw [fnArr_get f ho, hv]) hk
theorem LdL.fn {s : Option Addr} {l c : Nat} {K : Option Addr → Nat → Nat → Prop} (h : Own w b (fnArr n f) t) (ho : o < n) (hv : f o = .slice s l c) (hk : K s l c) : LdL ⟨b, o, none⟩ w K := LdL.mk h (by rw [fnArr_get f ho, hv]) hk
/-- A store into such a block: the cells are told by g. -/
theorem Sts.fn {vs : List Value} {K : World → Prop} {g : Nat → Value} (h : Own w b (fnArr n f) t) (hl : o + vs.length ≤ n) (h1 : vs.all Value.oneCell' = true) (hg : ∀ j, j < n → fnPut f o vs j = g j)
    (hk : ∀ w', w'.heap.size = w.heap.size → Own w' b (fnArr n g) t → Ext [b] w w' → K w') : Sts vs ⟨b, o, none⟩ 0 w K :=
  Sts.mk h (by rw [fnArr_size]; exact hl) h1 fun w' hs ho he => hk w' hs (by rw [putArr_fn hl, fnArr_congr hg] at ho; exact ho) he
end

end Go.Vc
