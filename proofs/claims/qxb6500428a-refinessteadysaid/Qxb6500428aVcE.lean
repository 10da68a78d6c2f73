/-
  Small laws more: numbers that fit, loads by a cell, a block made and filled.
-/
import Derived.Test.Qxb6500428aVcD
set_option linter.unusedVariables false
namespace Go.Vc
theorem wrap8_id {x : Int} (h0 : 0 ≤ x) (h1 : x < 256) : IntKind.u8.wrap x = x := by
  simp only [IntKind.wrap, IntKind.signed, IntKind.bits, Bool.false_and, Bool.false_eq_true, if_false]
  have e : (2 : Int) ^ (8 : Nat) = 256 := by decide
  rw [e]
  omega
theorem wrap8_eq (x : Int) : IntKind.u8.wrap x = x % 256 := by
  simp only [IntKind.wrap, IntKind.signed, IntKind.bits, Bool.false_and, Bool.false_eq_true, if_false]
  have e : (2 : Int) ^ (8 : Nat) = 256 := by decide
  rw [e]
  try omega
theorem wrap8_isB (x : Int) : 0 ≤ IntKind.u8.wrap x ∧ IntKind.u8.wrap x < 256 := by
  rw [wrap8_eq]
  omega
theorem w64 {x : Int} (h0 : -9223372036854775808 ≤ x) (h1 : x ≤ 9223372036854775807) : IntKind.i64.wrap x = x := by
  simp only [IntKind.wrap, IntKind.signed, IntKind.bits, Bool.true_and]
  have e : (2 : Int) ^ (64 : Nat) = 18446744073709551616 := by decide
  have e' : (2 : Int) ^ (64 - 1 : Nat) = 9223372036854775808 := by decide
  simp only [e, e']
  split <;> rename_i h <;> simp at h <;> omega
theorem w64b {x : Int} (h : 0 ≤ x ∧ x < 256) : IntKind.i64.wrap x = x := w64 (by omega) (by omega)

theorem LdI.cell {k : IntKind} {a : Addr} {w : World} {n : Int} {K : Int → Prop} (h : w.cell? a = some (.int k n)) (hk : K n) : LdI k a w K := ⟨n, h, hk⟩

theorem NewSet.mk {w : World} {c : Array Value} {vs : List Value} {t : TypeId} {K : Nat → World → Prop} (hl : vs.length = c.size) (h1 : vs.all Value.oneCell' = true)
    (h : ∀ r w', r = w.heap.size → w'.heap.size = r + 1 → Own w' r vs.toArray t → Ext [] w w' → K r w') : New (.cells c t) w fun r w1 => Sts vs ⟨r, 0, none⟩ 0 w1 fun w2 => K r w2 :=
  New.mk fun r w1 hr hs ho he => Sts.full ho hl h1 fun w2 hs2 ho2 he2 => h r w2 hr (by omega) ho2 (he.trans' he2 (fun x hx hlt => by simp at hx; omega))
theorem LdP.cell {a : Addr} {w : World} {n : Option Addr} {K : Option Addr → Prop} (h : w.cell? a = some (.pointer n)) (hk : K n) : LdP a w K := ⟨n, h, hk⟩
theorem LdL.cell {a : Addr} {w : World} {s : Option Addr} {l c : Nat} {K : Option Addr → Nat → Nat → Prop} (h : w.cell? a = some (.slice s l c)) (hk : K s l c) : LdL a w K := ⟨s, l, c, h, hk⟩

theorem LdB.cell {a : Addr} {w : World} {n : Bool} {K : Bool → Prop} (h : w.cell? a = some (.bool n)) (hk : K n) : LdB a w K := ⟨n, h, hk⟩
theorem LdS.cell {a : Addr} {w : World} {n : ByteArray} {K : ByteArray → Prop} (h : w.cell? a = some (.string n)) (hk : K n) : LdS a w K := ⟨n, h, hk⟩
end Go.Vc
