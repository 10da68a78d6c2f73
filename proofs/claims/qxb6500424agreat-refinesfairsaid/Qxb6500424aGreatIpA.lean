/-
  ip: bits, sums, keys.
-/
import Derived.Test.Qxb6500424aGreatBytes
set_option linter.unusedVariables false
set_option linter.unusedSimpArgs false
open Go.Vc
namespace Go.Proofs.Qxb6500424aGreat.Ip

theorem w64u {x : Int} (h0 : 0 ≤ x) (h1 : x < 18446744073709551616) : IntKind.u64.wrap x = x := by
  simp only [IntKind.wrap, IntKind.signed, IntKind.bits, Bool.false_and, Bool.false_eq_true, if_false]
  have e : (2 : Int) ^ (64 : Nat) = 18446744073709551616 := by decide
  rw [e]
  omega
theorem ofInt_nat64 (n : Nat) : BitVec.ofInt IntKind.u64.bits (n : Int) = BitVec.ofNat 64 n := by
  apply BitVec.eq_of_toNat_eq
  simp [BitVec.toNat_ofInt, IntKind.bits]
theorem toNat64 {n : Nat} (h : n < 18446744073709551616) : (BitVec.ofNat 64 n).toNat = n := by
  simp [BitVec.toNat_ofNat]
  omega
/-- The bit k of a bitmap, as the Go text asks. -/
theorem bit_at {h k : Nat} (hh : h < 1099511627776) (hk : k < 64) :
    (IntKind.u64.wrap (BitVec.ofInt IntKind.u64.bits ((h : Int).fdiv (2 ^ (min (IntKind.u64.wrap (k : Int)).toNat IntKind.u64.bits))) &&& BitVec.ofInt IntKind.u64.bits (1 : Int)).toNat != 0) = h.testBit k := by
  have e1 : (IntKind.u64.wrap (k : Int)).toNat = k := by rw [w64u (by omega) (by omega)]; omega
  have e2 : min k IntKind.u64.bits = k := by show min k 64 = k; omega
  have e3 : (h : Int).fdiv (2 ^ k) = ((h / 2 ^ k : Nat) : Int) := by
    have : (2 : Int) ^ k = ((2 ^ k : Nat) : Int) := by simp
    rw [this]
    exact (Int.ofNat_fdiv h (2 ^ k)).symm
  rw [e1, e2, e3, ofInt_nat64, show (1 : Int) = ((1 : Nat) : Int) from rfl, ofInt_nat64]
  have hq : h / 2 ^ k < 18446744073709551616 := Nat.lt_of_le_of_lt (Nat.div_le_self _ _) (by omega)
  have e4 : (BitVec.ofNat 64 (h / 2 ^ k) &&& BitVec.ofNat 64 1).toNat = (h / 2 ^ k) % 2 := by
    rw [BitVec.toNat_and, toNat64 hq, toNat64 (by omega), Nat.and_one_is_mod]
  have hm : (h / 2 ^ k) % 2 < 2 := Nat.mod_lt _ (by omega)
  have e5 : ((BitVec.ofNat 64 (h / 2 ^ k) &&& BitVec.ofNat 64 1).toNat : Int) = ((h / 2 ^ k % 2 : Nat) : Int) := by rw [e4]
  show (IntKind.u64.wrap ((BitVec.ofNat 64 (h / 2 ^ k) &&& BitVec.ofNat 64 1).toNat : Int) != 0) = _
  rw [e5, w64u (by omega) (by omega), Nat.testBit_eq_decide_div_mod_eq]
  have : h / 2 ^ k % 2 = 0 ∨ h / 2 ^ k % 2 = 1 := by omega
  rcases this with q | q <;> rw [q] <;> rfl
/-- A bit at or above e. -/
theorem bits_from {h e : Nat} (hh : h < 1099511627776) (he : e < 64) :
    ((h : Int).fdiv (2 ^ (min (IntKind.u64.wrap (e : Int)).toNat IntKind.u64.bits)) != 0) = (List.range 40).any (fun k => decide (e ≤ k) && h.testBit k) := by
  have key : ∀ b : Bool, (b = true ↔ ∃ k, e ≤ k ∧ k < 40 ∧ h.testBit k = true) → b = (List.range 40).any (fun k => decide (e ≤ k) && h.testBit k) := fun b hb => by
    apply Bool.eq_iff_iff.2
    rw [hb, List.any_eq_true]
    constructor
    · rintro ⟨k, h1, h2, h3⟩
      exact ⟨k, List.mem_range.2 h2, by simp [h1, h3]⟩
    · rintro ⟨k, h1, h2⟩
      simp only [Bool.and_eq_true, decide_eq_true_eq] at h2
      exact ⟨k, h2.1, List.mem_range.1 h1, h2.2⟩
  apply key
  have e1 : (IntKind.u64.wrap (e : Int)).toNat = e := by rw [w64u (by omega) (by omega)]; omega
  have e2 : min e IntKind.u64.bits = e := by show min e 64 = e; omega
  have e3 : (h : Int).fdiv (2 ^ e) = ((h / 2 ^ e : Nat) : Int) := by
    have : (2 : Int) ^ e = ((2 ^ e : Nat) : Int) := by simp
    rw [this]
    exact (Int.ofNat_fdiv h (2 ^ e)).symm
  rw [e1, e2, e3]
  by_cases hz : h / 2 ^ e = 0
  · rw [hz]
    have : ¬ ∃ k, e ≤ k ∧ k < 40 ∧ h.testBit k = true := fun ⟨k, h1, h2, h3⟩ => by
      have hlt : h < 2 ^ e := by
        rcases Nat.lt_or_ge h (2 ^ e) with q | q
        · exact q
        · have := Nat.div_pos q (Nat.two_pow_pos e)
          omega
      have hlt2 : h < 2 ^ k := Nat.lt_of_lt_of_le hlt (Nat.pow_le_pow_right (by omega) h1)
      rw [Nat.testBit_lt_two_pow hlt2] at h3
      cases h3
    simp [this]
  · have hge : 2 ^ e ≤ h := by
      rcases Nat.lt_or_ge h (2 ^ e) with q | q
      · exact absurd (Nat.div_eq_of_lt q) hz
      · exact q
    obtain ⟨k, h1, h2⟩ := Nat.exists_ge_and_testBit_of_ge_two_pow hge
    have hk : k < 40 := by
      apply Classical.byContradiction
      intro hk
      have : h < 2 ^ k := Nat.lt_of_lt_of_le hh (Nat.pow_le_pow_right (n := 2) (by omega) (show 40 ≤ k by omega))
      rw [Nat.testBit_lt_two_pow this] at h2
      cases h2
    have : ∃ k, e ≤ k ∧ k < 40 ∧ h.testBit k = true := ⟨k, h1, hk, h2⟩
    have h0 : ((h / 2 ^ e : Nat) : Int) ≠ 0 := by omega
    have h0' : ((((h / 2 ^ e : Nat) : Int)) != 0) = true := by simpa using h0
    exact ⟨fun _ => this, fun _ => h0'⟩
def belowN (n : Nat) : Nat := 2 ^ n - 1
theorem belowN_lt {n : Nat} (h : n ≤ 40) : belowN n < 1099511627776 := by
  unfold belowN
  have : 2 ^ n ≤ 2 ^ 40 := Nat.pow_le_pow_right (by omega) h
  have e : (2 : Nat) ^ 40 = 1099511627776 := by decide
  have := Nat.two_pow_pos n
  omega
theorem below_ok {w : World} {n : Nat} {R : Int → World → Prop} (h : n ≤ 40) (hR : R (belowN n : Int) w) : ip_below.Call (n : Int) w R := by
  apply ip_below.sound
  unfold ip_below.B0
  have e1 : (IntKind.u64.wrap (n : Int)) = (n : Int) := w64u (by omega) (by omega)
  rw [e1]
  refine ⟨by omega, ?_⟩
  have e2 : min (n : Int).toNat IntKind.u64.bits = n := by show min (n : Int).toNat 64 = n; omega
  have hp : 2 ^ n ≤ 2 ^ 40 := Nat.pow_le_pow_right (by omega) h
  have e40 : (2 : Nat) ^ 40 = 1099511627776 := by decide
  have hpos := Nat.two_pow_pos n
  have e3 : (1 : Int) * 2 ^ n = ((2 ^ n : Nat) : Int) := by simp
  rw [e2, e3, w64u (x := ((2 ^ n : Nat) : Int)) (by omega) (by omega), w64u (by omega) (by omega)]
  have e4 : ((2 ^ n : Nat) : Int) - 1 = (belowN n : Int) := by unfold belowN; omega
  rw [e4]
  exact hR
theorem testBit_below (n k : Nat) : (belowN n).testBit k = decide (k < n) := by
  unfold belowN
  exact Nat.testBit_two_pow_sub_one n k
/-- Laying n bits at off. -/
theorem lay_bits {h n off : Nat} (hh : h < 1099511627776) (hn : off + n ≤ 40) :
    IntKind.u64.wrap (BitVec.ofInt IntKind.u64.bits (h : Int) ||| BitVec.ofInt IntKind.u64.bits (IntKind.u64.wrap ((belowN n : Int) * 2 ^ (min (IntKind.u64.wrap (off : Int)).toNat IntKind.u64.bits)))).toNat = ((h ||| belowN n <<< off : Nat) : Int) ∧ (h ||| belowN n <<< off) < 1099511627776 := by
  have e1 : (IntKind.u64.wrap (off : Int)).toNat = off := by rw [w64u (by omega) (by omega)]; omega
  have e2 : min off IntKind.u64.bits = off := by show min off 64 = off; omega
  have hs : belowN n <<< off < 2 ^ 40 := by
    rw [Nat.shiftLeft_eq]
    unfold belowN
    have h1 : 2 ^ n * 2 ^ off ≤ 2 ^ 40 := by
      rw [← Nat.pow_add]
      exact Nat.pow_le_pow_right (by omega) (by omega)
    have h2 : (2 ^ n - 1) * 2 ^ off < 2 ^ n * 2 ^ off := Nat.mul_lt_mul_of_pos_right (by have := Nat.two_pow_pos n; omega) (Nat.two_pow_pos off)
    omega
  have e40 : (2 : Nat) ^ 40 = 1099511627776 := by decide
  have e3 : (belowN n : Int) * 2 ^ off = ((belowN n <<< off : Nat) : Int) := by
    rw [Nat.shiftLeft_eq]
    simp
  rw [e1, e2, e3]
  generalize belowN n <<< off = q at hs
  rw [w64u (x := (q : Int)) (by omega) (by omega), ofInt_nat64, ofInt_nat64]
  have hor : (h ||| q) < 2 ^ 40 := Nat.or_lt_two_pow (by omega) hs
  have e5 : (BitVec.ofNat 64 h ||| BitVec.ofNat 64 q).toNat = (h ||| q) := by
    rw [BitVec.toNat_or, toNat64 (by omega), toNat64 (by omega)]
  generalize (h ||| q) = z at hor e5
  refine ⟨?_, by omega⟩
  show IntKind.u64.wrap ((BitVec.ofNat 64 h ||| BitVec.ofNat 64 q).toNat : Int) = _
  rw [e5]
  exact w64u (by omega) (by omega)
theorem testBit_lay {h n off k : Nat} : (h ||| belowN n <<< off).testBit k = (h.testBit k || decide (off ≤ k ∧ k < off + n)) := by
  rw [Nat.testBit_or, Nat.testBit_shiftLeft, testBit_below]
  congr 1
  by_cases h1 : off ≤ k
  · simp [h1]
    omega
  · simp [h1]
/-- All places below t are held. -/
theorem all_bits {h t : Nat} (hh : h < 1099511627776) (ht : t ≤ 40) :
    (IntKind.u64.wrap (BitVec.ofInt IntKind.u64.bits (h : Int) &&& BitVec.ofInt IntKind.u64.bits (belowN t : Int)).toNat == (belowN t : Int)) = (List.range t).all (fun k => h.testBit k) := by
  have hb := belowN_lt ht
  rw [ofInt_nat64, ofInt_nat64]
  have e5 : (BitVec.ofNat 64 h &&& BitVec.ofNat 64 (belowN t)).toNat = (h &&& belowN t) := by
    rw [BitVec.toNat_and, toNat64 (by omega), toNat64 (by omega)]
  have hle : (h &&& belowN t) ≤ belowN t := Nat.and_le_right
  show (IntKind.u64.wrap ((BitVec.ofNat 64 h &&& BitVec.ofNat 64 (belowN t)).toNat : Int) == _) = _
  rw [e5, w64u (by omega) (by omega)]
  have key : ((List.range t).all (fun k => h.testBit k) = true) ↔ ∀ k, k < t → h.testBit k = true := by
    rw [List.all_eq_true]
    exact ⟨fun q k hk => q k (List.mem_range.2 hk), fun q k hk => q k (List.mem_range.1 hk)⟩
  by_cases ha : ∀ k, k < t → h.testBit k = true
  · rw [key.2 ha]
    have : (h &&& belowN t) = belowN t := by
      apply Nat.eq_of_testBit_eq
      intro k
      rw [Nat.testBit_and, testBit_below]
      by_cases hk : k < t
      · simp [hk, ha k hk]
      · simp [hk]
    rw [this]
    simp
  · have hf : (List.range t).all (fun k => h.testBit k) = false := by
      apply Bool.eq_false_iff.2
      exact fun q => ha (key.1 q)
    rw [hf]
    have : (h &&& belowN t) ≠ belowN t := fun e => ha (fun k hk => by
      have := congrArg (fun n => n.testBit k) e
      simp only [Nat.testBit_and, testBit_below, hk, decide_true, Bool.and_true] at this
      exact this)
    have : ((h &&& belowN t : Nat) : Int) ≠ (belowN t : Int) := by omega
    simpa using this
end Go.Proofs.Qxb6500424aGreat.Ip
