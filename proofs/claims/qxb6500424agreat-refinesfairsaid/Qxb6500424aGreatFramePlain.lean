/-
  The round trip and the flip theorem, with no Go in sight.
-/
import Derived.Test.Qxb6500424aGreatCodec
set_option linter.unusedVariables false
open Go.Vc
namespace Go.Proofs.Qxb6500424aGreat.Fm

theorem encFrame_get {dst addr typ : Int} {v : List Int} :
    (encFrame dst addr typ v).take ((encFrame dst addr typ v).length - 2) = encBody dst addr typ v ∧
    (encFrame dst addr typ v).getD ((encFrame dst addr typ v).length - 2) 0 = sumS (encBody dst addr typ v) % 256 ∧
    (encFrame dst addr typ v).getD ((encFrame dst addr typ v).length - 1) 0 = sumW (encBody dst addr typ v) % 256 := by
  have hl := encFrame_length dst addr typ v
  have hb : (encBody dst addr typ v).length = v.length + 4 := by simp [encBody]
  rw [hl]
  have e1 : v.length + 6 - 2 = (encBody dst addr typ v).length := by omega
  have e2 : v.length + 6 - 1 = (encBody dst addr typ v).length + 1 := by omega
  rw [e1, e2]
  unfold encFrame
  refine ⟨by simp, ?_, ?_⟩
  · simp [List.getD]
  · simp [List.getD]

theorem frameErr_enc {dst addr typ : Int} {v : List Int} (h : v.length ≤ 24) : frameErr (encFrame dst addr typ v) = 0 := by
  obtain ⟨h1, h2, h3⟩ := encFrame_get (dst := dst) (addr := addr) (typ := typ) (v := v)
  unfold frameErr
  rw [h1, h2, h3]
  have hl := encFrame_length dst addr typ v
  have e3 : (encFrame dst addr typ v).getD 3 0 = (v.length : Int) := by simp [encFrame, encBody, List.getD]
  rw [if_neg (by omega), if_neg (by omega), e3, hl, if_neg (by omega), if_neg (by simp)]

theorem decR_enc {dst addr typ a : Int} {v : List Int} (h : v.length ≤ 24) (ha : dst = a) : decR a (encFrame dst addr typ v) = ⟨0, 1, dst, addr, typ, v⟩ := by
  unfold decR
  have e0 : (encFrame dst addr typ v).getD 0 0 = dst := by simp [encFrame, encBody, List.getD]
  have e1 : (encFrame dst addr typ v).getD 1 0 = addr := by simp [encFrame, encBody, List.getD]
  have e2 : (encFrame dst addr typ v).getD 2 0 = typ := by simp [encFrame, encBody, List.getD]
  rw [if_neg (by simp [frameErr_enc h]), e0, e1, e2, if_neg (by simp [ha]), encFrame_length]
  congr 1
  simp [encFrame, encBody]

theorem sumS_set : ∀ {v : List Int} {j : Nat} {x y : Int}, v[j]? = some x → sumS (v.set j y) = sumS v + y - x
  | [], j, x, y, h => by simp at h
  | z :: r, 0, x, y, h => by
    simp at h
    subst h
    simp only [List.set_cons_zero, sumS]
    omega
  | z :: r, j + 1, x, y, h => by
    simp only [List.getElem?_cons_succ] at h
    simp only [List.set_cons_succ, sumS, sumS_set h]
    omega

theorem getD_set_ne {v : List Int} {i j : Nat} {y : Int} (h : i ≠ j) : (v.set i y).getD j 0 = v.getD j 0 := by simp [List.getD, List.getElem?_set_ne h]
theorem getD_set_eq {v : List Int} {i : Nat} {y : Int} (h : i < v.length) : (v.set i y).getD i 0 = y := by simp [List.getD, h]

theorem flip_err {dst addr typ : Int} {v : List Int} (hv : v.length ≤ 24) {j : Nat} {x y : Int} (hx : (encFrame dst addr typ v)[j]? = some x) (hxb : 0 ≤ x ∧ x < 256) (hyb : 0 ≤ y ∧ y < 256) (hne : y ≠ x) :
    frameErr ((encFrame dst addr typ v).set j y) = 3 ∨ frameErr ((encFrame dst addr typ v).set j y) = 4 := by
  obtain ⟨h1, h2, h3⟩ := encFrame_get (dst := dst) (addr := addr) (typ := typ) (v := v)
  have hl := encFrame_length dst addr typ v
  have hj := (List.getElem?_eq_some_iff.1 hx).1
  have e3 : (encFrame dst addr typ v).getD 3 0 = (v.length : Int) := by simp [encFrame, encBody, List.getD]
  unfold frameErr
  rw [List.length_set, if_neg (by omega), if_neg (by omega)]
  by_cases h3' : j = 3
  · subst h3'
    rw [getD_set_eq hj]
    have ex : x = (v.length : Int) := by rw [← e3, getD_of hx]
    rw [if_pos (by omega)]
    exact .inl rfl
  · rw [getD_set_ne h3', e3, if_neg (by omega)]
    right
    rw [if_pos ?_]
    by_cases ha : j < (encFrame dst addr typ v).length - 2
    · left
      rw [List.take_set, h1, getD_set_ne (by omega), h2]
      have hx' : (encBody dst addr typ v)[j]? = some x := by
        rw [← h1, List.getElem?_take, if_pos ha]
        exact hx
      rw [sumS_set hx']
      omega
    · have et : ((encFrame dst addr typ v).set j y).take ((encFrame dst addr typ v).length - 2) = encBody dst addr typ v := by
        rw [List.take_set, List.set_eq_of_length_le (by rw [List.length_take]; omega), h1]
      rw [et]
      by_cases hb : j = (encFrame dst addr typ v).length - 2
      · left
        subst hb
        rw [getD_set_eq hj]
        rw [getD_of hx] at h2
        omega
      · right
        have hb' : j = (encFrame dst addr typ v).length - 1 := by omega
        subst hb'
        rw [getD_set_eq hj]
        rw [getD_of hx] at h3
        omega
theorem decR_flip {a dst addr typ : Int} {v : List Int} (hv : v.length ≤ 24) {j : Nat} {x y : Int} (hx : (encFrame dst addr typ v)[j]? = some x) (hxb : 0 ≤ x ∧ x < 256) (hyb : 0 ≤ y ∧ y < 256) (hne : y ≠ x) :
    (decR a ((encFrame dst addr typ v).set j y)).err = 3 ∨ (decR a ((encFrame dst addr typ v).set j y)).err = 4 := by
  have h := flip_err hv hx hxb hyb hne
  unfold decR
  rw [if_pos (by omega)]
  exact h

/-- One bit turned. -/
def flipV (x : Int) (q : Nat) : Int := IntKind.u8.wrap (BitVec.ofInt IntKind.u8.bits x ^^^ BitVec.ofInt IntKind.u8.bits (IntKind.u8.wrap ((1 : Int) * 2 ^ (min q IntKind.u8.bits)))).toNat
theorem flipV_isB (x : Int) (q : Nat) : 0 ≤ flipV x q ∧ flipV x q < 256 := wrap8_isB _
theorem flipV_ne {x : Int} (hx : 0 ≤ x ∧ x < 256) {q : Nat} (hq : q < 8) : flipV x q ≠ x := by
  intro h
  have hm : BitVec.ofInt IntKind.u8.bits (IntKind.u8.wrap ((1 : Int) * 2 ^ (min q IntKind.u8.bits))) ≠ 0 := by
    match q, hq with
    | 0, _ => decide
    | 1, _ => decide
    | 2, _ => decide
    | 3, _ => decide
    | 4, _ => decide
    | 5, _ => decide
    | 6, _ => decide
    | 7, _ => decide
  unfold flipV at h
  generalize BitVec.ofInt IntKind.u8.bits (IntKind.u8.wrap ((1 : Int) * 2 ^ (min q IntKind.u8.bits))) = mm at h hm
  have hlt : (BitVec.ofInt IntKind.u8.bits x ^^^ mm).toNat < 256 := (BitVec.ofInt IntKind.u8.bits x ^^^ mm).isLt
  rw [wrap8_id (by omega) (by omega)] at h
  have hxx : ((BitVec.ofInt IntKind.u8.bits x).toNat : Int) = x := by
    rw [BitVec.toNat_ofInt]
    have : (2 ^ IntKind.u8.bits : Nat) = 256 := rfl
    rw [this]
    omega
  have e : BitVec.ofInt IntKind.u8.bits x ^^^ mm = BitVec.ofInt IntKind.u8.bits x := by
    apply BitVec.eq_of_toNat_eq
    omega
  have e2 : BitVec.ofInt IntKind.u8.bits x ^^^ (BitVec.ofInt IntKind.u8.bits x ^^^ mm) = 0 := by rw [e, BitVec.xor_self]; rfl
  rw [← BitVec.xor_assoc, BitVec.xor_self, BitVec.zero_xor] at e2
  exact hm e2
end Go.Proofs.Qxb6500424aGreat.Fm
