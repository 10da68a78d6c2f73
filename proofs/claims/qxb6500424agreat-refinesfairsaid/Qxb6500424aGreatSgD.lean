/-
  seg: the plain law of the codec: what is encoded decodes; a stray or a turned bit is told.
-/
import Derived.Test.Qxb6500424aGreatSgC
set_option linter.unusedVariables false
set_option linter.unusedSimpArgs false
open Go.Vc
namespace Go.Proofs.Qxb6500424aGreat

theorem sumS_set : ∀ {v : List Int} {j : Nat} {x y : Int}, v[j]? = some x → sumS (v.set j y) = sumS v + y - x
  | [], j, x, y, h => by simp at h
  | z :: r, 0, x, y, h => by
    simp at h
    subst h
    simp only [List.set_cons_zero, sumS]
    omega
  | z :: r, j + 1, x, y, h => by
    simp only [List.getElem?_cons_succ] at h
    simp only [List.set_cons_succ, sumS, sumS_set h]
    omega

theorem getD_set_ne {v : List Int} {i j : Nat} {y : Int} (h : i ≠ j) : (v.set i y).getD j 0 = v.getD j 0 := by simp [List.getD, List.getElem?_set_ne h]
theorem getD_set_eq {v : List Int} {i : Nat} {y : Int} (h : i < v.length) : (v.set i y).getD i 0 = y := by simp [List.getD, h]


theorem enc_take (src dst : Int) (h : Hd) (D : List Int) : (encSeg src dst h D).take 6 = h.vs := rfl
theorem enc_drop (src dst : Int) (h : Hd) (D : List Int) : (encSeg src dst h D).drop 8 = D := rfl
theorem enc_6 (src dst : Int) (h : Hd) (D : List Int) : (encSeg src dst h D).getD 6 0 = sumS (encAll src dst h D) % 256 := rfl
theorem enc_7 (src dst : Int) (h : Hd) (D : List Int) : (encSeg src dst h D).getD 7 0 = sumW (encAll src dst h D) % 256 := rfl
theorem enc_4 (src dst : Int) (h : Hd) (D : List Int) : (encSeg src dst h D).getD 4 0 = h.fl := rfl
theorem enc_hd (src dst : Int) (h : Hd) (D : List Int) : decHd (encSeg src dst h D) = h := rfl
theorem dec_all (src dst a b : Int) (h : Hd) (D : List Int) : decAll a b (encSeg src dst h D) = encAll a b h D := rfl
theorem round_err {src dst : Int} {h : Hd} {D : List Int} (k : EncOk src dst h D.length) : decErr src dst (encSeg src dst h D) = 0 := by
  have hl := encSeg_len src dst h D
  have := k.src; have := k.dst; have := k.n; have := k.fl
  unfold decErr
  rw [if_neg (by unfold off; omega), if_neg (by omega), if_neg (by omega), dec_all, enc_6, enc_7, enc_4, if_neg (by simp), if_neg (by omega)]
theorem stray_err {src dst a b : Int} {h : Hd} {D : List Int} (k : EncOk src dst h D.length) (hne : ¬ (a = src ∧ b = dst)) : decErr a b (encSeg src dst h D) = 4 ∨ decErr a b (encSeg src dst h D) = 5 := by
  have hl := encSeg_len src dst h D
  have := k.src; have := k.dst; have := k.n
  unfold decErr
  by_cases ho : off a ∨ off b
  · rw [if_pos ho]; exact .inr rfl
  rw [if_neg ho, if_neg (by omega), if_neg (by omega), dec_all, enc_6, enc_7, if_pos]
  · exact .inl rfl
  apply Classical.byContradiction
  intro hc
  have hc1 : sumS (encAll a b h D) % 256 = sumS (encAll src dst h D) % 256 := Classical.byContradiction fun q => hc (.inl q)
  have hc2 : sumW (encAll a b h D) % 256 = sumW (encAll src dst h D) % 256 := Classical.byContradiction fun q => hc (.inr q)
  have e : ∀ x y, encAll x y h D = x :: y :: (h.vs ++ D) := fun x y => rfl
  rw [e, e] at hc1 hc2
  generalize h.vs ++ D = X at hc1 hc2
  simp only [sumS, sumW, List.length_cons] at hc1 hc2
  have hb1 : ¬ (a < 0 ∨ 255 < a) := fun q => ho (.inl q)
  have hb2 : ¬ (b < 0 ∨ 255 < b) := fun q => ho (.inr q)
  generalize hn : (X.length : Int) = n at hc1 hc2
  have en : ((X.length + 1 : Nat) : Int) = n + 1 := by omega
  rw [en] at hc2
  have d1 : (a + b - (src + dst)) % 256 = 0 := by omega
  have d2 : ((n + 1 + 1) * a + ((n + 1) * b) - ((n + 1 + 1) * src + (n + 1) * dst)) % 256 = 0 := by omega
  have e2 : (n + 1 + 1) * a + ((n + 1) * b) - ((n + 1 + 1) * src + (n + 1) * dst) = (a - src) + (n + 1) * (a + b - (src + dst)) := by
    simp only [Int.add_mul, Int.mul_add, Int.mul_sub, Int.one_mul]
    omega
  have d3 : ((n + 1) * (a + b - (src + dst))) % 256 = 0 := by
    obtain ⟨q, hq⟩ := Int.dvd_of_emod_eq_zero d1
    rw [hq, Int.mul_left_comm]
    exact Int.mul_emod_right _ _
  rw [e2] at d2
  generalize (n + 1) * (a + b - (src + dst)) = Z at d2 d3
  have ha : a = src := by omega
  have hb : b = dst := by omega
  exact hne ⟨ha, hb⟩
theorem set_app_left {u v : List Int} {j : Nat} {y : Int} (h : j < u.length) : (u ++ v).set j y = u.set j y ++ v := by rw [List.set_append_left _ _ h]
theorem flip_err {src dst : Int} {h : Hd} {D : List Int} (k : EncOk src dst h D.length) {j : Nat} {x y : Int} (hx : (encSeg src dst h D)[j]? = some x) (hxb : 0 ≤ x ∧ x < 256) (hyb : 0 ≤ y ∧ y < 256) (hne : y ≠ x) : decErr src dst ((encSeg src dst h D).set j y) = 4 := by
  have hl := encSeg_len src dst h D
  have := k.src; have := k.dst; have := k.n
  have hj := (List.getElem?_eq_some_iff.1 hx).1
  unfold decErr
  rw [if_neg (by unfold off; omega), if_neg (by rw [List.length_set]; omega), if_neg (by rw [List.length_set]; omega), if_pos]
  have eS : ∀ X : List Int, sumS ([src, dst] ++ X) = src + (dst + sumS X) := fun X => rfl
  by_cases j6 : j < 6
  · refine .inl ?_
    rw [getD_set_ne (by omega), enc_6]
    have e : decAll src dst ((encSeg src dst h D).set j y) = (encAll src dst h D).set (j + 2) y := by
      have ev : h.vs.length = 6 := rfl
      unfold decAll encAll
      have e1 : (encSeg src dst h D).set j y = h.vs.set j y ++ ([sumS (encAll src dst h D) % 256, sumW (encAll src dst h D) % 256] ++ D) := by
        unfold encSeg
        rw [List.set_append_left _ _ (by omega)]
      rw [e1]
      have e2 : (h.vs.set j y ++ ([sumS (encAll src dst h D) % 256, sumW (encAll src dst h D) % 256] ++ D)).take 6 = h.vs.set j y := by
        rw [List.take_append_of_le_length (by rw [List.length_set]; omega), List.take_of_length_le (by rw [List.length_set]; omega)]
      have e3 : (h.vs.set j y ++ ([sumS (encAll src dst h D) % 256, sumW (encAll src dst h D) % 256] ++ D)).drop 8 = D := by
        rw [List.drop_append, List.drop_of_length_le (by rw [List.length_set]; omega), List.length_set, ev]
        rfl
      rw [e2, e3]
      show src :: dst :: (h.vs.set j y ++ D) = src :: dst :: (h.vs ++ D).set j y
      rw [List.set_append_left _ _ (by omega)]
    rw [e]
    have hx2 : (encAll src dst h D)[j + 2]? = some x := by
      have : (encAll src dst h D)[j + 2]? = (h.vs ++ D)[j]? := rfl
      rw [this, ← hx]
      unfold encSeg
      rw [List.getElem?_append_left (by show j < 6; omega), List.getElem?_append_left (by show j < 6; omega)]
    rw [sumS_set hx2]
    omega
  · by_cases j6' : j = 6
    · subst j6'
      refine .inl ?_
      rw [getD_set_eq hj]
      have e : decAll src dst ((encSeg src dst h D).set 6 y) = encAll src dst h D := rfl
      rw [e]
      have hx' : sumS (encAll src dst h D) % 256 = x := Option.some.inj hx
      omega
    · by_cases j7 : j = 7
      · subst j7
        refine .inr ?_
        rw [getD_set_eq hj]
        have e : decAll src dst ((encSeg src dst h D).set 7 y) = encAll src dst h D := rfl
        rw [e]
        have hx' : sumW (encAll src dst h D) % 256 = x := Option.some.inj hx
        omega
      · refine .inl ?_
        rw [getD_set_ne (by omega), enc_6]
        obtain ⟨i, rfl⟩ : ∃ i, j = i + 8 := ⟨j - 8, by omega⟩
        have e : decAll src dst ((encSeg src dst h D).set (i + 8) y) = (encAll src dst h D).set (i + 8) y := rfl
        have hx2 : (encAll src dst h D)[i + 8]? = some x := by rw [← hx]; rfl
        rw [e, sumS_set hx2]
        omega
/-- One bit turned. -/
def flipV (x : Int) (q : Nat) : Int := IntKind.u8.wrap (BitVec.ofInt IntKind.u8.bits x ^^^ BitVec.ofInt IntKind.u8.bits (IntKind.u8.wrap ((1 : Int) * 2 ^ (min q IntKind.u8.bits)))).toNat
theorem flipV_isB (x : Int) (q : Nat) : 0 ≤ flipV x q ∧ flipV x q < 256 := wrap8_isB _
theorem flipV_ne {x : Int} (hx : 0 ≤ x ∧ x < 256) {q : Nat} (hq : q < 8) : flipV x q ≠ x := by
  intro h
  have hm : BitVec.ofInt IntKind.u8.bits (IntKind.u8.wrap ((1 : Int) * 2 ^ (min q IntKind.u8.bits))) ≠ 0 := by
    match q, hq with
    | 0, _ => decide
    | 1, _ => decide
    | 2, _ => decide
    | 3, _ => decide
    | 4, _ => decide
    | 5, _ => decide
    | 6, _ => decide
    | 7, _ => decide
  unfold flipV at h
  generalize BitVec.ofInt IntKind.u8.bits (IntKind.u8.wrap ((1 : Int) * 2 ^ (min q IntKind.u8.bits))) = mm at h hm
  have hlt : (BitVec.ofInt IntKind.u8.bits x ^^^ mm).toNat < 256 := (BitVec.ofInt IntKind.u8.bits x ^^^ mm).isLt
  rw [wrap8_id (by omega) (by omega)] at h
  have hxx : ((BitVec.ofInt IntKind.u8.bits x).toNat : Int) = x := by
    rw [BitVec.toNat_ofInt]
    have : (2 ^ IntKind.u8.bits : Nat) = 256 := rfl
    rw [this]
    omega
  have e : BitVec.ofInt IntKind.u8.bits x ^^^ mm = BitVec.ofInt IntKind.u8.bits x := by
    apply BitVec.eq_of_toNat_eq
    omega
  have e2 : BitVec.ofInt IntKind.u8.bits x ^^^ (BitVec.ofInt IntKind.u8.bits x ^^^ mm) = 0 := by rw [e, BitVec.xor_self]; rfl
  rw [← BitVec.xor_assoc, BitVec.xor_self, BitVec.zero_xor] at e2
  exact hm e2
end Go.Proofs.Qxb6500424aGreat
