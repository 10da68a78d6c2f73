/-
  Strings byte by byte; order of short strings; buffers of bytes.
-/
import Derived.Test.Qxb6500430aGreatStrs
import Derived.Laws.Strings
set_option linter.unusedVariables false
open Go.Vc
namespace Go.Proofs.Qxb6500430aGreat.Kv

def estr : ByteArray := ByteArray.mk #[]
theorem strB_nil : strB estr = [] := rfl
theorem byteAt_getD (s : ByteArray) (i : Int) : byteAt s i = (strB s).getD i.toNat 0 := by
  unfold byteAt strB
  simp only [List.getD, List.getElem?_map]
  cases s.data.toList[i.toNat]? <;> simp
theorem strB_get {s : ByteArray} {i : Nat} (h : i < s.size) : (strB s)[i]? = some (byteAt s (i : Int)) := by
  rw [byteAt_getD]
  have hl := strB_length s
  simp [List.getD, List.getElem?_eq_getElem (show i < (strB s).length by omega)]
theorem byteAt_over {s : ByteArray} {i : Nat} (h : s.size ≤ i) : byteAt s (i : Int) = 0 := by
  rw [byteAt_getD]
  have hl := strB_length s
  simp [List.getD, List.getElem?_eq_none (show (strB s).length ≤ i by omega)]
theorem byteAt_bd (s : ByteArray) (i : Int) : 0 ≤ byteAt s i ∧ byteAt s i < 256 := by
  unfold byteAt
  have := (s.data.toList.getD i.toNat 0).toNat_lt
  omega
theorem wi_byte (s : ByteArray) (i : Int) : IntKind.i64.wrap (byteAt s i) = byteAt s i := w64b (byteAt_bd s i)
theorem str_inj {a b : ByteArray} (h : strB a = strB b) : a = b := by rw [← bStr_strB a, ← bStr_strB b, h]
theorem strB_bStr {v : List Int} (h : IsB v) : strB (bStr v) = v := by
  unfold strB bStr
  simp only [List.map_map]
  conv => rhs; rw [← List.map_id v]
  apply List.map_congr_left
  intro x hx
  have := h x hx
  have e : (UInt8.ofNat x.toNat).toNat = x.toNat % 256 := by simp
  simp only [Function.comp_apply, id, e]
  omega
theorem str_beq (a b : ByteArray) : (a.toList == b.toList) = decide (a = b) := by
  rw [ByteArray.toList_eq, ByteArray.toList_eq]
  by_cases h : a = b
  · subst h; simp
  · rw [decide_eq_false h]
    apply Bool.eq_false_iff.2
    intro hc
    apply h
    have := eq_of_beq hc
    cases a; cases b
    congr 1
    exact Array.ext' this
theorem str_size0 {a : ByteArray} (h : a.size = 0) : a = estr := str_inj (by
  rw [strB_nil]
  exact List.eq_nil_of_length_eq_zero (by rw [strB_length]; exact h))
theorem size_extract {a : ByteArray} {i e : Nat} (he : e ≤ a.size) (hi : i ≤ e) : (a.extract i e).size = e - i := by
  rw [ByteArray.size_extract]
  omega
theorem strB_extract {a : ByteArray} {i e : Nat} : strB (a.extract i e) = ((strB a).take e).drop i := by
  unfold strB
  have e1 : (a.extract i e).data = a.data.extract i e := ByteArray.data_extract
  rw [e1, Array.toList_extract, List.extract_eq_take_drop, List.map_take, List.map_drop, List.take_drop]
  by_cases h : i ≤ e
  · rw [show i + (e - i) = e by omega]
  · rw [List.drop_eq_nil_of_le (by rw [List.length_take]; omega), List.drop_eq_nil_of_le (by rw [List.length_take]; omega)]
/-! ### the order of strings of at most two bytes -/
def rkL : List UInt8 → Nat
  | [] => 0
  | [a] => 1 + 257 * a.toNat
  | a :: b :: _ => 2 + 257 * a.toNat + b.toNat
def rk (s : ByteArray) : Nat := rkL s.data.toList
theorem less_rkL : ∀ {a b : List UInt8}, a.length ≤ 2 → b.length ≤ 2 → Op.bytesLess a b = decide (rkL a < rkL b)
  | _, [], _, _ => by
    unfold Op.bytesLess
    simp [rkL]
  | [], [x], _, _ => by
    rw [Bool.eq_iff_iff, decide_eq_true_eq]
    simp only [Op.bytesLess, rkL, true_iff]
    omega
  | [], x :: y :: z, _, _ => by
    rw [Bool.eq_iff_iff, decide_eq_true_eq]
    simp only [Op.bytesLess, rkL, true_iff]
    omega
  | [a], [x], _, _ => by
    rw [Bool.eq_iff_iff, decide_eq_true_eq]
    simp only [Op.bytesLess, rkL, Bool.and_false, Bool.or_false, decide_eq_true_eq, UInt8.lt_iff_toNat_lt]
    omega
  | [a], [x, y], _, _ => by
    have h1 := x.toNat_lt
    have h2 := y.toNat_lt
    have h3 := a.toNat_lt
    rw [Bool.eq_iff_iff, decide_eq_true_eq]
    simp only [Op.bytesLess, rkL, Bool.and_true, Bool.or_eq_true, decide_eq_true_eq, beq_iff_eq, UInt8.lt_iff_toNat_lt, ← UInt8.toNat_inj]
    omega
  | [a, b], [x], _, _ => by
    have h1 := x.toNat_lt
    have h2 := b.toNat_lt
    have h3 := a.toNat_lt
    rw [Bool.eq_iff_iff, decide_eq_true_eq]
    simp only [Op.bytesLess, rkL, Bool.and_false, Bool.or_false, decide_eq_true_eq, UInt8.lt_iff_toNat_lt]
    omega
  | [a, b], [x, y], _, _ => by
    have h1 := x.toNat_lt
    have h2 := b.toNat_lt
    have h3 := a.toNat_lt
    have h4 := y.toNat_lt
    rw [Bool.eq_iff_iff, decide_eq_true_eq]
    simp only [Op.bytesLess, rkL, Bool.and_false, Bool.or_false, Bool.and_eq_true, Bool.or_eq_true, decide_eq_true_eq, beq_iff_eq, UInt8.lt_iff_toNat_lt, ← UInt8.toNat_inj]
    omega
  | a :: b :: c :: d, _, h, _ => by simp at h
  | _, a :: b :: c :: d, _, h => by simp at h
theorem size_data (s : ByteArray) : s.data.toList.length = s.size := by rw [Array.length_toList]; rfl
theorem less_rk {a b : ByteArray} (ha : a.size ≤ 2) (hb : b.size ≤ 2) : Op.bytesLess a.toList b.toList = decide (rk a < rk b) := by
  rw [ByteArray.toList_eq, ByteArray.toList_eq]
  exact less_rkL (by rw [size_data]; exact ha) (by rw [size_data]; exact hb)
theorem rkL_inj : ∀ {a b : List UInt8}, a.length ≤ 2 → b.length ≤ 2 → rkL a = rkL b → a = b
  | [], [], _, _, _ => rfl
  | [], [x], _, _, h => by simp only [rkL] at h; omega
  | [], x :: y :: z, _, _, h => by simp only [rkL] at h; omega
  | [a], [], _, _, h => by simp only [rkL] at h; omega
  | [a], [x], _, _, h => by
    simp only [rkL] at h
    rw [UInt8.toNat_inj.1 (show a.toNat = x.toNat by omega)]
  | [a], [x, y], _, _, h => by
    simp only [rkL] at h
    have h2 := y.toNat_lt
    omega
  | [a, b], [], _, _, h => by simp only [rkL] at h; omega
  | [a, b], [x], _, _, h => by
    simp only [rkL] at h
    have h2 := b.toNat_lt
    omega
  | [a, b], [x, y], _, _, h => by
    simp only [rkL] at h
    have h2 := b.toNat_lt
    have h4 := y.toNat_lt
    rw [UInt8.toNat_inj.1 (show a.toNat = x.toNat by omega), UInt8.toNat_inj.1 (show b.toNat = y.toNat by omega)]
  | a :: b :: c :: d, _, h, _, _ => by simp at h
  | _, a :: b :: c :: d, _, h, _ => by simp at h
theorem rk_inj {a b : ByteArray} (ha : a.size ≤ 2) (hb : b.size ≤ 2) (h : rk a = rk b) : a = b := by
  have := rkL_inj (by rw [size_data]; exact ha) (by rw [size_data]; exact hb) h
  cases a; cases b
  congr 1
  exact Array.ext' this
theorem rk_estr : rk estr = 0 := rfl
theorem rk_pos {a : ByteArray} (h : 1 ≤ a.size) : 0 < rk a := by
  unfold rk
  have := size_data a
  cases hd : a.data.toList with
  | nil => rw [hd] at this; simp at this; omega
  | cons x l =>
    cases l <;> simp only [rkL] <;> omega
/-! ### buffers -/
def Buf (w : World) (b : Option Addr) (l c : Nat) (v : List Int) : Prop := Row w b l c 1 T_uint8 (U8 v) ∧ IsB v
theorem Buf.len {w : World} {b : Option Addr} {l c : Nat} {v : List Int} (h : Buf w b l c v) : l = v.length := by
  have := h.1.1
  rw [U8_length] at this
  omega
theorem Buf.rd {w : World} {b : Option Addr} {l c : Nat} {v : List Int} (h : Buf w b l c v) : Rd w b v := by
  refine ⟨h.2, ?_⟩
  rcases h.1.2.2 with ⟨rfl, hc⟩ | ⟨k, cs, rfl, ho, hs, ht⟩
  · left
    have h1 := h.len
    have h2 := h.1.2.1
    exact List.eq_nil_of_length_eq_zero (by omega)
  · refine .inr ⟨k, 0, rfl, ho.lt, fun i x hx => ?_⟩
    refine ho.cell ?_
    rw [Nat.zero_add]
    have e : (U8 v)[i]? = some (.int .u8 x) := by rw [U8_get, hx]; rfl
    rw [← ht, List.getElem?_take] at e
    split at e
    · simpa using e
    · cases e
theorem Buf.str {w : World} {b : Option Addr} {l c : Nat} {v : List Int} {K : ByteArray → Prop} (h : Buf w b l c v) (hk : K (bStr v)) : ToStr b l w K := toStr_rd h.rd h.len.symm hk
theorem Buf.ext {w w' : World} {b : Option Addr} {l c : Nat} {v : List Int} {S : List Nat} (h : Buf w b l c v) (he : Ext S w w') (hs : ∀ k ∈ rowBlk b, k ∉ S) : Buf w' b l c v := ⟨h.1.ext he hs, h.2⟩
theorem Buf.ext0 {w w' : World} {b : Option Addr} {l c : Nat} {v : List Int} (h : Buf w b l c v) (he : Ext [] w w') : Buf w' b l c v := h.ext he (fun _ _ h => by cases h)
theorem Buf.lt {w : World} {b : Option Addr} {l c : Nat} {v : List Int} (h : Buf w b l c v) : ∀ k ∈ rowBlk b, k < w.heap.size := h.1.lt
theorem Buf.make {w : World} {n : Int} {K : Nat → World → Prop} (h0 : 0 ≤ n) (h1 : n ≤ 1000000)
    (h : ∀ r w', r = w.heap.size → w'.heap.size = r + 1 → Buf w' (some ⟨r, 0, none⟩) 0 n.toNat [] → Ext [] w w' → K r w') : Make T_uint8 (.int .u8 0) 1 1 0 n w K := by
  refine Make.mk (by omega) h0 (by omega) (by omega) fun r w' hr hs ho he => h r w' hr hs ⟨⟨rfl, Nat.zero_le _, .inr ⟨r, _, rfl, ho, ?_, ?_⟩⟩, IsB.nil⟩ he
  · rw [show (Value.int .u8 0).cells = #[Value.int .u8 0] from rfl, madeCells_one]
    simp
  · simp [U8]
theorem Buf.app {w : World} {b : Option Addr} {l c : Nat} {v : List Int} (xs : List Int) {K : Option Addr → Nat → World → Prop} (h : Buf w b l c v) (hx : IsB xs) (hl : v.length + xs.length ≤ 1000000)
    (hK : ∀ b' c' w', Buf w' b' (l + xs.length) c' (v ++ xs) → Ext (rowBlk b) w w' → Grew w (rowBlk b) (rowBlk b') → K b' c' w') :
    New (.cells (U8 xs).toArray T_uint8) w fun r w1 => Append T_uint8 (.int .u8 0) 1 1 b l c (some ⟨r, 0, none⟩) xs.length w1 K := by
  refine New.mk fun r w1 hr hs ho he => ?_
  have hr1 := h.1.ext he (fun _ _ h => by cases h)
  have hlen := h.len
  refine Vc.Append.mk (news := U8 xs) hr1 (CellsAt.own ho fun j x hj => by simpa using hj) (by rw [U8_length]; omega) rfl (U8_all _) (by omega) (by omega) fun b' c' w' hrow hext hg => ?_
  refine hK b' c' w' ⟨?_, h.2.append hx⟩ (he.nil.trans hext) fun k hk => ?_
  · have e : U8 (v ++ xs) = U8 v ++ U8 xs := by simp [U8]
    rw [e]
    exact hrow
  · rcases hg k hk with h1 | h1
    · exact .inl h1
    · exact .inr (by omega)
theorem wrap8_bd (x : Int) : 0 ≤ IntKind.u8.wrap x ∧ IntKind.u8.wrap x < 256 := wrap8_isB x
theorem IsB.one {x : Int} (h : 0 ≤ x ∧ x < 256) : IsB [x] := fun y hy => by
  rw [List.mem_singleton] at hy
  subst hy
  exact h
theorem take_strB_succ {s : ByteArray} {i : Nat} (h : i < s.size) : (strB s).take i ++ [byteAt s (i : Int)] = (strB s).take (i + 1) := by
  rw [List.take_add_one, strB_get h]
  rfl
end Go.Proofs.Qxb6500430aGreat.Kv
