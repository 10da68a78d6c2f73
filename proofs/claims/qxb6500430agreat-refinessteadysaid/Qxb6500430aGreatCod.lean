/-
  Numbers of eight bytes, strings behind a length byte: api.PutU64, api.GetU64, api.putStr.
-/
import Derived.Test.Qxb6500430aGreatStr
set_option linter.unusedVariables false
open Go.Vc
namespace Go.Proofs.Qxb6500430aGreat.Kv

theorem wu64 {x : Int} (h0 : 0 ≤ x) (h1 : x < 18446744073709551616) : IntKind.u64.wrap x = x := by
  simp only [IntKind.wrap, IntKind.signed, IntKind.bits, Bool.false_and, Bool.false_eq_true, if_false]
  have e : (2 : Int) ^ (64 : Nat) = 18446744073709551616 := by decide
  rw [e]
  omega
def enc8 (v : Int) : List Int := [v / 72057594037927936 % 256, v / 281474976710656 % 256, v / 1099511627776 % 256, v / 4294967296 % 256, v / 16777216 % 256, v / 65536 % 256, v / 256 % 256, v % 256]
theorem enc8_isB (v : Int) : IsB (enc8 v) := by
  intro x hx
  simp only [enc8, List.mem_cons, List.not_mem_nil, or_false] at hx
  rcases hx with h | h | h | h | h | h | h | h <;> subst h <;> omega
theorem enc8_length (v : Int) : (enc8 v).length = 8 := rfl
theorem putU64_ok {w : World} {b : Option Addr} {l c : Nat} {v : List Int} {x : Int} {R : Option Addr → Nat → Nat → World → Prop} (h : Buf w b l c v) (hx : 0 ≤ x ∧ x < 18446744073709551616) (hl : v.length ≤ 900000)
    (hR : ∀ b' l' c' w', Buf w' b' l' c' (v ++ enc8 x) → Ext (rowBlk b) w w' → Grew w (rowBlk b) (rowBlk b') → R b' l' c' w') : api_PutU64.Call b l c x w R := by
  apply api_PutU64.sound
  unfold api_PutU64.B0
  refine ⟨by omega, by omega, by omega, by omega, by omega, by omega, by omega, ?_⟩
  rw [wu64 hx.1 hx.2]
  have p : ∀ (k : Int) (m : Int), 0 < m → (2 : Int) ^ (min k.toNat IntKind.u64.bits) = m → IntKind.u8.wrap (x.fdiv (2 ^ (min k.toNat IntKind.u64.bits))) = x / m % 256 := fun k m hm he => by
    rw [he, wrap8_eq, Int.fdiv_eq_ediv_of_nonneg _ (Int.le_of_lt hm)]
  rw [p 56 72057594037927936 (by omega) (by decide), p 48 281474976710656 (by omega) (by decide), p 40 1099511627776 (by omega) (by decide), p 32 4294967296 (by omega) (by decide), p 24 16777216 (by omega) (by decide), p 16 65536 (by omega) (by decide), p 8 256 (by omega) (by decide), wrap8_eq]
  exact Buf.app (enc8 x) h (enc8_isB x) (by rw [enc8_length]; omega) fun b' c' w' hb he hg => hR b' _ c' w' hb he hg
def dec8 (L : List Int) : Int := L.foldl (fun v c => v * 256 + c) 0
def u8step (v c : Int) : Int := IntKind.u64.wrap (BitVec.ofInt IntKind.u64.bits (IntKind.u64.wrap (v * 2 ^ (min (8 : Int).toNat IntKind.u64.bits))) ||| BitVec.ofInt IntKind.u64.bits (IntKind.u64.wrap c)).toNat
theorem u8step_eq {V c : Int} (h0 : 0 ≤ V) (hc : 0 ≤ c ∧ c < 256) (hb : V * 256 + c < 18446744073709551616) : u8step V c = V * 256 + c := by
  unfold u8step
  have e3 : (2 : Int) ^ (min (8 : Int).toNat IntKind.u64.bits) = 256 := by decide
  rw [e3, wu64 (x := V * 256) (by omega) (by omega), wu64 (x := c) (by omega) (by omega)]
  obtain ⟨a, rfl⟩ : ∃ a : Nat, V = a := ⟨V.toNat, by omega⟩
  obtain ⟨b, rfl⟩ : ∃ b : Nat, c = b := ⟨c.toNat, by omega⟩
  have c1 : (a : Int) * 256 = ((a * 256 : Nat) : Int) := by simp
  have n1 : (BitVec.ofInt IntKind.u64.bits ((a * 256 : Nat) : Int)).toNat = a * 256 := by
    rw [BitVec.toNat_ofInt]
    have : (2 ^ IntKind.u64.bits : Nat) = 18446744073709551616 := by decide
    rw [this]
    omega
  have n2 : (BitVec.ofInt IntKind.u64.bits (b : Int)).toNat = b := by
    rw [BitVec.toNat_ofInt]
    have : (2 ^ IntKind.u64.bits : Nat) = 18446744073709551616 := by decide
    rw [this]
    omega
  have o : (a * 256 ||| b) = a * 256 + b := by
    have := Nat.shiftLeft_add_eq_or_of_lt (i := 8) (b := b) (by omega) a
    rw [Nat.shiftLeft_eq] at this
    have e : (2 : Nat) ^ 8 = 256 := by decide
    rw [e] at this
    exact this.symm
  rw [c1, BitVec.toNat_or, n1, n2, o, wu64 (by omega) (by omega)]
  omega
theorem dec8_snoc (L : List Int) (c : Int) : dec8 (L ++ [c]) = dec8 L * 256 + c := by simp [dec8]
theorem dec8_bd : ∀ (n : Nat) {L : List Int}, IsB L → L.length = n → n ≤ 8 → 0 ≤ dec8 L ∧ dec8 L < 256 ^ n
  | 0, L, h, hl, _ => by
    have : L = [] := List.eq_nil_of_length_eq_zero hl
    subst this
    exact ⟨by decide, by decide⟩
  | n + 1, L, h, hl, hn => by
    obtain ⟨L', c, rfl⟩ : ∃ L' c, L = L' ++ [c] := by
      rcases List.eq_nil_or_concat L with rfl | ⟨L', y, h⟩
      · simp at hl
      · exact ⟨L', y, by rw [h, List.concat_eq_append]⟩
    have ih := dec8_bd n h.left (by simpa using hl) (by omega)
    have hc := h.right c (by simp)
    rw [dec8_snoc, Int.pow_succ]
    omega
theorem list8 {L : List Int} (h : L.length = 8) : ∃ a b c d e f g i, L = [a, b, c, d, e, f, g, i] := by
  match L, h with
  | [a, b, c, d, e, f, g, i], _ => exact ⟨a, b, c, d, e, f, g, i, rfl⟩
theorem dec8_enc8 {v : Int} (h0 : 0 ≤ v) (h1 : v < 18446744073709551616) : dec8 (enc8 v) = v := by
  show (((((((0 * 256 + v / 72057594037927936 % 256) * 256 + v / 281474976710656 % 256) * 256 + v / 1099511627776 % 256) * 256 + v / 4294967296 % 256) * 256 + v / 16777216 % 256) * 256 + v / 65536 % 256) * 256 + v / 256 % 256) * 256 + v % 256 = v
  omega
theorem enc8_dec8 {L : List Int} (h : IsB L) (hl : L.length = 8) : enc8 (dec8 L) = L := by
  obtain ⟨a, b, c, d, e, f, g, i, rfl⟩ := list8 hl
  have ha := h a (by simp)
  have hb := h b (by simp)
  have hc := h c (by simp)
  have hd := h d (by simp)
  have he := h e (by simp)
  have hf := h f (by simp)
  have hg := h g (by simp)
  have hi := h i (by simp)
  have e0 : dec8 [a, b, c, d, e, f, g, i] = (((((((0 * 256 + a) * 256 + b) * 256 + c) * 256 + d) * 256 + e) * 256 + f) * 256 + g) * 256 + i := rfl
  rw [e0]
  unfold enc8
  congr 1
  · omega
  congr 1
  · omega
  congr 1
  · omega
  congr 1
  · omega
  congr 1
  · omega
  congr 1
  · omega
  congr 1
  · omega
  congr 1
  omega
theorem pow7 {n : Nat} (h : n ≤ 7) : (256 : Int) ^ n ≤ 72057594037927936 := by
  have : n = 0 ∨ n = 1 ∨ n = 2 ∨ n = 3 ∨ n = 4 ∨ n = 5 ∨ n = 6 ∨ n = 7 := by omega
  rcases this with rfl | rfl | rfl | rfl | rfl | rfl | rfl | rfl <;> decide
/-- What GetU64 reads at off. -/
def gU (s : ByteArray) (off : Int) : Int := if off < 0 ∨ (s.size : Int) - 8 < off then -1 else if 72057594037927936 < dec8 (((strB s).drop off.toNat).take 8) then -1 else dec8 (((strB s).drop off.toNat).take 8)
theorem getU64_ok {w : World} {s : ByteArray} {off : Int} {R : Int → World → Prop} (hs : s.size ≤ 281474976710656) (hR : R (gU s off) w) : api_GetU64.Call s off w R := by
  apply api_GetU64.sound
  unfold api_GetU64.B0
  have bad : (off < 0 ∨ (s.size : Int) - 8 < off) → api_GetU64.B1 s off true w R := fun h => by
    unfold api_GetU64.B1
    refine Bm.pos rfl ?_
    unfold gU at hR
    rw [if_pos h] at hR
    exact hR
  refine Bm.ite (fun h => bad (.inl h)) fun h => ?_
  rw [w64 (by omega) (by omega)]
  by_cases h2 : (s.size : Int) - 8 < off
  · rw [decide_eq_true (by omega)]
    exact bad (.inr h2)
  rw [decide_eq_false (by omega)]
  unfold api_GetU64.B1
  unfold gU at hR
  rw [if_neg (by omega)] at hR
  obtain ⟨p, rfl⟩ : ∃ p : Nat, off = p := ⟨off.toNat, by omega⟩
  rw [Int.toNat_natCast] at hR
  have hB : IsB ((strB s).drop p) := (strB_isB s).drop p
  refine Bm.neg rfl ⟨fun m s' off' v i w' => ∃ n : Nat, n ≤ 8 ∧ m = 8 - n ∧ s = s' ∧ (p : Int) = off' ∧ v = dec8 (((strB s).drop p).take n) ∧ i = (n : Int) ∧ w = w', _, ⟨0, by omega, rfl, rfl, rfl, by rw [List.take_zero]; rfl, rfl, rfl⟩, ?_⟩
  rintro m s' off' v i w' ⟨n, hn, rfl, rfl, rfl, rfl, rfl, rfl⟩
  unfold api_GetU64.L1b
  refine Bm.ite (fun hlt => ⟨by omega, ?_⟩) fun hge => ?_
  · rw [w64 (x := (p : Int) + (n : Int)) (by omega) (by omega)]
    refine ⟨⟨by omega, by omega⟩, 8 - (n + 1), by omega, n + 1, by omega, rfl, rfl, rfl, ?_, by rw [w64 (by omega) (by omega)]; omega, rfl⟩
    show u8step _ _ = _
    have hbd := dec8_bd n (hB.take n) (by rw [List.length_take, List.length_drop, strB_length]; omega) (by omega)
    have hx := byteAt_bd s ((p : Int) + (n : Int))
    have h7 : (256 : Int) ^ n ≤ 72057594037927936 := by
      have h7' : n ≤ 7 := by omega
      exact pow7 h7'
    rw [u8step_eq hbd.1 hx (by omega)]
    have e : ((strB s).drop p).take (n + 1) = ((strB s).drop p).take n ++ [byteAt s ((p : Int) + (n : Int))] := by
      rw [List.take_add_one, List.getElem?_drop, strB_get (by omega)]
      rfl
    rw [e, dec8_snoc]
  · have e8 : n = 8 := by omega
    subst e8
    refine Bm.ite (fun hgt => ?_) fun hle => ?_
    · rw [if_pos (by omega)] at hR
      exact hR
    · rw [if_neg (by omega)] at hR
      have hbd := dec8_bd 8 (hB.take 8) (by rw [List.length_take, List.length_drop, strB_length]; omega) (by omega)
      rw [w64 (by omega) (by omega)]
      exact hR
/-! ### a string behind its length -/
theorem putStr_ok {w : World} {b : Option Addr} {l c : Nat} {v : List Int} {s : ByteArray} {R : Option Addr → Nat → Nat → World → Prop} (h : Buf w b l c v) (hs : s.size ≤ 255) (hl : v.length ≤ 900000)
    (hR : ∀ b' l' c' w', Buf w' b' l' c' (v ++ ((s.size : Int) :: strB s)) → Ext (rowBlk b) w w' → Grew w (rowBlk b) (rowBlk b') → R b' l' c' w') : api_putStr.Call b l c s w R := by
  apply api_putStr.sound
  unfold api_putStr.B0
  rw [wrap8_id (by omega) (by omega)]
  refine Buf.app [(s.size : Int)] h (IsB.one (by omega)) (by simp; omega) fun b1 c1 w1 hb1 he1 hg1 => ?_
  refine ⟨fun m b2 l2 c2 s' i w2 => ∃ n : Nat, n ≤ s.size ∧ m = s.size - n ∧ s = s' ∧ i = (n : Int) ∧ Buf w2 b2 l2 c2 (v ++ [(s.size : Int)] ++ (strB s).take n) ∧ Ext (rowBlk b) w w2 ∧ Grew w (rowBlk b) (rowBlk b2), _,
    ⟨0, Nat.zero_le _, rfl, rfl, rfl, by rw [List.take_zero, List.append_nil]; exact hb1, he1, hg1⟩, ?_⟩
  rintro m b2 l2 c2 s' i w2 ⟨n, hn, rfl, rfl, rfl, hb, he, hg⟩
  unfold api_putStr.L1b
  refine Bm.ite (fun hlt => ⟨⟨by omega, hlt⟩, ?_⟩) fun hge => ?_
  · refine Buf.app [byteAt s (n : Int)] hb (IsB.one (byteAt_bd _ _)) (by
      simp only [List.length_append, List.length_take, List.length_cons, List.length_nil]
      omega) fun b3 c3 w3 hb3 he3 hg3 => ?_
    rw [List.append_assoc, take_strB_succ (by omega)] at hb3
    refine ⟨_, ?_, n + 1, by omega, rfl, rfl, by rw [w64 (by omega) (by omega)]; omega, hb3, he.trans' he3 (fun x hx hl => ?_), hg.trans he.size hg3⟩
    · omega
    · rcases hg x hx with h1 | h1
      · exact h1
      · omega
  · have e : n = s.size := by omega
    subst e
    rw [List.take_of_length_le (by rw [strB_length]; omega), List.append_assoc] at hb
    exact hR _ _ _ _ hb he hg
/-! ### reading on lists of bytes -/
/-- A string of lo .. hi bytes behind a length byte. -/
def takeS (lo hi : Int) : List Int → Option (ByteArray × List Int)
  | [] => none
  | n :: L => if lo ≤ n ∧ n ≤ hi ∧ n ≤ (L.length : Int) then some (bStr (L.take n.toNat), L.drop n.toNat) else none
theorem takeS_cons (lo hi n : Int) (L : List Int) : takeS lo hi (n :: L) = if lo ≤ n ∧ n ≤ hi ∧ n ≤ (L.length : Int) then some (bStr (L.take n.toNat), L.drop n.toNat) else none := rfl
def putS (s : ByteArray) : List Int := (s.size : Int) :: strB s
/-- A number of 0 .. 1<<56. -/
def takeN (L : List Int) : Option (Int × List Int) := if 8 ≤ L.length ∧ dec8 (L.take 8) ≤ 72057594037927936 then some (dec8 (L.take 8), L.drop 8) else none
theorem putS_isB {s : ByteArray} (h : s.size ≤ 255) : IsB (putS s) := by
  intro x hx
  rcases List.mem_cons.1 hx with rfl | hx
  · omega
  · exact strB_isB s x hx
theorem takeS_put {lo hi : Int} {s : ByteArray} {L : List Int} (h1 : lo ≤ s.size) (h2 : (s.size : Int) ≤ hi) : takeS lo hi (putS s ++ L) = some (s, L) := by
  show takeS lo hi ((s.size : Int) :: (strB s ++ L)) = _
  rw [takeS_cons, if_pos ⟨h1, h2, by rw [List.length_append, strB_length]; omega⟩, Int.toNat_natCast]
  have e1 : (strB s ++ L).take s.size = strB s := by rw [← strB_length s, List.take_left]
  have e2 : (strB s ++ L).drop s.size = L := by rw [← strB_length s, List.drop_left]
  rw [e1, e2, bStr_strB]
theorem takeS_inv {lo hi : Int} {s : ByteArray} {L M : List Int} (hL : IsB L) (h0 : 0 ≤ lo) (h : takeS lo hi L = some (s, M)) : L = putS s ++ M ∧ lo ≤ s.size ∧ (s.size : Int) ≤ hi ∧ IsB M := by
  cases L with
  | nil => cases h
  | cons n L =>
    rw [takeS_cons] at h
    split at h
    · rename_i hc
      simp only [Option.some.injEq, Prod.mk.injEq] at h
      obtain ⟨rfl, rfl⟩ := h
      have hB : IsB (L.take n.toNat) := (IsB.right (u := [n]) hL).take _
      have e := strB_bStr hB
      have hsz : (bStr (L.take n.toNat)).size = n.toNat := by rw [bStr_size, List.length_take]; omega
      refine ⟨?_, by omega, by omega, (IsB.right (u := [n]) hL).drop _⟩
      unfold putS
      rw [e, hsz, List.cons_append, List.take_append_drop]
      congr 1
      omega
    · cases h
theorem takeN_put {v : Int} {L : List Int} (h0 : 0 ≤ v) (h1 : v ≤ 72057594037927936) : takeN (enc8 v ++ L) = some (v, L) := by
  unfold takeN
  have e1 : (enc8 v ++ L).take 8 = enc8 v := List.take_left' (enc8_length v)
  have e2 : (enc8 v ++ L).drop 8 = L := List.drop_left' (enc8_length v)
  rw [e1, e2, dec8_enc8 h0 (by omega), if_pos ⟨by rw [List.length_append, enc8_length]; omega, h1⟩]
theorem takeN_inv {v : Int} {L M : List Int} (hL : IsB L) (h : takeN L = some (v, M)) : L = enc8 v ++ M ∧ 0 ≤ v ∧ v ≤ 72057594037927936 ∧ IsB M := by
  unfold takeN at h
  split at h
  · rename_i hc
    simp only [Option.some.injEq, Prod.mk.injEq] at h
    obtain ⟨rfl, rfl⟩ := h
    have hl : (L.take 8).length = 8 := by rw [List.length_take]; omega
    refine ⟨?_, (dec8_bd 8 (hL.take 8) hl (by omega)).1, hc.2, hL.drop _⟩
    rw [enc8_dec8 (hL.take 8) hl, List.take_append_drop]
  · cases h
theorem drop_at {s : ByteArray} {p : Nat} (h : p < s.size) : (strB s).drop p = byteAt s (p : Int) :: (strB s).drop (p + 1) := by
  have hl := strB_length s
  rw [List.drop_eq_getElem_cons (by omega)]
  congr 1
  have := strB_get h
  rw [List.getElem?_eq_getElem (by omega)] at this
  exact Option.some.inj this
/-- A string cut out. -/
theorem cut_eq {s : ByteArray} {p n : Nat} (h : p + n ≤ s.size) : s.extract p (p + n) = bStr (((strB s).drop p).take n) := by
  apply str_inj
  rw [strB_extract, strB_bStr (((strB_isB s).drop p).take n), List.drop_take]
  congr 1
  omega
end Go.Proofs.Qxb6500430aGreat.Kv
