/-
  store: bytes of blocks; numbers written and read again.
-/
import Derived.Test.Qxb6500430aGreatOpen
set_option linter.unusedVariables false
set_option linter.unusedSimpArgs false
open Go.Vc
namespace Go.Proofs.Qxb6500430aGreat

def ofI (v : Int) : UInt8 := UInt8.ofNat (v % 256).toNat
theorem ofI_val (v : Int) : ((ofI v).toNat : Int) = v % 256 := by
  unfold ofI
  have e : (UInt8.ofNat (v % 256).toNat).toNat = (v % 256).toNat % 256 := by simp
  rw [e]
  omega
theorem w8_ofI (v : Int) : IntKind.u8.wrap v = ((ofI v).toNat : Int) := by rw [ofI_val, wrap8_eq]
/-- A block of 64 bytes in the making. -/
def u8c (g : Nat → UInt8) (j : Nat) : Value := .int .u8 ((g j).toNat : Int)
def Blk (w : World) (k : Nat) (g : Nat → UInt8) : Prop := Own w k (fnArr 64 (u8c g)) T_uint8
def setB (g : Nat → UInt8) (i : Nat) (v : UInt8) : Nat → UInt8 := fun j => if j = i then v else g j
theorem Blk.set {w : World} {k i : Nat} {g : Nat → UInt8} {v : Int} {u : UInt8} {K : World → Prop} (h : Blk w k g) (hi : i < 64) (hv : v = (u.toNat : Int)) (hK : ∀ w', w'.heap.size = w.heap.size → Blk w' k (setB g i u) → Ext [k] w w' → K w') : Sts [.int .u8 v] ⟨k, i, none⟩ 0 w K := by
  subst hv
  refine Sts.fn h (by simp; omega) rfl (fun j hj => ?_) fun w' hs ho he => hK w' hs ho he
  unfold fnPut setB u8c
  by_cases e : j = i
  · subst e
    rw [if_pos (by simp)]
    simp
  · rw [if_neg (by simp; omega)]
    simp [e]
theorem Blk.ext {w w' : World} {k : Nat} {g : Nat → UInt8} {S : List Nat} (h : Blk w k g) (he : Ext S w w') (hs : k ∉ S) : Blk w' k g := he.own h hs
theorem Blk.drew {w : World} {k : Nat} {g : Nat → UInt8} (h : Blk w k g) : Blk w.drew k g := Own.drew h
theorem blk_make {w : World} {K : Nat → World → Prop} (h : ∀ k w', k = w.heap.size → w'.heap.size = k + 1 → Blk w' k (fun _ => 0) → Ext [] w w' → K k w') : Make T_uint8 (.int .u8 0) 1 1 64 64 w K := by
  refine Make.mk (by omega) (by omega) (by omega) (by omega) fun k w' hk hs ho he => h k w' hk hs ?_ he
  have e : madeCells (Value.cells (.int .u8 0)) ((64 : Int).toNat * 1) = fnArr 64 (u8c fun _ => 0) := by
    rw [show Value.cells (.int .u8 0) = #[Value.int .u8 0] from rfl, madeCells_one]
    refine fnArr_ext (by simp) fun j hj => ?_
    rw [Array.getElem?_replicate, if_pos (by simpa using hj)]
    rfl
  rw [e] at ho
  exact ho
theorem Blk.str {w : World} {k : Nat} {g : Nat → UInt8} {K : ByteArray → Prop} (h : Blk w k g) (hk : K (mkStr 64 g)) : ToStr (some ⟨k, 0, none⟩) 64 w K := ToStr.fn h (Nat.le_refl _) (fun j hj => rfl) hk

/-! ### numbers of eight bytes -/
def put8F (g : Nat → UInt8) (p : Nat) (v : Int) : Nat → UInt8 := fun j => if p ≤ j ∧ j < p + 8 then ofI (v / 256 ^ (7 - (j - p))) else g j
theorem put8_ok {w : World} {k p : Nat} {v : Int} {g : Nat → UInt8} {R : Option Addr → Nat → Nat → World → Prop} (h : Blk w k g) (hp : p ≤ 56)
    (hR : ∀ w', w'.heap.size = w.heap.size → Blk w' k (put8F g p v) → Ext [k] w w' → R (some ⟨k, 0, none⟩) 64 64 w') : store_put8.Call (some ⟨k, 0, none⟩) 64 64 (p : Int) v w R := by
  apply store_put8.sound
  unfold store_put8.B0 store_put8.L1
  refine ⟨fun m b' l' c' p' v' i w' => some ⟨k, 0, none⟩ = b' ∧ 64 = l' ∧ 64 = c' ∧ (p : Int) = p' ∧ -1 ≤ i ∧ i ≤ 7 ∧ m = (i + 1).toNat ∧ v' = v / 256 ^ (7 - i).toNat ∧ w'.heap.size = w.heap.size ∧ Ext [k] w w' ∧ Blk w' k (fun j => if p + (i + 1).toNat ≤ j ∧ j < p + 8 then ofI (v / 256 ^ (7 - (j - p))) else g j), 8,
    ⟨rfl, rfl, rfl, rfl, by omega, by omega, rfl, by simp, rfl, Ext.refl _ _, ?_⟩, ?_⟩
  · have e : (fun j => if p + ((7 : Int) + 1).toNat ≤ j ∧ j < p + 8 then ofI (v / 256 ^ (7 - (j - p))) else g j) = g := by
      funext j
      rw [if_neg (by omega)]
    rw [e]
    exact h
  rintro m b' l' c' p' v' i w' ⟨rfl, rfl, rfl, rfl, i0, i1, rfl, rfl, hs, hE, hb⟩
  unfold store_put8.L1b
  refine Bm.ite (fun hi => ?_) (fun hi => ?_)
  · have e1 : IntKind.i64.wrap ((p : Int) + i) = (p : Int) + i := w64 (by omega) (by omega)
    have e2 : IntKind.i64.wrap (i - 1) = i - 1 := w64 (by omega) (by omega)
    rw [e1, e2]
    refine Pn.mk ⟨⟨by omega, by omega⟩, ?_⟩
    rw [add_mk, Nat.zero_add, Nat.mul_one, show ((p : Int) + i).toNat = p + i.toNat by omega]
    refine hb.set (by omega) (w8_ofI _) fun w2 hs2 hb2 he2 => ⟨by omega, (i - 1 + 1).toNat, by omega, rfl, rfl, rfl, rfl, by omega, by omega, rfl, ?_, by omega, hE.trans he2, ?_⟩
    · have e3 : (2 : Int) ^ (min (8 : Int).toNat IntKind.i64.bits) = 256 := by decide
      rw [e3, Int.fdiv_eq_ediv_of_nonneg _ (by omega), Int.ediv_ediv_of_nonneg (Int.pow_nonneg (by omega))]
      congr 1
      rw [show (7 - (i - 1)).toNat = (7 - i).toNat + 1 by omega, Int.pow_succ]
    · have e4 : (setB (fun j => if p + (i + 1).toNat ≤ j ∧ j < p + 8 then ofI (v / 256 ^ (7 - (j - p))) else g j) (p + i.toNat) (ofI (v / 256 ^ (7 - i).toNat))) = fun j => if p + (i - 1 + 1).toNat ≤ j ∧ j < p + 8 then ofI (v / 256 ^ (7 - (j - p))) else g j := by
        funext j
        unfold setB
        by_cases ej : j = p + i.toNat
        · subst ej
          rw [if_pos rfl, if_pos (by omega), show 7 - (p + i.toNat - p) = (7 - i).toNat by omega]
        · rw [if_neg ej]
          show (if p + (i + 1).toNat ≤ j ∧ j < p + 8 then ofI (v / 256 ^ (7 - (j - p))) else g j) = _
          by_cases c1 : p + (i + 1).toNat ≤ j ∧ j < p + 8
          · rw [if_pos c1, if_pos (by omega)]
          · rw [if_neg c1, if_neg (by omega)]
      rw [e4] at hb2
      exact hb2
  · refine hR w' hs ?_ hE
    have e : (fun j => if p + (i + 1).toNat ≤ j ∧ j < p + 8 then ofI (v / 256 ^ (7 - (j - p))) else g j) = put8F g p v := by
      funext j
      unfold put8F
      rw [show (i + 1).toNat = 0 by omega, Nat.add_zero]
    rw [e] at hb
    exact hb

theorem byte_mk {f : Nat → UInt8} {n i : Nat} (h : i < n) : byteAt (mkStr n f) (i : Int) = ((f i).toNat : Int) := by
  unfold byteAt
  rw [Int.toNat_natCast, mkStr_get f h]
theorem g8step_eq {V c : Int} (h0 : 0 ≤ V) (hc : 0 ≤ c ∧ c < 256) (hb : V * 256 + c < 9223372036854775808) : g8step V c = V * 256 + c := by
  unfold g8step
  have e3 : (2 : Int) ^ (min (8 : Int).toNat IntKind.i64.bits) = 256 := by decide
  rw [e3, w64 (x := V * 256) (by omega) (by omega), w64 (x := c) (by omega) (by omega)]
  obtain ⟨a, rfl⟩ : ∃ a : Nat, V = a := ⟨V.toNat, by omega⟩
  obtain ⟨b, rfl⟩ : ∃ b : Nat, c = b := ⟨c.toNat, by omega⟩
  have c1 : (a : Int) * 256 = ((a * 256 : Nat) : Int) := by simp
  have n1 : (BitVec.ofInt IntKind.i64.bits ((a * 256 : Nat) : Int)).toNat = a * 256 := by
    rw [BitVec.toNat_ofInt]
    have : (2 ^ IntKind.i64.bits : Nat) = 18446744073709551616 := by decide
    rw [this]
    omega
  have n2 : (BitVec.ofInt IntKind.i64.bits (b : Int)).toNat = b := by
    rw [BitVec.toNat_ofInt]
    have : (2 ^ IntKind.i64.bits : Nat) = 18446744073709551616 := by decide
    rw [this]
    omega
  have o : (a * 256 ||| b) = a * 256 + b := by
    have := Nat.shiftLeft_add_eq_or_of_lt (i := 8) (b := b) (by omega) a
    rw [Nat.shiftLeft_eq] at this
    have e : (2 : Nat) ^ 8 = 256 := by decide
    rw [e] at this
    exact this.symm
  rw [c1, BitVec.toNat_or, n1, n2, o, w64 (by omega) (by omega)]
  omega
theorem get8_eq {b : ByteArray} {p v : Int} (h0 : 0 ≤ v) (h1 : v < 9223372036854775808) (hb : ∀ i : Nat, i < 8 → byteAt b (p + i) = v / 256 ^ (7 - i) % 256) : get8 b p = v := by
  have key : ∀ n : Nat, n ≤ 8 → get8N b p n = v / 256 ^ (8 - n) := by
    intro n
    induction n with
    | zero =>
      intro _
      have e : (256 : Int) ^ (8 - 0) = 18446744073709551616 := by decide
      rw [e]
      show (0 : Int) = _
      omega
    | succ n ih =>
      intro hn
      have ih' := ih (by omega)
      simp only [get8N]
      rw [ih', hb n (by omega)]
      have hp : (0 : Int) < 256 ^ (7 - n) := Int.pow_pos (by omega)
      generalize hU : v / 256 ^ (7 - n) = U
      have e1 : v / 256 ^ (8 - n) = U / 256 := by
        rw [← hU, Int.ediv_ediv_of_nonneg (Int.le_of_lt hp), show 8 - n = (7 - n) + 1 by omega, Int.pow_succ]
      have hU0 : 0 ≤ U := by rw [← hU]; exact Int.ediv_nonneg h0 (Int.le_of_lt hp)
      have hUv : U ≤ v := by rw [← hU]; exact Int.ediv_le_self _ h0
      rw [e1, g8step_eq (by omega) (by omega) (by omega), show 8 - (n + 1) = 7 - n by omega, hU]
      omega
  have := key 8 (Nat.le_refl _)
  unfold get8
  rw [this]
  simp
/-- What put8 has written is read again. -/
theorem get8_of {f : Nat → UInt8} {p : Nat} {v : Int} (h0 : 0 ≤ v) (h1 : v < 9223372036854775808) (hp : p ≤ 56) (hf : ∀ i : Nat, i < 8 → f (p + i) = ofI (v / 256 ^ (7 - i))) : get8 (mkStr 64 f) (p : Int) = v := by
  refine get8_eq h0 h1 fun i hi => ?_
  have e : (p : Int) + (i : Int) = ((p + i : Nat) : Int) := by omega
  rw [e, byte_mk (by omega), hf i hi, ofI_val]

/-! ### the encoders, plainly -/
def zeroF : Nat → UInt8 := fun _ => 0
def encMetaF (num term vote : Int) : Nat → UInt8 := setB (put8F (put8F zeroF 1 num) 9 term) 32 (ofI (vote + 1))
def encHeadF (num idx term area size : Int) : Nat → UInt8 := setB (setB (put8F (put8F (put8F zeroF 1 num) 9 idx) 32 term) 40 (ofI area)) 41 (ofI size)
def dataF (g : Nat → UInt8) (d : ByteArray) (n : Nat) : Nat → UInt8 := fun j => if 11 ≤ j ∧ j < 11 + n then ubyte d (j - 11) else g j
def encRecF (idx term : Int) (d : ByteArray) : Nat → UInt8 := put8F (dataF (setB (put8F (setB zeroF 1 1) 2 idx) 10 (ofI (d.size : Int))) d d.size) 35 term
def stampF (g : Nat → UInt8) (s : UInt8) : Nat → UInt8 := fun j => if j = 0 ∨ j = 63 then s else g j
theorem stampF_in {g : Nat → UInt8} {s : UInt8} {j : Nat} (h0 : j ≠ 0) (h1 : j ≠ 63) : stampF g s j = g j := by
  unfold stampF
  rw [if_neg (by omega)]
theorem whole_stamp {g : Nat → UInt8} {s : UInt8} (hs : s ≠ 0) : whole (mkStr 64 (stampF g s)) = true := by
  have hn : s.toNat ≠ 0 := fun e => hs (by
    apply UInt8.toNat_inj.1
    simpa using e)
  unfold whole
  have e0 : byteAt (mkStr 64 (stampF g s)) 0 = (s.toNat : Int) := byte_mk (i := 0) (by omega)
  have e1 : byteAt (mkStr 64 (stampF g s)) 63 = (s.toNat : Int) := byte_mk (i := 63) (by omega)
  rw [e0, e1]
  simp
  omega
theorem put8F_in {g : Nat → UInt8} {p i : Nat} {v : Int} (h : i < 8) : put8F g p v (p + i) = ofI (v / 256 ^ (7 - i)) := by
  unfold put8F
  rw [if_pos (by omega), show p + i - p = i by omega]
theorem put8F_out {g : Nat → UInt8} {p j : Nat} {v : Int} (h : j < p ∨ p + 8 ≤ j) : put8F g p v j = g j := by
  unfold put8F
  rw [if_neg (by omega)]
theorem setB_ne {g : Nat → UInt8} {i j : Nat} {u : UInt8} (h : j ≠ i) : setB g i u j = g j := by
  unfold setB
  rw [if_neg h]
theorem setB_eq {g : Nat → UInt8} {i : Nat} {u : UInt8} : setB g i u i = u := by
  unfold setB
  rw [if_pos rfl]
theorem decMeta_enc {num term vote : Int} {s : UInt8} (hs : s ≠ 0) (hn : 0 ≤ num ∧ num < 9223372036854775808) (ht : 0 ≤ term ∧ term < 9223372036854775808) (hv : -1 ≤ vote ∧ vote < 3) : decMeta (mkStr 64 (stampF (encMetaF num term vote) s)) = ⟨true, num, term, vote⟩ := by
  unfold decMeta
  rw [if_pos (whole_stamp hs)]
  have e1 : get8 (mkStr 64 (stampF (encMetaF num term vote) s)) 1 = num := get8_of (p := 1) hn.1 hn.2 (by omega) fun i hi => by
    rw [stampF_in (by omega) (by omega)]
    unfold encMetaF
    rw [setB_ne (by omega), put8F_out (by omega), put8F_in hi]
  have e2 : get8 (mkStr 64 (stampF (encMetaF num term vote) s)) 9 = term := get8_of (p := 9) ht.1 ht.2 (by omega) fun i hi => by
    rw [stampF_in (by omega) (by omega)]
    unfold encMetaF
    rw [setB_ne (by omega), put8F_in hi]
  have e3 : byteAt (mkStr 64 (stampF (encMetaF num term vote) s)) 32 = vote + 1 := by
    have := byte_mk (f := stampF (encMetaF num term vote) s) (n := 64) (i := 32) (by omega)
    rw [stampF_in (by omega) (by omega)] at this
    unfold encMetaF at this
    rw [setB_eq, ofI_val] at this
    have h2 : ((32 : Nat) : Int) = 32 := rfl
    rw [h2] at this
    unfold encMetaF
    rw [this]
    omega
  rw [e1, e2, e3]
  congr 1
  omega
theorem decHead_enc {num idx term area size : Int} {s : UInt8} (hs : s ≠ 0) (hn : 0 ≤ num ∧ num < 9223372036854775808) (hi : 0 ≤ idx ∧ idx < 9223372036854775808) (ht : 0 ≤ term ∧ term < 9223372036854775808) (ha : 0 ≤ area ∧ area ≤ 1) (hz : 0 ≤ size ∧ size ≤ 128) : decHead (mkStr 64 (stampF (encHeadF num idx term area size) s)) = ⟨true, num, idx, term, area, size⟩ := by
  have b40 : byteAt (mkStr 64 (stampF (encHeadF num idx term area size) s)) 40 = area := by
    have := byte_mk (f := stampF (encHeadF num idx term area size) s) (n := 64) (i := 40) (by omega)
    rw [stampF_in (by omega) (by omega)] at this
    unfold encHeadF at this
    rw [setB_ne (by omega), setB_eq, ofI_val] at this
    have h2 : ((40 : Nat) : Int) = 40 := rfl
    rw [h2] at this
    unfold encHeadF
    rw [this]
    omega
  have b41 : byteAt (mkStr 64 (stampF (encHeadF num idx term area size) s)) 41 = size := by
    have := byte_mk (f := stampF (encHeadF num idx term area size) s) (n := 64) (i := 41) (by omega)
    rw [stampF_in (by omega) (by omega)] at this
    unfold encHeadF at this
    rw [setB_eq, ofI_val] at this
    have h2 : ((41 : Nat) : Int) = 41 := rfl
    rw [h2] at this
    unfold encHeadF
    rw [this]
    omega
  have hok : headOk (mkStr 64 (stampF (encHeadF num idx term area size) s)) = true := by
    unfold headOk
    rw [whole_stamp hs, b40, b41, decide_eq_true (by omega), decide_eq_true (by omega)]
    rfl
  unfold decHead
  rw [if_pos hok, b40, b41]
  have e1 : get8 (mkStr 64 (stampF (encHeadF num idx term area size) s)) 1 = num := get8_of (p := 1) hn.1 hn.2 (by omega) fun i hi => by
    rw [stampF_in (by omega) (by omega)]
    unfold encHeadF
    rw [setB_ne (by omega), setB_ne (by omega), put8F_out (by omega), put8F_out (by omega), put8F_in hi]
  have e2 : get8 (mkStr 64 (stampF (encHeadF num idx term area size) s)) 9 = idx := get8_of (p := 9) hi.1 hi.2 (by omega) fun i hi => by
    rw [stampF_in (by omega) (by omega)]
    unfold encHeadF
    rw [setB_ne (by omega), setB_ne (by omega), put8F_out (by omega), put8F_in hi]
  have e3 : get8 (mkStr 64 (stampF (encHeadF num idx term area size) s)) 32 = term := get8_of (p := 32) ht.1 ht.2 (by omega) fun i hi => by
    rw [stampF_in (by omega) (by omega)]
    unfold encHeadF
    rw [setB_ne (by omega), setB_ne (by omega), put8F_in hi]
  rw [e1, e2, e3]
theorem ubyte_mk {f : Nat → UInt8} {n i : Nat} (h : i < n) : ubyte (mkStr n f) i = f i := mkStr_get f h
theorem mkStr_self (d : ByteArray) : mkStr d.size (fun j => ubyte d j) = d := by
  cases d with
  | mk a =>
    unfold mkStr
    congr 1
    apply Array.ext'
    have hl : ByteArray.size ⟨a⟩ = a.toList.length := by simp [ByteArray.size]
    rw [List.toList_toArray]
    apply List.ext_getElem?
    intro j
    rw [List.getElem?_map]
    by_cases hj : j < a.toList.length
    · rw [List.getElem?_range (by rw [hl]; exact hj), Option.map_some]
      simp only [ubyte, List.getD]
      rw [List.getElem?_eq_getElem hj]
      rfl
    · rw [List.getElem?_eq_none (by rw [List.length_range, hl]; omega), List.getElem?_eq_none (by omega)]
      rfl
theorem mkStr_congr {n : Nat} {f g : Nat → UInt8} (h : ∀ j, j < n → f j = g j) : mkStr n f = mkStr n g := by
  unfold mkStr
  rw [List.map_congr_left (fun j hj => h j (List.mem_range.1 hj))]
theorem recOf_enc {idx term : Int} {d : ByteArray} {s : UInt8} (hs : s ≠ 0) (hi : 0 ≤ idx ∧ idx < 9223372036854775808) (ht : 0 ≤ term ∧ term < 9223372036854775808) (hd : d.size ≤ 24) : recOk (mkStr 64 (stampF (encRecF idx term d) s)) = true ∧ recOf (mkStr 64 (stampF (encRecF idx term d) s)) = ⟨idx, term, d⟩ := by
  have out : ∀ j, j ≠ 0 → j ≠ 63 → (j < 35 ∨ 43 ≤ j) → stampF (encRecF idx term d) s j = dataF (setB (put8F (setB zeroF 1 1) 2 idx) 10 (ofI (d.size : Int))) d d.size j := fun j h0 h1 h2 => by
    rw [stampF_in h0 h1]
    unfold encRecF
    rw [put8F_out (by omega)]
  have b1 : byteAt (mkStr 64 (stampF (encRecF idx term d) s)) 1 = 1 := by
    have := byte_mk (f := stampF (encRecF idx term d) s) (n := 64) (i := 1) (by omega)
    rw [out 1 (by omega) (by omega) (by omega)] at this
    unfold dataF at this
    rw [if_neg (by omega), setB_ne (by omega), put8F_out (by omega), setB_eq] at this
    exact this
  have b10 : byteAt (mkStr 64 (stampF (encRecF idx term d) s)) 10 = (d.size : Int) := by
    have := byte_mk (f := stampF (encRecF idx term d) s) (n := 64) (i := 10) (by omega)
    rw [out 10 (by omega) (by omega) (by omega)] at this
    unfold dataF at this
    rw [if_neg (by omega), setB_eq, ofI_val] at this
    have h2 : ((10 : Nat) : Int) = 10 := rfl
    rw [h2] at this
    rw [this]
    omega
  have hok : recOk (mkStr 64 (stampF (encRecF idx term d) s)) = true := by
    unfold recOk
    rw [whole_stamp hs, b1, b10, decide_eq_true (by omega)]
    rfl
  refine ⟨hok, ?_⟩
  unfold recOf
  rw [if_pos hok, b10, Int.toNat_natCast]
  have e1 : get8 (mkStr 64 (stampF (encRecF idx term d) s)) 2 = idx := get8_of (p := 2) hi.1 hi.2 (by omega) fun i hi => by
    rw [out _ (by omega) (by omega) (by omega)]
    unfold dataF
    rw [if_neg (by omega), setB_ne (by omega), put8F_in hi]
  have e2 : get8 (mkStr 64 (stampF (encRecF idx term d) s)) 35 = term := get8_of (p := 35) ht.1 ht.2 (by omega) fun i hi => by
    rw [stampF_in (by omega) (by omega)]
    unfold encRecF
    rw [put8F_in hi]
  rw [e1, e2]
  congr 1
  rw [← mkStr_self d, mkStr_size]
  refine mkStr_congr fun j hj => ?_
  rw [ubyte_mk (by omega), mkStr_self d, out _ (by omega) (by omega) (by omega)]
  unfold dataF
  rw [if_pos (by omega), show 11 + j - 11 = j by omega]
theorem recOk_del {s : UInt8} : recOk (mkStr 64 (stampF zeroF s)) = false := by
  have b1 : byteAt (mkStr 64 (stampF zeroF s)) 1 = 0 := by
    have := byte_mk (f := stampF zeroF s) (n := 64) (i := 1) (by omega)
    rw [stampF_in (by omega) (by omega)] at this
    exact this
  unfold recOk
  rw [b1]
  simp
end Go.Proofs.Qxb6500430aGreat
