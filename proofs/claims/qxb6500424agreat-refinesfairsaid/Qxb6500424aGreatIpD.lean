/-
  ip: what Input answers, as a plain function; the real layer's clash, lay, whole, sums and keys.
-/
import Derived.Test.Qxb6500424aGreatIpC
set_option linter.unusedVariables false
set_option linter.unusedSimpArgs false
open Go.Vc
namespace Go.Proofs.Qxb6500424aGreat.Ip

def hd (c : List Int) (k : Nat) : Int := c.getD k (-1)
/-- A fragment that ends at e contradicts the row. -/
def rowBad (r : AR) (e : Nat) (more : Bool) : Bool :=
  if more then decide (0 ≤ r.total) && decide (r.total < e) else (decide (0 ≤ r.total) && decide (r.total ≠ e)) || (List.range 40).any fun k => decide (e ≤ k) && decide (0 ≤ hd r.cell k)
def layC (c : List Int) (off : Nat) (d : List Int) : List Int := (List.range 40).map fun k => if off ≤ k ∧ k < off + d.length then d.getD (k - off) 0 else hd c k
def rowFull (r : AR) : Bool := decide (0 ≤ r.total) && (List.range r.total.toNat).all fun k => decide (0 ≤ hd r.cell k)
def freshRow (key : Int) : AR := ⟨key, 4, -1, List.replicate 40 (-1)⟩
structure InR where
  err : Int
  src : Int
  dst : Int
  proto : Int
  data : List Int
  tab : List AR
def noneR (e : Int) (A : List AR) : InR := ⟨e, 0, 0, 0, [], A⟩
def remA (key : Int) (A : List AR) : List AR := A.filter (fun x => decide (x.key ≠ key))
def setA (r : AR) (A : List AR) : List AR := A.map (fun x => if x.key = r.key then r else x)
def sum7 (v : List Int) : Int := 255 - (v.getD 0 0 + v.getD 1 0 + v.getD 2 0 + v.getD 3 0 + v.getD 4 0 + v.getD 5 0 + v.getD 6 0) % 256
def keyV (v : List Int) : Int := v.getD 2 0 * 65536 + v.getD 0 0 * 256 + v.getD 4 0
def offV (v : List Int) : Nat := (v.getD 5 0 % 128).toNat
def moreV (v : List Int) : Bool := decide (128 ≤ v.getD 5 0)
def nextRow (r : AR) (v : List Int) : AR := { r with total := if moreV v then r.total else ((offV v + (v.length - 8) : Nat) : Int), cell := layC r.cell (offV v) (v.drop 8) }
/-- The fragment v comes to the row r, which lies in the table iff old. -/
def fragR (addr : Int) (A : List AR) (v : List Int) (r : AR) (old : Bool) : InR :=
  if rowBad r (offV v + (v.length - 8)) (moreV v) then noneR 9 (remA (keyV v) A)
  else if rowFull (nextRow r v) then ⟨0, v.getD 2 0, addr, v.getD 0 0, (nextRow r v).cell.take (nextRow r v).total.toNat, remA (keyV v) A⟩
  else noneR 10 (if old then setA (nextRow r v) A else insA (nextRow r v) A)
def inF (addr : Int) (A : List AR) (v : List Int) : InR :=
  if v.length < 8 then noneR 1 A else if v.getD 6 0 ≠ ((v.length - 8 : Nat) : Int) then noneR 3 A else if sum7 v ≠ v.getD 7 0 then noneR 4 A else if v.getD 1 0 = 0 then noneR 8 A
  else if v.getD 3 0 ≠ addr then noneR 7 A else if 40 < offV v + (v.length - 8) then noneR 2 A else if v.length - 8 = 0 ∧ (moreV v = true ∨ 0 < offV v) then noneR 9 A
  else if offV v = 0 ∧ moreV v = false then ⟨0, v.getD 2 0, addr, v.getD 0 0, v.drop 8, A⟩
  else match A.find? (fun x => decide (x.key = keyV v)) with
    | some r => fragR addr A v r true
    | none => if A.length = 3 then noneR 11 A else fragR addr A v (freshRow (keyV v)) false

/-! ### bytes taken apart -/
theorem head_all : ∀ x : Fin 256, IntKind.i64.wrap (IntKind.u8.wrap (BitVec.ofInt IntKind.u8.bits (x.val : Int) &&& BitVec.ofInt IntKind.u8.bits (127 : Int)).toNat) = ((x.val % 128 : Nat) : Int) ∧
    (IntKind.u8.wrap (BitVec.ofInt IntKind.u8.bits (x.val : Int) &&& BitVec.ofInt IntKind.u8.bits (128 : Int)).toNat != 0) = decide (128 ≤ x.val) ∧
    IntKind.i64.wrap (BitVec.ofInt IntKind.i64.bits (IntKind.i64.wrap (x.val : Int)) &&& BitVec.ofInt IntKind.i64.bits (127 : Int)).toNat = ((x.val % 128 : Nat) : Int) ∧
    (IntKind.i64.wrap (BitVec.ofInt IntKind.i64.bits (IntKind.i64.wrap (x.val : Int)) &&& BitVec.ofInt IntKind.i64.bits (128 : Int)).toNat != 0) = decide (128 ≤ x.val) := by decide +kernel
theorem or64 {x y : Nat} (hx : x < 9223372036854775808) (hy : y < 9223372036854775808) (hz : (x ||| y) < 9223372036854775808) :
    IntKind.i64.wrap (BitVec.ofInt IntKind.i64.bits (x : Int) ||| BitVec.ofInt IntKind.i64.bits (y : Int)).toNat = ((x ||| y : Nat) : Int) := by
  have e1 : (BitVec.ofInt IntKind.i64.bits (x : Int)).toNat = x := by
    rw [BitVec.toNat_ofInt]
    have : (2 ^ IntKind.i64.bits : Nat) = 18446744073709551616 := by decide
    rw [this]
    omega
  have e2 : (BitVec.ofInt IntKind.i64.bits (y : Int)).toNat = y := by
    rw [BitVec.toNat_ofInt]
    have : (2 ^ IntKind.i64.bits : Nat) = 18446744073709551616 := by decide
    rw [this]
    omega
  rw [BitVec.toNat_or, e1, e2]
  generalize (x ||| y) = z at hz
  exact w64 (by omega) (by omega)
theorem any_congr' {f g : Nat → Bool} : ∀ {l : List Nat}, (∀ k ∈ l, f k = g k) → l.any f = l.any g
  | [], _ => rfl
  | a :: l, h => by simp only [List.any_cons]; rw [h a (List.mem_cons_self ..), any_congr' (fun k hk => h k (List.mem_cons_of_mem _ hk))]
theorem all_congr' {f g : Nat → Bool} : ∀ {l : List Nat}, (∀ k ∈ l, f k = g k) → l.all f = l.all g
  | [], _ => rfl
  | a :: l, h => by simp only [List.all_cons]; rw [h a (List.mem_cons_self ..), all_congr' (fun k hk => h k (List.mem_cons_of_mem _ hk))]
theorem mul256 (a b : Nat) : (a * 256 + b) * 256 = a * 65536 + b * 256 := by omega
theorem keyW_ok {s p i : Int} (hs : 0 ≤ s ∧ s < 256) (hp : 0 ≤ p ∧ p < 256) (hi : 0 ≤ i ∧ i < 256) :
    IntKind.i64.wrap (BitVec.ofInt IntKind.i64.bits (IntKind.i64.wrap (BitVec.ofInt IntKind.i64.bits (IntKind.i64.wrap (s * 2 ^ (min (16 : Int).toNat IntKind.i64.bits))) ||| BitVec.ofInt IntKind.i64.bits (IntKind.i64.wrap (p * 2 ^ (min (8 : Int).toNat IntKind.i64.bits)))).toNat) ||| BitVec.ofInt IntKind.i64.bits i).toNat = s * 65536 + p * 256 + i := by
  have e16 : (2 : Int) ^ (min (16 : Int).toNat IntKind.i64.bits) = 65536 := by decide
  have e8 : (2 : Int) ^ (min (8 : Int).toNat IntKind.i64.bits) = 256 := by decide
  rw [e16, e8, w64 (x := s * 65536) (by omega) (by omega), w64 (x := p * 256) (by omega) (by omega)]
  obtain ⟨a, rfl⟩ : ∃ a : Nat, s = a := ⟨s.toNat, (Int.toNat_of_nonneg hs.1).symm⟩
  obtain ⟨b, rfl⟩ : ∃ b : Nat, p = b := ⟨p.toNat, (Int.toNat_of_nonneg hp.1).symm⟩
  obtain ⟨c, rfl⟩ : ∃ c : Nat, i = c := ⟨i.toNat, (Int.toNat_of_nonneg hi.1).symm⟩
  have c1 : (a : Int) * 65536 = ((a * 65536 : Nat) : Int) := by simp
  have c2 : (b : Int) * 256 = ((b * 256 : Nat) : Int) := by simp
  have o1 : (a * 65536 ||| b * 256) = a * 65536 + b * 256 := by
    have := Nat.shiftLeft_add_eq_or_of_lt (i := 16) (b := b * 256) (by omega) a
    rw [Nat.shiftLeft_eq] at this
    have e : (2 : Nat) ^ 16 = 65536 := by decide
    rw [e] at this
    exact this.symm
  have o2 : (a * 65536 + b * 256 ||| c) = a * 65536 + b * 256 + c := by
    have := Nat.shiftLeft_add_eq_or_of_lt (i := 8) (b := c) (by omega) (a * 256 + b)
    rw [Nat.shiftLeft_eq] at this
    have e : (2 : Nat) ^ 8 = 256 := by decide
    rw [e] at this
    have e2 := mul256 a b
    rw [e2] at this
    exact this.symm
  rw [c1, c2, or64 (by omega) (by omega) (by rw [o1]; omega), o1, or64 (by omega) (by omega) (by rw [o2]; omega), o2]
  omega
theorem keyOf_ok {w : World} {s p i : Int} {R : Int → World → Prop} (hs : 0 ≤ s ∧ s < 256) (hp : 0 ≤ p ∧ p < 256) (hi : 0 ≤ i ∧ i < 256) (hR : R (s * 65536 + p * 256 + i) w) : ip_keyOf.Call s p i w R := by
  apply ip_keyOf.sound
  unfold ip_keyOf.B0
  refine ⟨by omega, by omega, ?_⟩
  rw [keyW_ok hs hp hi]
  exact hR

/-! ### the head's sum -/
def pre7 (v : List Int) (i : Nat) : Int := match i with
  | 0 => 0
  | n + 1 => pre7 v n + v.getD n 0
theorem getD_of {p : List Int} {i : Nat} {x d : Int} (h : p[i]? = some x) : p.getD i d = x := by simp [List.getD, h]
theorem sumOf_ok {w : World} {b : Option Addr} {l c : Nat} {v : List Int} {R : Int → World → Prop} (hv : Rd w b v) (hl : v.length = l) (h8 : 8 ≤ l) (hR : R (sum7 v) w) : ip_sumOf.Call b l c w R := by
  apply ip_sumOf.sound
  unfold ip_sumOf.B0 ip_sumOf.L1
  refine ⟨fun m b' l' c' s i w' => b = b' ∧ l = l' ∧ c = c' ∧ w = w' ∧ 0 ≤ i ∧ i ≤ 7 ∧ m = (7 - i).toNat ∧ s = pre7 v i.toNat % 256, 7, ⟨rfl, rfl, rfl, rfl, by omega, by omega, rfl, rfl⟩, ?_⟩
  rintro m b' l' c' s i w' ⟨rfl, rfl, rfl, rfl, i0, i7, rfl, rfl⟩
  unfold ip_sumOf.L1b
  refine Bm.ite (fun hi => ?_) (fun hi => ?_)
  · obtain ⟨x, hx⟩ : ∃ x, v[i.toNat]? = some x := ⟨_, List.getElem?_eq_getElem (by omega)⟩
    obtain ⟨k, o, rfl, hc⟩ := hv.at hx
    refine Pn.mk ⟨⟨i0, by omega⟩, LdI.cell (by rw [add_mk, Nat.mul_one]; exact hc) ?_⟩
    rw [w64 (by omega) (by omega), wrap8_eq]
    refine ⟨(7 - (i + 1)).toNat, by omega, rfl, rfl, rfl, rfl, by omega, by omega, rfl, ?_⟩
    rw [show (i + 1).toNat = i.toNat + 1 by omega]
    simp only [pre7, getD_of hx]
    omega
  · have e : i.toNat = 7 := by omega
    rw [e, wrap8_eq]
    have e2 : (255 - pre7 v 7 % 256) % 256 = sum7 v := by
      unfold sum7
      simp only [pre7]
      omega
    rw [e2]
    exact hR
/-! ### the real side's clash, lay, whole -/
structure SlotWf (s : Slot) : Prop where
  held : s.held < 1099511627776
  buf : ∀ k, k < 40 → 0 ≤ s.buf k ∧ s.buf k < 256
theorem abs_cell {s : Slot} {k : Nat} (hk : k < 40) : hd s.abs.cell k = if s.held.testBit k then s.buf k else -1 := by
  simp [hd, Slot.abs, List.getD, hk]
theorem abs_held {s : Slot} (h : SlotWf s) {k : Nat} (hk : k < 40) : decide (0 ≤ hd s.abs.cell k) = s.held.testBit k := by
  rw [abs_cell hk]
  cases hb : s.held.testBit k with
  | true => have := (h.buf k hk).1; simp [this]
  | false => simp
theorem clash_ok {w : World} {p : Nat} {S : IPS} {i : Nat} {e : Nat} {more : Bool} {R : Bool → World → Prop} (h : RealAt w p S) (hi : i < 3) (hs : SlotWf (S.sl i)) (he : e ≤ 40) (hR : R (rowBad (S.sl i).abs e more) w) : ip_IP_clash.Call (some ⟨p, 0, none⟩) (i : Int) (e : Int) more w R := by
  apply ip_IP_clash.sound
  unfold ip_IP_clash.B0
  simp only [Int.toNat_natCast]
  have ht : (S.sl i).abs.total = (S.sl i).total := rfl
  refine Pn.mk ⟨⟨by omega, by omega⟩, LdI.cell (by rw [add_mk, add_mk, add_mk, Nat.zero_add]; exact h.total hi) ?_⟩
  unfold rowBad at hR
  rw [ht] at hR
  cases more with
  | true =>
    refine Bm.pos rfl (Bm.ite (fun h0 => ?_) (fun h0 => ?_))
    · rw [if_pos rfl, decide_eq_true (by omega), Bool.true_and] at hR
      have e1 : decide ((e : Int) > (S.sl i).total) = decide ((S.sl i).total < (e : Int)) := rfl
      rw [e1]
      exact hR
    · rw [if_pos rfl, decide_eq_false (by omega), Bool.false_and] at hR
      exact hR
  | false =>
    rw [if_neg (by simp)] at hR
    refine Bm.neg rfl ?_
    have bits : ((List.range 40).any fun k => decide (e ≤ k) && decide (0 ≤ hd (S.sl i).abs.cell k)) = ((List.range 40).any fun k => decide (e ≤ k) && (S.sl i).held.testBit k) := by
      apply any_congr'
      intro k hk
      rw [abs_held hs (List.mem_range.1 hk)]
    rw [bits] at hR
    have b1 : R ((List.range 40).any fun k => decide (e ≤ k) && (S.sl i).held.testBit k) w → ip_IP_clash.B1 (some ⟨p, 0, none⟩) (i : Int) (e : Int) false w R := fun hR' => by
      unfold ip_IP_clash.B1
      simp only [Int.toNat_natCast]
      refine Bm.neg rfl (Pn.mk ⟨⟨by omega, by omega⟩, LdI.cell (by rw [add_mk, add_mk, add_mk, Nat.zero_add]; exact h.held hi) ⟨by rw [w64u (by omega) (by omega)]; omega, ?_⟩⟩)
      rw [bits_from hs.held (by omega)]
      exact hR'
    refine Bm.ite (fun h0 => ?_) (fun h0 => ?_)
    · rw [decide_eq_true (show 0 ≤ (S.sl i).total by omega), Bool.true_and] at hR
      by_cases hne : (S.sl i).total = (e : Int)
      · have : ((S.sl i).total != (e : Int)) = false := by simp [hne]
        rw [this]
        rw [decide_eq_false (by simp [hne]), Bool.false_or] at hR
        exact b1 hR
      · have : ((S.sl i).total != (e : Int)) = true := by simp [hne]
        rw [this]
        rw [decide_eq_true (by simpa using hne), Bool.true_or] at hR
        unfold ip_IP_clash.B1
        exact Bm.pos rfl hR
    · rw [decide_eq_false (show ¬ 0 ≤ (S.sl i).total by omega), Bool.false_and, Bool.false_or] at hR
      exact b1 hR
theorem whole_ok {w : World} {p : Nat} {S : IPS} {i : Nat} {R : Bool → World → Prop} (h : RealAt w p S) (hi : i < 3) (hs : SlotWf (S.sl i)) (ht : (S.sl i).total ≤ 40) (hR : R (rowFull (S.sl i).abs) w) : ip_IP_whole.Call (some ⟨p, 0, none⟩) (i : Int) w R := by
  apply ip_IP_whole.sound
  unfold ip_IP_whole.B0
  simp only [Int.toNat_natCast]
  have htt : (S.sl i).abs.total = (S.sl i).total := rfl
  unfold rowFull at hR
  rw [htt] at hR
  refine Pn.mk ⟨⟨by omega, by omega⟩, LdI.cell (by rw [add_mk, add_mk, add_mk, Nat.zero_add]; exact h.total hi) (Bm.ite (fun h0 => ?_) (fun h0 => ?_))⟩
  · rw [decide_eq_false (by omega), Bool.false_and] at hR
    exact hR
  · rw [decide_eq_true (by omega), Bool.true_and] at hR
    obtain ⟨t, ht'⟩ : ∃ t : Nat, (S.sl i).total = t := ⟨(S.sl i).total.toNat, by omega⟩
    rw [ht'] at hR ⊢
    refine below_ok (by omega) (Pn.mk ⟨⟨by omega, by omega⟩, LdI.cell (by rw [add_mk, add_mk, add_mk, Nat.zero_add]; exact h.held hi) ?_⟩)
    rw [all_bits hs.held (by omega)]
    have e : ((List.range (t : Int).toNat).all fun k => decide (0 ≤ hd (S.sl i).abs.cell k)) = (List.range t).all (fun k => (S.sl i).held.testBit k) := by
      rw [Int.toNat_natCast]
      apply all_congr'
      intro k hk
      exact abs_held hs (by have := List.mem_range.1 hk; omega)
    rw [e] at hR
    exact hR
end Go.Proofs.Qxb6500424aGreat.Ip
