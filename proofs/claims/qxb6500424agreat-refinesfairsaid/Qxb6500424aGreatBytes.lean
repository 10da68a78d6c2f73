/-
  Slices of bytes, and api.CopyBytes, api.SameBytes.
-/
import Derived.Test.Qxb6500424aGreatFs
import Derived.Test.Qxb6500424aGreatVcE
set_option linter.unusedVariables false
open Go.Vc
namespace Go.Proofs.Qxb6500424aGreat

def U8 (v : List Int) : List Value := v.map (Value.int .u8)
def IsB (v : List Int) : Prop := ∀ x ∈ v, 0 ≤ x ∧ x < 256
theorem U8_length (v : List Int) : (U8 v).length = v.length := by simp [U8]
theorem U8_get (v : List Int) (i : Nat) : (U8 v)[i]? = v[i]?.map (Value.int .u8) := by simp [U8]
theorem U8_all (v : List Int) : (U8 v).all Value.oneCell' = true := by simp [U8, Value.oneCell']
theorem IsB.nil : IsB [] := fun x hx => by cases hx
theorem IsB.take {v : List Int} (h : IsB v) (n : Nat) : IsB (v.take n) := fun x hx => h x (List.mem_of_mem_take hx)
theorem IsB.drop {v : List Int} (h : IsB v) (n : Nat) : IsB (v.drop n) := fun x hx => h x (List.mem_of_mem_drop hx)
theorem IsB.append {u v : List Int} (h : IsB u) (k : IsB v) : IsB (u ++ v) := fun x hx => by
  rcases List.mem_append.1 hx with hx | hx
  · exact h x hx
  · exact k x hx
theorem IsB.left {u v : List Int} (h : IsB (u ++ v)) : IsB u := fun x hx => h x (List.mem_append.2 (.inl hx))
theorem IsB.right {u v : List Int} (h : IsB (u ++ v)) : IsB v := fun x hx => h x (List.mem_append.2 (.inr hx))
theorem IsB.get {v : List Int} (h : IsB v) {i : Nat} {x : Int} (hx : v[i]? = some x) : 0 ≤ x ∧ x < 256 := h x (List.mem_of_getElem? hx)
/-- Bytes that can be read at a slice's head. -/
def Rd (w : World) (b : Option Addr) (v : List Int) : Prop :=
  IsB v ∧ (v = [] ∨ ∃ k o, b = some ⟨k, o, none⟩ ∧ k < w.heap.size ∧ ∀ i x, v[i]? = some x → w.cell? ⟨k, o + i, none⟩ = some (.int .u8 x))
theorem Rd.nil (w : World) (b : Option Addr) : Rd w b [] := ⟨IsB.nil, .inl rfl⟩
theorem Rd.isB {w : World} {b : Option Addr} {v : List Int} (h : Rd w b v) : IsB v := h.1
theorem Rd.ext {w w' : World} {b : Option Addr} {v : List Int} {S : List Nat} (h : Rd w b v) (he : Ext S w w') (hs : ∀ k o, b = some ⟨k, o, none⟩ → k ∉ S) : Rd w' b v := by
  refine ⟨h.1, ?_⟩
  rcases h.2 with h0 | ⟨k, o, rfl, hlt, hc⟩
  · exact .inl h0
  · refine .inr ⟨k, o, rfl, Nat.lt_of_lt_of_le hlt he.size, fun i x hx => ?_⟩
    rw [he.cell hlt (hs k o rfl)]
    exact hc i x hx
theorem Rd.ext0 {w w' : World} {b : Option Addr} {v : List Int} (h : Rd w b v) (he : Ext [] w w') : Rd w' b v := h.ext he (fun _ _ _ h => by cases h)
theorem Rd.at {w : World} {b : Option Addr} {v : List Int} (h : Rd w b v) {i : Nat} {x : Int} (hx : v[i]? = some x) : ∃ k o, b = some ⟨k, o, none⟩ ∧ w.cell? ⟨k, o + i, none⟩ = some (.int .u8 x) := by
  rcases h.2 with rfl | ⟨k, o, rfl, _, hc⟩
  · simp at hx
  · exact ⟨k, o, rfl, hc i x hx⟩
/-- A byte loaded. -/
theorem Rd.ld {w : World} {b : Option Addr} {v : List Int} (h : Rd w b v) {i : Nat} {x : Int} (hx : v[i]? = some x) {K : Int → Prop} (hk : K x) : Pn b fun a => LdI .u8 (a.add i) w K := by
  obtain ⟨k, o, rfl, hc⟩ := h.at hx
  refine Pn.mk (LdI.cell ?_ hk)
  rw [add_mk]
  exact hc
theorem Rd.take {w : World} {b : Option Addr} {v : List Int} (h : Rd w b v) (n : Nat) : Rd w b (v.take n) := by
  refine ⟨h.1.take n, ?_⟩
  rcases h.2 with rfl | ⟨k, o, rfl, hlt, hc⟩
  · exact .inl (by simp)
  · refine .inr ⟨k, o, rfl, hlt, fun i x hx => hc i x ?_⟩
    rw [List.getElem?_take] at hx
    split at hx
    · exact hx
    · simp at hx
theorem Rd.drop {w : World} {b : Option Addr} {v : List Int} (h : Rd w b v) (n : Nat) {m : Int} (hm : (v.length : Int) ≤ m) : Rd w (slBase b n m 1) (v.drop n) := by
  refine ⟨h.1.drop n, ?_⟩
  rcases h.2 with rfl | ⟨k, o, rfl, hlt, hc⟩
  · exact .inl (by simp)
  · by_cases hn : v.length ≤ n
    · exact .inl (List.drop_eq_nil_of_le hn)
    · refine .inr ⟨k, o + n, ?_, hlt, fun i x hx => ?_⟩
      · simp only [slBase]
        rw [if_neg (by simp; omega)]
        simp [add_mk]
      · rw [List.getElem?_drop] at hx
        rw [Nat.add_assoc]
        exact hc _ x hx
theorem slBase0 (b : Option Addr) (m : Int) (n : Nat) : slBase b ((0 : Nat) : Int) m n = b := by
  cases b with
  | none => simp [slBase]
  | some a =>
    simp only [slBase]
    split
    · rfl
    · simp [Addr.add]
theorem Rd.cells {w : World} {b : Option Addr} {v : List Int} (h : Rd w b v) : CellsAt w b (U8 v) := by
  rcases h.2 with rfl | ⟨k, o, rfl, _, hc⟩
  · cases b <;> simp [CellsAt, U8]
  · intro j x hj
    rw [U8_get] at hj
    cases hv : v[j]? with
    | none => rw [hv] at hj; simp at hj
    | some y =>
      rw [hv] at hj
      simp at hj
      subst hj
      rw [add_mk]
      exact hc j y hv

/-- A block of bytes, whole. -/
def Bf (w : World) (k : Nat) (v : List Int) : Prop := Own w k (U8 v).toArray T_uint8 ∧ IsB v
theorem Bf.lt {w : World} {k : Nat} {v : List Int} (h : Bf w k v) : k < w.heap.size := h.1.lt
theorem Bf.ext {w w' : World} {k : Nat} {v : List Int} {S : List Nat} (h : Bf w k v) (he : Ext S w w') (hk : k ∉ S) : Bf w' k v := ⟨he.own h.1 hk, h.2⟩
theorem Bf.ext0 {w w' : World} {k : Nat} {v : List Int} (h : Bf w k v) (he : Ext [] w w') : Bf w' k v := h.ext he (by simp)
theorem Bf.rd {w : World} {k : Nat} {v z : List Int} (h : Bf w k (v ++ z)) : Rd w (some ⟨k, 0, none⟩) v := by
  refine ⟨h.2.left, .inr ⟨k, 0, rfl, h.1.lt, fun i x hx => ?_⟩⟩
  refine h.1.cell ?_
  have hi := (List.getElem?_eq_some_iff.1 hx).1
  simp only [List.getElem?_toArray, U8_get, Nat.zero_add]
  rw [List.getElem?_append_left hi, hx]
  rfl
theorem Bf.rd0 {w : World} {k : Nat} {v : List Int} (h : Bf w k v) : Rd w (some ⟨k, 0, none⟩) v := Bf.rd (z := []) (by simpa using h)

/-- A slice of bytes at the head of a block of its own. -/
def Bs (w : World) (b : Option Addr) (l c : Nat) (v : List Int) : Prop :=
  l = v.length ∧ ((b = none ∧ c = 0 ∧ v = []) ∨ ∃ k z, b = some ⟨k, 0, none⟩ ∧ Bf w k (v ++ z) ∧ c = v.length + z.length)
theorem Bs.nil (w : World) : Bs w none 0 0 [] := ⟨rfl, .inl ⟨rfl, rfl, rfl⟩⟩
theorem Bs.rd {w : World} {b : Option Addr} {l c : Nat} {v : List Int} (h : Bs w b l c v) : Rd w b v := by
  rcases h.2 with ⟨rfl, _, rfl⟩ | ⟨k, z, rfl, hb, _⟩
  · exact Rd.nil _ _
  · exact hb.rd
theorem Bs.ext {w w' : World} {b : Option Addr} {l c : Nat} {v : List Int} {S : List Nat} (h : Bs w b l c v) (he : Ext S w w') (hs : ∀ k, b = some ⟨k, 0, none⟩ → k ∉ S) : Bs w' b l c v := by
  refine ⟨h.1, ?_⟩
  rcases h.2 with h0 | ⟨k, z, rfl, hb, hc⟩
  · exact .inl h0
  · exact .inr ⟨k, z, rfl, hb.ext he (hs k rfl), hc⟩
theorem Bs.ext0 {w w' : World} {b : Option Addr} {l c : Nat} {v : List Int} (h : Bs w b l c v) (he : Ext [] w w') : Bs w' b l c v := h.ext he (fun _ _ h => by cases h)
theorem Bf.bs {w : World} {k : Nat} {v : List Int} (h : Bf w k v) : Bs w (some ⟨k, 0, none⟩) v.length v.length v := ⟨rfl, .inr ⟨k, [], rfl, by simpa using h, by simp⟩⟩
/-- Blocks that hold no bytes. -/
def NoB (w : World) (S : List Nat) : Prop := ∀ k ∈ S, ∀ c, ¬ Own w k c T_uint8
theorem Bs.extT {w w' : World} {b : Option Addr} {l c : Nat} {v : List Int} {S : List Nat} (h : Bs w b l c v) (he : Ext S w w') (hs : NoB w S) : Bs w' b l c v := by
  refine ⟨h.1, ?_⟩
  rcases h.2 with h0 | ⟨k, z, rfl, hb, hc⟩
  · exact .inl h0
  · exact .inr ⟨k, z, rfl, hb.ext he (fun hk => hs k hk _ hb.1), hc⟩

/-! ### strings -/
/-- A string's bytes. -/
def strB (s : ByteArray) : List Int := s.data.toList.map fun b => (b.toNat : Int)
theorem strB_length (s : ByteArray) : (strB s).length = s.size := by
  rw [strB, List.length_map, Array.length_toList]
  rfl
theorem strB_isB (s : ByteArray) : IsB (strB s) := fun x hx => by
  simp only [strB, List.mem_map] at hx
  obtain ⟨b, _, rfl⟩ := hx
  have := b.toNat_lt
  omega
theorem toBytes_ok {w : World} {s : ByteArray} {K : Nat → Nat → World → Prop}
    (h : ∀ r cap w' z, s.size + z.length = cap → r = w.heap.size → w'.heap.size = r + 1 → Bf w' r (strB s ++ z) → Ext [] w w' → K r cap w') : ToBytes T_uint8 s w K :=
  ToBytes.mk fun r cap w' hc hr hs ho he => h r cap w' (List.replicate (cap - s.size) 0) (by simp; omega) hr hs ⟨by
    have e : (U8 (strB s ++ List.replicate (cap - s.size) 0)).toArray = (bytesV s.data.toList).toArray ++ Array.replicate (cap - s.size) (.int .u8 0) := by
      apply Array.ext'
      simp [U8, strB, bytesV, Function.comp_def]
    rw [e]
    exact ho, (strB_isB s).append (fun x hx => by simp at hx; omega)⟩ he

/-! ### api.CopyBytes -/
theorem copyBytes_ok {w : World} {b : Option Addr} {l c : Nat} {v : List Int} {R : Option Addr → Nat → Nat → World → Prop} (hr : Rd w b v) (hl : v.length = l) (hb : l ≤ 281474976710656)
    (hR : ∀ k w', k = w.heap.size → w'.heap.size = k + 1 → Bf w' k v → Ext [] w w' → R (some ⟨k, 0, none⟩) l l w') : api_CopyBytes.Call b l c w R := by
  apply api_CopyBytes.sound
  unfold api_CopyBytes.B0
  refine Make.mk (by omega) (by omega) (by omega) (by omega) fun k w1 hk hs ho he => ?_
  have hr1 := hr.ext0 he
  have ho1 : Own w1 k (Array.replicate l (.int .u8 0)) T_uint8 := by
    have e : madeCells (Value.int .u8 0).cells (((l : Nat) : Int).toNat * 1) = Array.replicate l (.int .u8 0) := by
      rw [show (Value.int .u8 0).cells = #[Value.int .u8 0] from rfl, madeCells_one]
      simp
    rw [e] at ho
    exact ho
  refine Copy.mk ho1 hr1.cells (by rw [U8_length, hl]; simp) (by rw [U8_length, hl]; simp) (U8_all v) fun w2 hs2 ho2 he2 => ?_
  rw [putArr_full _ _ (by rw [U8_length, hl]; simp)] at ho2
  have e2 : (((l : Nat) : Int)).toNat = l := by omega
  rw [e2]
  exact hR k w2 hk (by omega) ⟨ho2, hr.1⟩ (he.trans' he2 (fun x hx hlt => by simp at hx; omega))

theorem Bf.set {w : World} {k i : Nat} {v : List Int} {x : Int} {K : World → Prop} (h : Bf w k v) (hi : i < v.length) (hx : 0 ≤ x ∧ x < 256)
    (hK : ∀ w', w'.heap.size = w.heap.size → Bf w' k (v.set i x) → Ext [k] w w' → K w') : Sts [.int .u8 x] ⟨k, i, none⟩ 0 w K := by
  refine Sts.mk h.1 (by simp [U8]; omega) rfl fun w' hs ho he => hK w' hs ⟨?_, fun y hy => ?_⟩ he
  · have e : putArr (U8 v).toArray i [Value.int .u8 x] = (U8 (v.set i x)).toArray := by
      apply Array.ext_getElem?
      intro j
      rw [getElem?_putArr _ _ _ _ (by simp [U8]; omega)]
      simp only [List.length_cons, List.length_nil, Nat.zero_add, List.getElem?_toArray, U8_get]
      by_cases hj : j = i
      · subst hj
        simp [hi]
      · rw [if_neg (by omega), List.getElem?_set_ne (fun e => hj e.symm)]
    rw [e] at ho
    exact ho
  · rcases List.mem_or_eq_of_mem_set hy with hy | rfl
    · exact h.2 y hy
    · exact hx
theorem make8_ok {w : World} {l n : Int} {K : Nat → World → Prop} (hl : l = n) (h0 : 0 ≤ n) (h1 : n ≤ 281474976710656)
    (h : ∀ r w', r = w.heap.size → w'.heap.size = r + 1 → Bf w' r (List.replicate n.toNat 0) → Ext [] w w' → K r w') : Make T_uint8 (.int .u8 0) 1 1 l n w K := by
  subst hl
  refine Make.mk h0 (by omega) (by omega) (by omega) fun r w' hr hs ho he => h r w' hr hs ⟨?_, fun x hx => by simp at hx; omega⟩ he
  have e : madeCells (Value.int .u8 0).cells (l.toNat * 1) = (U8 (List.replicate l.toNat 0)).toArray := by
    rw [show (Value.int .u8 0).cells = #[Value.int .u8 0] from rfl, madeCells_one]
    apply Array.ext'
    simp [U8]
  rw [e] at ho
  exact ho
end Go.Proofs.Qxb6500424aGreat
