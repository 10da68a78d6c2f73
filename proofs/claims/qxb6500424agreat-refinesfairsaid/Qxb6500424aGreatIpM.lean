/-
  ip: the real layer's Output.
-/
import Derived.Test.Qxb6500424aGreatIpL
set_option linter.unusedVariables false
set_option linter.unusedSimpArgs false
open Go.Vc
namespace Go.Proofs.Qxb6500424aGreat.Ip

def outErr (dst proto : Int) (n : Nat) (credit : Int) : Int := if dst < 0 ∨ 255 < dst then 5 else if proto < 0 ∨ 255 < proto then 6 else if 40 < n then 2 else if credit ≤ 0 then 12 else 0
def cntF (n : Nat) : Nat := if n = 0 then 1 else (n + 15) / 16
/-- The i-th packet of a datagram. -/
def pktF (proto src dst id : Int) (d : List Int) (i : Nat) : List Int :=
  if i + 1 < cntF d.length then pkt proto src dst id (((i * 16 + 128 : Nat)) : Int) ((d.drop (i * 16)).take 16) else pkt proto src dst id ((i * 16 : Nat) : Int) (d.drop (i * 16))
theorem cntF_le {n : Nat} (h : n ≤ 40) : 1 ≤ cntF n ∧ cntF n ≤ 3 ∧ (cntF n - 1) * 16 ≤ n ∧ n ≤ cntF n * 16 := by unfold cntF; split <;> omega
def sv (k l : Nat) : Value := .slice (some ⟨k, 0, none⟩) l l
/-- A list of packets: the block ob holds slices, slice i leads to a block of its own with the bytes P i. -/
def PkAt (w : World) (ob n : Nat) (K : Nat → Nat) (P : Nat → List Int) : Prop :=
  Own w ob (fnArr n fun i => sv (K i) (P i).length) 81 ∧ ∀ i, i < n → Bf w (K i) (P i)
theorem or128 : ∀ i : Fin 3, IntKind.i64.wrap (BitVec.ofInt IntKind.i64.bits (IntKind.i64.wrap ((i.val : Int) * 16)) ||| BitVec.ofInt IntKind.i64.bits (128 : Int)).toNat = ((i.val * 16 + 128 : Nat) : Int) := by decide +kernel

def updK (K : Nat → Nat) (i k : Nat) : Nat → Nat := fun j => if j = i then k else K j
/-- The list half filled. -/
def HalfAt (w0 w : World) (ob n m : Nat) (K : Nat → Nat) (P : Nat → List Int) : Prop :=
  Own w ob (fnArr n fun j => if j < m then sv (K j) (P j).length else .slice none 0 0) 81 ∧ (∀ j, j < m → Bf w (K j) (P j) ∧ w0.heap.size ≤ K j) ∧ (∀ i j, i < m → j < m → i ≠ j → K i ≠ K j)
theorem HalfAt.put {w0 w w1 w2 : World} {ob n m k : Nat} {K : Nat → Nat} {P : Nat → List Int} {KK : World → Prop} (h : HalfAt w0 w ob n m K P) (hm : m < n) (hk : k = w.heap.size) (h0 : w0.heap.size ≤ w.heap.size) (he : Ext [] w w1) (hf : Bf w1 k (P m)) (hs : w1.heap.size = k + 1)
    (hK : ∀ w2, HalfAt w0 w2 ob n (m + 1) (updK K m k) P → w2.heap.size = w1.heap.size → Ext [ob] w1 w2 → KK w2) : Sts [sv k (P m).length] ⟨ob, m, none⟩ 0 w1 KK := by
  obtain ⟨ho, hb, hd⟩ := h
  have hol := ho.lt
  refine Sts.fn (he.own ho (by simp)) (by simp; omega) rfl (g := fun j => if j < m + 1 then sv (updK K m k j) (P j).length else .slice none 0 0) (fun j hj => ?_) fun w2 hs2 ho2 he2 => hK w2 ⟨ho2, fun j hj => ?_, fun i j hi hj hij => ?_⟩ hs2 he2
  · unfold fnPut updK
    by_cases e : j = m
    · subst e
      rw [if_pos (by simp), if_pos (by omega), if_pos rfl]
      simp
    · rw [if_neg (by simp; omega)]
      show (if j < m then sv (K j) (P j).length else Value.slice none 0 0) = _
      by_cases e2 : j < m
      · rw [if_pos e2, if_pos (by omega), if_neg e]
      · rw [if_neg e2, if_neg (by omega)]
  · unfold updK
    by_cases e : j = m
    · subst e
      rw [if_pos rfl]
      exact ⟨hf.ext he2 (by simp; omega), by omega⟩
    · rw [if_neg e]
      have hj' := hb j (by omega)
      have hne : K j ≠ ob := fun q => by
        have := hj'.1.1
        rw [q] at this
        exact Own.ne_type this ho (by decide) rfl
      exact ⟨(hj'.1.ext0 he).ext he2 (by simpa using hne), hj'.2⟩
  · unfold updK
    by_cases ei : i = m
    · subst ei
      rw [if_pos rfl, if_neg (fun q => hij q.symm)]
      have := (hb j (by omega)).1.lt
      omega
    · rw [if_neg ei]
      by_cases ej : j = m
      · subst ej
        rw [if_pos rfl]
        have := (hb i (by omega)).1.lt
        omega
      · rw [if_neg ej]
        exact hd i j (by omega) (by omega) hij
end Go.Proofs.Qxb6500424aGreat.Ip
