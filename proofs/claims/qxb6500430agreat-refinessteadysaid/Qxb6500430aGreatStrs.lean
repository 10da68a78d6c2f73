/-
  Strings made of bytes.
-/
import Derived.Test.Qxb6500430aGreatBytes
set_option linter.unusedVariables false
open Go.Vc
namespace Go.Proofs.Qxb6500430aGreat.Kv

def bStr (v : List Int) : ByteArray := ⟨(v.map fun x => UInt8.ofNat x.toNat).toArray⟩
theorem bStr_size (v : List Int) : (bStr v).size = v.length := by
  show (v.map fun x => UInt8.ofNat x.toNat).toArray.size = _
  simp
theorem bStr_cells {v : List Int} (h : IsB v) : bytesV (bStr v).data.toList = U8 v := by
  unfold bytesV bStr U8
  simp only [List.map_map]
  apply List.map_congr_left
  intro x hx
  have := h x hx
  simp only [Function.comp_apply]
  congr 1
  have e : (UInt8.ofNat x.toNat).toNat = x.toNat % 256 := by simp
  rw [e]
  omega
theorem bStr_strB (s : ByteArray) : bStr (strB s) = s := by
  unfold bStr strB
  rw [List.map_map]
  have : (List.map ((fun x : Int => UInt8.ofNat x.toNat) ∘ fun b : UInt8 => (b.toNat : Int)) s.data.toList) = s.data.toList := by
    conv => rhs; rw [← List.map_id s.data.toList]
    apply List.map_congr_left
    intro b _
    simp
  rw [this]
theorem toStr_rd {w : World} {b : Option Addr} {v : List Int} {l : Nat} {K : ByteArray → Prop} (h : Rd w b v) (hl : v.length = l) (hk : K (bStr v)) : ToStr b l w K := by
  cases b with
  | none =>
    have hv : v = [] := by
      rcases h.2 with e | ⟨_, _, e, _⟩
      · exact e
      · cases e
    subst hv
    exact hk
  | some a => exact ⟨bStr v, by rw [bStr_size]; exact hl, by rw [bStr_cells h.1]; exact h.cells, hk⟩
theorem toStr_str {w : World} {b : Option Addr} {s : ByteArray} {l : Nat} {K : ByteArray → Prop} (h : Rd w b (strB s)) (hl : s.size = l) (hk : K s) : ToStr b l w K :=
  toStr_rd h (by rw [strB_length]; exact hl) (by rw [bStr_strB]; exact hk)
/-- []byte(s), its capacity bounded. -/
theorem toBytes_ok2 {w : World} {s : ByteArray} {K : Nat → Nat → World → Prop} (hsz : s.size ≤ 9223372036854775807)
    (h : ∀ r cap w' z, s.size + z.length = cap → cap ≤ 9223372036854775807 → r = w.heap.size → w'.heap.size = r + 1 → Bf w' r (strB s ++ z) → Ext [] w w' → K r cap w') : ToBytes T_uint8 s w K :=
  ToBytes.mk2 fun r cap w' hc hc2 hr hs ho he => h r cap w' (List.replicate (cap - s.size) 0) (by simp; omega) (hc2 hsz) hr hs ⟨by
    have e : (U8 (strB s ++ List.replicate (cap - s.size) 0)).toArray = (bytesV s.data.toList).toArray ++ Array.replicate (cap - s.size) (.int .u8 0) := by
      apply Array.ext'
      simp [U8, strB, bytesV, Function.comp_def]
    rw [e]
    exact ho, (strB_isB s).append (fun x hx => by simp at hx; omega)⟩ he
end Go.Proofs.Qxb6500430aGreat.Kv
