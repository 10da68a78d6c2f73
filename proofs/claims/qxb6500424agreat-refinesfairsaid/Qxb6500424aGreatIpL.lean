/-
  ip: packets.
-/
import Derived.Test.Qxb6500424aGreatIpK
set_option linter.unusedVariables false
set_option linter.unusedSimpArgs false
open Go.Vc
namespace Go.Proofs.Qxb6500424aGreat.Ip

/-- One packet. -/
def pkt (proto src dst id offmore : Int) (d : List Int) : List Int := [proto, 8, src, dst, id, offmore, (d.length : Int), sum7 [proto, 8, src, dst, id, offmore, (d.length : Int)]] ++ d
theorem pkt_length (proto src dst id offmore : Int) (d : List Int) : (pkt proto src dst id offmore d).length = 8 + d.length := by simp [pkt]; omega
theorem sum7_range (v : List Int) : 0 ≤ sum7 v ∧ sum7 v < 256 := by unfold sum7; omega
theorem packet_ok {w : World} {proto src dst id offmore : Int} {b : Option Addr} {l c : Nat} {d : List Int} {R : Option Addr → Nat → Nat → World → Prop} (hp : 0 ≤ proto ∧ proto < 256) (hs : 0 ≤ src ∧ src < 256) (hd : 0 ≤ dst ∧ dst < 256) (hi : 0 ≤ id ∧ id < 256) (ho : 0 ≤ offmore ∧ offmore < 256)
    (hv : Rd w b d) (hl : d.length = l) (hl2 : l < 256) (hR : ∀ k w', k = w.heap.size → w'.heap.size = k + 1 → Bf w' k (pkt proto src dst id offmore d) → Ext [] w w' → R (some ⟨k, 0, none⟩) (8 + l) (8 + l) w') :
    ip_packet.Call proto src dst id offmore b l c w R := by
  apply ip_packet.sound
  unfold ip_packet.B0
  have e8 : IntKind.i64.wrap ((8 : Int) + (l : Nat)) = ((8 + l : Nat) : Int) := by rw [w64 (by omega) (by omega)]; omega
  simp only [e8, Int.toNat_natCast, wrap8_id hp.1 hp.2, wrap8_id hs.1 hs.2, wrap8_id hd.1 hd.2, wrap8_id hi.1 hi.2, wrap8_id ho.1 ho.2, wrap8_id (x := ((l : Nat) : Int)) (by omega) (by omega)]
  refine make8_ok rfl (by omega) (by omega) fun k w1 hk hs1 hf1 he1 => ?_
  have er : List.replicate ((8 + l : Nat) : Int).toNat (0 : Int) = 0 :: 0 :: 0 :: 0 :: 0 :: 0 :: 0 :: 0 :: List.replicate l 0 := by
    rw [Int.toNat_natCast, Nat.add_comm]
    rfl
  rw [er] at hf1
  refine ⟨by omega, hf1.set (by simp) hp fun w2 hs2 hf2 he2 => ⟨by omega, hf2.set (by simp) (by omega) fun w3 hs3 hf3 he3 => ⟨by omega, hf3.set (by simp) hs fun w4 hs4 hf4 he4 => ⟨by omega, hf4.set (by simp) hd fun w5 hs5 hf5 he5 => ⟨by omega, hf5.set (by simp) hi fun w6 hs6 hf6 he6 => ⟨by omega, hf6.set (by simp) ho fun w7 hs7 hf7 he7 => ⟨by omega, hf7.set (by simp) (by omega) fun w8 hs8 hf8 he8 => ?_⟩⟩⟩⟩⟩⟩⟩
  have hf8' : Bf w8 k (proto :: 8 :: src :: dst :: id :: offmore :: (l : Int) :: 0 :: List.replicate l 0) := hf8
  refine sumOf_ok hf8'.rd0 (by simp; omega) (by omega) ⟨by omega, ?_⟩
  have esum : sum7 (proto :: 8 :: src :: dst :: id :: offmore :: (l : Int) :: 0 :: List.replicate l 0) = sum7 [proto, 8, src, dst, id, offmore, (l : Int)] := rfl
  rw [esum]
  refine hf8'.set (by simp) (sum7_range _) fun w9 hs9 hf9 he9 => ⟨⟨by omega, by omega⟩, ?_⟩
  have hf9' : Bf w9 k ([proto, 8, src, dst, id, offmore, (l : Int), sum7 [proto, 8, src, dst, id, offmore, (l : Int)]] ++ List.replicate l 0) := hf9
  have E9 : Ext [] w w9 := he1.trans' (((((((he2.trans he3).trans he4).trans he5).trans he6).trans he7).trans he8).trans he9) (fun x hx hlt => by simp at hx; omega)
  have hv9 := hv.ext0 E9
  have key : ∀ w10, Own w10 k (putArr (U8 ([proto, 8, src, dst, id, offmore, (l : Int), sum7 [proto, 8, src, dst, id, offmore, (l : Int)]] ++ List.replicate l 0)).toArray 8 (U8 d)) T_uint8 → w10.heap.size = w9.heap.size → Ext [k] w9 w10 → R (some ⟨k, 0, none⟩) (8 + l) (8 + l) w10 := fun w10 ho10 hs10 he10 => by
    refine hR k w10 hk (by omega) ⟨?_, ?_⟩ (E9.trans' he10 (fun x hx hlt => by simp at hx; omega))
    · have e : putArr (U8 ([proto, 8, src, dst, id, offmore, (l : Int), sum7 [proto, 8, src, dst, id, offmore, (l : Int)]] ++ List.replicate l 0)).toArray 8 (U8 d) = (U8 (pkt proto src dst id offmore d)).toArray := by
        apply Array.ext'
        have h1 := take_putArr (U8 ([proto, 8, src, dst, id, offmore, (l : Int), sum7 [proto, 8, src, dst, id, offmore, (l : Int)]] ++ List.replicate l 0)).toArray 8 (U8 d) (by simp [U8]; omega)
        rw [List.take_of_length_le (by rw [Array.length_toList, size_putArr]; simp [U8]; omega)] at h1
        rw [h1]
        unfold pkt
        rw [hl]
        simp [U8]
      rw [e] at ho10
      exact ho10
    · intro x hx
      unfold pkt at hx
      rcases List.mem_append.1 hx with hx | hx
      · have := sum7_range [proto, 8, src, dst, id, offmore, (d.length : Int)]
        simp only [List.mem_cons, List.not_mem_nil, or_false] at hx
        rcases hx with q | q | q | q | q | q | q | q <;> subst q <;> first | assumption | omega
      · exact hv.1 x hx
  by_cases hl0 : l = 0
  · subst hl0
    have ed : d = [] := List.eq_nil_of_length_eq_zero hl
    subst ed
    refine Copy.mk2 (o := 0) hf9'.1 (news := []) (by cases b <;> simp [CellsAt]) (by simp) (by simp) rfl fun w10 hs10 ho10 he10 => ?_
    exact key w10 (by simpa [putArr, U8] using ho10) hs10 he10
  · have eb : slBase (some (⟨k, 0, none⟩ : Addr)) (8 : Int) ((8 + l : Nat) : Int) 1 = some ⟨k, 8, none⟩ := by
      unfold slBase
      rw [if_neg (by have : (8 : Int).toNat = 8 := rfl; omega)]
      simp only [Option.map_some, add_mk]
      rfl
    rw [eb]
    have e88 : 8 + l - (8 : Int).toNat = l := by have : (8 : Int).toNat = 8 := rfl; omega
    rw [e88]
    exact Copy.mk2 hf9'.1 hv9.cells (by rw [U8_length, hl]; simp) (by simp [U8]; omega) (U8_all d) fun w10 hs10 ho10 he10 => key w10 ho10 hs10 he10
end Go.Proofs.Qxb6500424aGreat.Ip
