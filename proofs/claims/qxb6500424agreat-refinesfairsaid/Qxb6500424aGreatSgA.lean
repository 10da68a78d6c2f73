/-
  seg: sequence numbers, the sums of both sides.
-/
import Derived.Test.Qxb6500424aGreatCnA
set_option linter.unusedVariables false
set_option linter.unusedSimpArgs false
open Go.Vc
namespace Go.Proofs.Qxb6500424aGreat

/-! ### sequence numbers -/
section
variable {w : World}
end
/-! ### the plain sums -/
def sumS : List Int → Int
  | [] => 0
  | x :: r => x + sumS r
def sumW : List Int → Int
  | [] => 0
  | x :: r => ((r.length : Int) + 1) * x + sumW r
theorem sumS_snoc (v : List Int) (x : Int) : sumS (v ++ [x]) = sumS v + x := by
  induction v with
  | nil => simp [sumS]
  | cons y r ih => simp only [List.cons_append, sumS, ih]; omega
theorem sumW_snoc (v : List Int) (x : Int) : sumW (v ++ [x]) = sumW v + sumS v + x := by
  induction v with
  | nil => simp [sumW, sumS]
  | cons y r ih =>
    simp only [List.cons_append, sumW, sumS, ih, List.length_append, List.length_cons, List.length_nil]
    have e : (((r.length + (0 + 1) : Nat) : Int) + 1) * y = ((r.length : Int) + 1) * y + y := by
      have : (((r.length + (0 + 1) : Nat) : Int) + 1) = ((r.length : Int) + 1) + 1 := by omega
      rw [this, Int.add_mul]
      omega
    rw [e]
    omega
/-! ### the real side's running pair -/
def SumAt (w : World) (u : Nat) (v : List Int) : Prop := Own w u #[.int .u8 (sumS v % 256), .int .u8 (sumW v % 256)] T_seg_sums
theorem sumAdd_ok {w : World} {u : Nat} {v : List Int} {x : Int} {R : World → Prop} (hu : SumAt w u v)
    (hR : ∀ w', SumAt w' u (v ++ [x]) → Ext [u] w w' → w'.heap.size = w.heap.size → R w') : seg_sums_add.Call (some ⟨u, 0, none⟩) x w R := by
  apply seg_sums_add.sound
  unfold seg_sums_add.B0
  simp only [Pn, add_mk, Nat.zero_add]
  unfold SumAt at hu
  refine LdI.mk hu rfl (Sts.mk hu (by simp) rfl fun w1 hs1 ho1 he1 => ?_)
  have ho2 := ho1.drew
  refine LdI.mk ho2 rfl (LdI.mk ho2 rfl (Sts.mk ho2 (by simp [size_putArr]) rfl fun w2 hs2 ho3 he3 => ?_))
  refine hR w2 ?_ (he1.trans ((Ext.drew _ _).trans he3)) (by rw [hs2]; exact hs1)
  unfold SumAt
  have e1 : IntKind.u8.wrap (sumS v % 256 + x) = sumS (v ++ [x]) % 256 := by
    rw [wrap8_eq, sumS_snoc]
    omega
  have e2 : IntKind.u8.wrap (sumW v % 256 + IntKind.u8.wrap (sumS v % 256 + x)) = sumW (v ++ [x]) % 256 := by
    rw [wrap8_eq, wrap8_eq, sumW_snoc]
    omega
  rw [← e2, ← e1]
  exact ho3
theorem sumAll_ok {w : World} {u : Nat} {v p : List Int} {b : Option Addr} {l c : Nat} {R : World → Prop} (hu : SumAt w u v) (hp : ∀ w', Ext [u] w w' → Rd w' b p) (hl : p.length = l) (hb : l ≤ 281474976710656)
    (hR : ∀ w', SumAt w' u (v ++ p) → Ext [u] w w' → w'.heap.size = w.heap.size → R w') : seg_sums_all.Call (some ⟨u, 0, none⟩) b l c w R := by
  apply seg_sums_all.sound
  unfold seg_sums_all.B0 seg_sums_all.L1
  refine ⟨fun m x' b' l' c' i w' => ∃ n : Nat, n ≤ l ∧ m = l - n ∧ some ⟨u, 0, none⟩ = x' ∧ b = b' ∧ l = l' ∧ i = (n : Int) ∧ SumAt w' u (v ++ p.take n) ∧ Ext [u] w w' ∧ w'.heap.size = w.heap.size, _,
    ⟨0, by omega, rfl, rfl, rfl, rfl, rfl, by simpa using hu, Ext.refl _ _, rfl⟩, ?_⟩
  rintro m x' b' l' c' i w' ⟨n, hn, rfl, rfl, rfl, rfl, rfl, hu', he', hs'⟩
  unfold seg_sums_all.L1b
  refine Bm.ite (fun hlt => ?_) fun hge => ?_
  · obtain ⟨x, hx⟩ := get_lt (L := p) (n := n) (by omega)
    have hp' := hp w' he'
    refine hp'.ldn hx hl (sumAdd_ok hu' fun w2 hu2 he2 hs2 => ⟨l - (n + 1), by omega, n + 1, by omega, rfl, rfl, rfl, rfl, by rw [w64 (by omega) (by omega)]; omega, ?_, he'.trans he2, by omega⟩)
    rw [take1 hx, ← List.append_assoc]
    exact hu2
  · rw [List.take_of_length_le (by omega)] at hu'
    exact hR w' hu' he' hs'
theorem over_ok {w : World} {src dst : Int} {hb db : Option Addr} {hl hc dl dc : Nat} {H D : List Int} {R : Int → Int → World → Prop} (hs : 0 ≤ src ∧ src < 256) (hd : 0 ≤ dst ∧ dst < 256) (hH : Rd w hb H) (hHl : H.length = hl) (hD : Rd w db D) (hDl : D.length = dl) (bl : hl ≤ 1000 ∧ dl ≤ 1000)
    (hR : ∀ w', Ext [] w w' → R (sumS ([src, dst] ++ H ++ D) % 256) (sumW ([src, dst] ++ H ++ D) % 256) w') : seg_over.Call src dst hb hl hc db dl dc w R := by
  apply seg_over.sound
  unfold seg_over.B0
  refine New.mk fun r0 w1 e1 s1 o1 he1 => New.mk fun r w2 e2 s2 o2 he2 => Sts.full (vs := [.int .u8 0, .int .u8 0]) o2 rfl rfl fun w3 hs3 o3 he3 => ?_
  rw [wrap8_id hs.1 hs.2, wrap8_id hd.1 hd.2]
  have h3 : SumAt w3 r [] := o3
  have z1 := he1.size
  have ex3 : Ext [r] w w3 := ((he1.trans he2).nil).trans he3
  have hr : ∀ k ∈ [r], w.heap.size ≤ k := fun k hk => by simp at hk; omega
  refine sumAdd_ok h3 fun w4 h4 he4 hs4 => sumAdd_ok h4 fun w5 h5 he5 hs5 => sumAll_ok h5 (fun w' he => hH.old (((ex3.trans he4).trans he5).trans he) hr) hHl (by omega) fun w6 h6 he6 hs6 =>
    sumAll_ok h6 (fun w' he => hD.old ((((ex3.trans he4).trans he5).trans he6).trans he) hr) hDl (by omega) fun w7 h7 he7 hs7 => ?_
  have ex7 : Ext [r] w1 w7 := (((((he2.nil).trans he3).trans he4).trans he5).trans he6).trans he7
  have o7 := ex7.own o1 (by simp; omega)
  unfold SumAt at h7
  refine LdI.mk h7 rfl (LdI.mk h7 rfl (Sts.full (vs := [.int .u8 (sumS ([] ++ [src] ++ [dst] ++ H ++ D) % 256), .int .u8 (sumW ([] ++ [src] ++ [dst] ++ H ++ D) % 256)]) o7 rfl rfl fun w8 hs8 o8 he8 => LdI.mk o8 rfl (LdI.mk o8 rfl (hR w8 ?_))))
  exact (he1.trans' ex7 (fun x hx hlt => by simp at hx; omega)).trans' he8 (fun x hx hlt => by simp at hx; omega)
/-! ### the model's sums -/
theorem sumS_app (u v : List Int) : sumS (u ++ v) = sumS u + sumS v := by
  induction u with
  | nil => simp [sumS]
  | cons x r ih => simp only [List.cons_append, sumS, ih]; omega
end Go.Proofs.Qxb6500424aGreat
