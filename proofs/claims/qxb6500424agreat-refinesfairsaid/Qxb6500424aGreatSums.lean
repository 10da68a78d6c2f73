/-
  The two sums: the real running pair and the model's definitions, and the soundness checks of both sides.
-/
import Derived.Test.Qxb6500424aGreatBytes
import Derived.Test.Qxb6500424aGreatSame
set_option linter.unusedVariables false
open Go.Vc
namespace Go.Proofs.Qxb6500424aGreat.Fm

/-! ### the plain law -/
def sumS : List Int → Int
  | [] => 0
  | x :: r => x + sumS r
def sumW : List Int → Int
  | [] => 0
  | x :: r => ((r.length : Int) + 1) * x + sumW r
theorem sumS_snoc (v : List Int) (x : Int) : sumS (v ++ [x]) = sumS v + x := by
  induction v with
  | nil => simp [sumS]
  | cons y r ih => simp only [List.cons_append, sumS, ih]; omega
theorem sumW_snoc (v : List Int) (x : Int) : sumW (v ++ [x]) = sumW v + sumS v + x := by
  induction v with
  | nil => simp [sumW, sumS]
  | cons y r ih =>
    simp only [List.cons_append, sumW, sumS, ih, List.length_append, List.length_cons, List.length_nil]
    have e : (((r.length + (0 + 1) : Nat) : Int) + 1) * y = ((r.length : Int) + 1) * y + y := by
      have : (((r.length + (0 + 1) : Nat) : Int) + 1) = ((r.length : Int) + 1) + 1 := by omega
      rw [this, Int.add_mul]
      omega
    rw [e]
    omega

/-! ### the real side -/
/-- The running pair behind the bytes v. -/
def SumAt (w : World) (u : Nat) (v : List Int) : Prop := Own w u #[.int .u8 (sumS v % 256), .int .u8 (sumW v % 256)] T_frame_Sum

theorem sumAdd_ok {w : World} {u : Nat} {v : List Int} {x : Int} {R : World → Prop} (hu : SumAt w u v)
    (hR : ∀ w', SumAt w' u (v ++ [x]) → Ext [u] w w' → w'.heap.size = w.heap.size → R w') : frame_Sum_Add.Call (some ⟨u, 0, none⟩) x w R := by
  apply frame_Sum_Add.sound
  unfold frame_Sum_Add.B0
  simp only [Pn, add_mk, Nat.zero_add]
  unfold SumAt at hu
  refine LdI.mk hu rfl (Sts.mk hu (by simp) rfl fun w1 hs1 ho1 he1 => ?_)
  have ho2 := ho1.drew
  refine LdI.mk ho2 rfl (LdI.mk ho2 rfl (Sts.mk ho2 (by simp [size_putArr]) rfl fun w2 hs2 ho3 he3 => ?_))
  refine hR w2 ?_ (he1.trans ((Ext.drew _ _).trans he3)) (by rw [hs2]; exact hs1)
  unfold SumAt
  have e1 : IntKind.u8.wrap (sumS v % 256 + x) = sumS (v ++ [x]) % 256 := by
    rw [wrap8_eq, sumS_snoc]
    omega
  have e2 : IntKind.u8.wrap (sumW v % 256 + IntKind.u8.wrap (sumS v % 256 + x)) = sumW (v ++ [x]) % 256 := by
    rw [wrap8_eq, wrap8_eq, sumW_snoc]
    omega
  rw [← e2, ← e1]
  exact ho3

theorem sumAddAll_ok {w : World} {u : Nat} {v p : List Int} {b : Option Addr} {l c : Nat} {R : World → Prop} (hu : SumAt w u v) (hp : Rd w b p) (hl : p.length = l) (hb : l ≤ 281474976710656) (hne : ∀ k o, b = some ⟨k, o, none⟩ → k ≠ u)
    (hR : ∀ w', SumAt w' u (v ++ p) → Ext [u] w w' → w'.heap.size = w.heap.size → R w') : frame_Sum_AddAll.Call (some ⟨u, 0, none⟩) b l c w R := by
  apply frame_Sum_AddAll.sound
  unfold frame_Sum_AddAll.B0 frame_Sum_AddAll.L1
  refine ⟨fun m u' b' l' c' i w' => some ⟨u, 0, none⟩ = u' ∧ b = b' ∧ l = l' ∧ c = c' ∧ 0 ≤ i ∧ i ≤ l ∧ m = (l - i).toNat ∧ Ext [u] w w' ∧ w'.heap.size = w.heap.size ∧ SumAt w' u (v ++ p.take i.toNat), l, ⟨rfl, rfl, rfl, rfl, by omega, by omega, by omega, Ext.refl _ _, rfl, by simpa using hu⟩, ?_⟩
  rintro m u' b' l' c' i w' ⟨rfl, rfl, rfl, rfl, h0, h1, rfl, he, hsz, hs⟩
  unfold frame_Sum_AddAll.L1b
  refine Bm.ite (fun hi => ?_) (fun hi => ?_)
  · obtain ⟨x, hx⟩ : ∃ x, p[i.toNat]? = some x := ⟨_, List.getElem?_eq_getElem (by omega)⟩
    obtain ⟨k, o, rfl, hc⟩ := (hp.ext he (fun k o hb' h => hne k o hb' (by simpa using h))).at hx
    refine Pn.mk ⟨⟨h0, hi⟩, LdI.cell (by rw [add_mk, Nat.mul_one]; exact hc) (sumAdd_ok hs fun w2 hs2 he2 hz2 => ?_)⟩
    rw [w64 (by omega) (by omega)]
    refine ⟨(l - (i + 1)).toNat, by omega, rfl, rfl, rfl, rfl, by omega, by omega, rfl, he.trans he2, by omega, ?_⟩
    have e : (i + 1).toNat = i.toNat + 1 := by omega
    rw [e, List.take_add_one, hx, ← List.append_assoc]
    exact hs2
  · have hi' : i.toNat = l := by omega
    rw [hi', List.take_of_length_le (by omega)] at hs
    exact hR w' hs he hsz

theorem sumA_real {w : World} {u : Nat} {v : List Int} {R : Int → World → Prop} (hu : SumAt w u v) (hR : R (sumS v % 256) w) : frame_Sum_A.Call (some ⟨u, 0, none⟩) w R := by
  apply frame_Sum_A.sound
  unfold frame_Sum_A.B0
  exact Pn.mk (LdI.mk hu rfl hR)
theorem sumB_real {w : World} {u : Nat} {v : List Int} {R : Int → World → Prop} (hu : SumAt w u v) (hR : R (sumW v % 256) w) : frame_Sum_B.Call (some ⟨u, 0, none⟩) w R := by
  apply frame_Sum_B.sound
  unfold frame_Sum_B.B0
  simp only [Pn, add_mk, Nat.zero_add]
  exact LdI.mk hu rfl hR

/-! ### the model -/
theorem drop_cons {p : List Int} {i : Nat} {x : Int} (hx : p[i]? = some x) : p.drop i = x :: p.drop (i + 1) := by
  obtain ⟨h1, h2⟩ := List.getElem?_eq_some_iff.1 hx
  rw [List.drop_eq_getElem_cons h1, h2]

/-! ### is a row of bytes a sound frame -/
/-- The Errno of a row of bytes (ErrShort 1, ErrLong 2, ErrLen 3, ErrSum 4, OK 0). -/
def frameErr (p : List Int) : Int :=
  if p.length < 6 then 1 else if 30 < p.length then 2
  else if p.getD 3 0 ≠ (p.length : Int) - 6 then 3
  else if sumS (p.take (p.length - 2)) % 256 ≠ p.getD (p.length - 2) 0 ∨ sumW (p.take (p.length - 2)) % 256 ≠ p.getD (p.length - 1) 0 then 4 else 0

theorem getD_of {p : List Int} {i : Nat} {x : Int} (h : p[i]? = some x) : p.getD i 0 = x := by simp [List.getD, h]

theorem sound_real {w : World} {b : Option Addr} {l c : Nat} {p : List Int} {R : Int → World → Prop} (hp : Rd w b p) (hl : p.length = l) (hc : l ≤ c) (hb : l ≤ 281474976710656) (hR : ∀ w', Ext [] w w' → R (frameErr p) w') : frame_sound.Call b l c w R := by
  apply frame_sound.sound
  unfold frame_sound.B0
  unfold frameErr at hR
  rw [hl] at hR
  rw [w64 (x := (l : Int) - 2) (by omega) (by omega)]
  refine Bm.ite (fun h => ?_) (fun h => ?_)
  · rw [if_pos (by omega)] at hR
    exact hR w (Ext.refl _ _)
  rw [if_neg (by omega)] at hR
  refine Bm.ite (fun h2 => ?_) (fun h2 => ?_)
  · rw [if_pos (by omega)] at hR
    exact hR w (Ext.refl _ _)
  rw [if_neg (by omega)] at hR
  obtain ⟨x3, hx3⟩ : ∃ x, p[3]? = some x := ⟨_, List.getElem?_eq_getElem (by omega)⟩
  obtain ⟨y, hy⟩ : ∃ x, p[l - 2]? = some x := ⟨_, List.getElem?_eq_getElem (by omega)⟩
  obtain ⟨z, hz⟩ : ∃ x, p[l - 1]? = some x := ⟨_, List.getElem?_eq_getElem (by omega)⟩
  rw [getD_of hx3, getD_of hy, getD_of hz] at hR
  have b3 := hp.1.get hx3
  obtain ⟨k, o, rfl, hc3⟩ := hp.at hx3
  refine Pn.mk ⟨⟨by omega, by omega⟩, LdI.cell (by rw [add_mk]; exact hc3) ?_⟩
  rw [w64b b3, w64 (x := (l : Int) - 2 - 4) (by omega) (by omega)]
  refine Bm.mk (fun h3 => ?_) (fun h3 => ?_)
  · have : x3 ≠ (l : Int) - 6 := by
      have : x3 ≠ (l : Int) - 2 - 4 := by simpa using h3
      omega
    rw [if_pos this] at hR
    exact hR w (Ext.refl _ _)
  have e3 : x3 = (l : Int) - 6 := by
    have : x3 = (l : Int) - 2 - 4 := by simpa using h3
    omega
  rw [if_neg (by simp [e3])] at hR
  refine New.mk fun u w1 hu hs1 ho1 he1 => ?_
  have hkl : k < w.heap.size := by
    rcases hp.2 with hn | ⟨k', o', e, hlt, _⟩
    · rw [hn] at hl; simp at hl; omega
    · simp only [Option.some.injEq, Addr.mk.injEq] at e
      rw [e.1]
      exact hlt
  have hp1 := hp.ext0 he1
  rw [slBase0]
  have e2 : ((l : Int) - 2).toNat - ((0 : Nat) : Int).toNat = l - 2 := by omega
  rw [e2]
  have hlt : (p.take (l - 2)).length = l - 2 := by simp; omega
  refine ⟨⟨by omega, by omega⟩, sumAddAll_ok (v := []) (by simpa [SumAt, sumS, sumW] using ho1) (hp1.take (l - 2)) hlt (by omega) (fun k' o' e => ?_) fun w2 hs2 he2 hz2 => ?_⟩
  · simp only [Option.some.injEq, Addr.mk.injEq] at e
    omega
  have he02 : Ext [] w w2 := he1.trans' he2 (fun x hx hlt => by simp at hx; omega)
  have hp2 := hp.ext0 he02
  have rdat : ∀ i x, p[i]? = some x → w2.cell? ⟨k, o + i, none⟩ = some (.int .u8 x) := fun i x hx => by
    obtain ⟨k', o', e, h⟩ := hp2.at hx
    simp only [Option.some.injEq, Addr.mk.injEq] at e
    obtain ⟨rfl, rfl, _⟩ := e
    exact h
  refine sumA_real hs2 (sumB_real hs2 (Pn.mk ⟨⟨by omega, by omega⟩, LdI.cell (n := y) ?_ ?_⟩))
  · rw [add_mk, Nat.mul_one, show ((l : Int) - 2).toNat = l - 2 by omega]
    exact rdat _ _ hy
  unfold frame_sound.B1
  simp only [List.nil_append]
  refine Bm.mk (fun h4 => ?_) (fun h4 => ?_)
  · have : sumS (p.take (l - 2)) % 256 ≠ y := by simpa using h4
    rw [if_pos (.inl this)] at hR
    exact Bm.pos rfl (hR w2 he02)
  have e4 : sumS (p.take (l - 2)) % 256 = y := by simpa using h4
  rw [w64 (x := (l : Int) - 2 + 1) (by omega) (by omega)]
  refine Pn.mk ⟨⟨by omega, by omega⟩, LdI.cell (n := z) ?_ ?_⟩
  · rw [add_mk, Nat.mul_one, show ((l : Int) - 2 + 1).toNat = l - 1 by omega]
    exact rdat _ _ hz
  refine Bm.mk (fun h5 => ?_) (fun h5 => ?_)
  · have : sumW (p.take (l - 2)) % 256 ≠ z := by simpa using h5
    rw [if_pos (.inr this)] at hR
    exact hR w2 he02
  · have : sumW (p.take (l - 2)) % 256 = z := by simpa using h5
    rw [if_neg (by simp [e4, this])] at hR
    exact hR w2 he02
end Go.Proofs.Qxb6500424aGreat.Fm
