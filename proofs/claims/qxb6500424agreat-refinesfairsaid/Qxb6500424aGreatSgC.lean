/-
  seg: the model's Encode; Decode of both sides.
-/
import Derived.Test.Qxb6500424aGreatSgB
set_option linter.unusedVariables false
set_option linter.unusedSimpArgs false
open Go.Vc
namespace Go.Proofs.Qxb6500424aGreat

section
variable {w : World} {src dst : Int} {h : Hd} {b : Option Addr} {l c : Nat} {D : List Int}
end
/-! ### Decode -/
def decAll (src dst : Int) (raw : List Int) : List Int := [src, dst] ++ raw.take 6 ++ raw.drop 8
def decErr (src dst : Int) (raw : List Int) : Int :=
  if off src ∨ off dst then 5 else if raw.length < 8 then 1 else if 20 < raw.length then 2 else if sumS (decAll src dst raw) % 256 ≠ raw.getD 6 0 ∨ sumW (decAll src dst raw) % 256 ≠ raw.getD 7 0 then 4 else if 15 < raw.getD 4 0 then 24 else 0
def decHd (raw : List Int) : Hd := ⟨raw.getD 0 0, raw.getD 1 0, raw.getD 2 0, raw.getD 3 0, raw.getD 4 0, raw.getD 5 0⟩
def zH : Hd := ⟨0, 0, 0, 0, 0, 0⟩
section
variable {w : World} {src dst : Int} {b : Option Addr} {l c : Nat} {raw : List Int}
/-- The answer's cells out of another record. -/
theorem retSeg {t n : Nat} {H : Hd} {b0 : Option Addr} {l0 c0 : Nat} {C : Array Value} {T : TypeId} {K : Int → Int → Int → Int → Int → Int → Option Addr → Nat → Nat → World → Prop} (ho : Own w n (H.cells b0 l0 c0) T_api_Segment) (ht : Own w t C T) (hC : C.size = 7)
    (hk : ∀ w', Ext [t] w w' → K H.sp H.dp H.sq H.ak H.fl H.wn b0 l0 c0 w') :
    LdI .i64 ⟨n, 0, none⟩ w fun x0 => LdI .i64 ⟨n, 1, none⟩ w fun x1 => LdI .i64 ⟨n, 2, none⟩ w fun x2 => LdI .i64 ⟨n, 3, none⟩ w fun x3 => LdI .i64 ⟨n, 4, none⟩ w fun x4 => LdI .i64 ⟨n, 5, none⟩ w fun x5 => LdL ⟨n, 6, none⟩ w fun x6 x7 x8 =>
      Sts [.int .i64 x0, .int .i64 x1, .int .i64 x2, .int .i64 x3, .int .i64 x4, .int .i64 x5, .slice x6 x7 x8] ⟨t, 0, none⟩ 0 w fun w1 =>
      LdI .i64 ⟨t, 0, none⟩ w1 fun y0 => LdI .i64 ⟨t, 1, none⟩ w1 fun y1 => LdI .i64 ⟨t, 2, none⟩ w1 fun y2 => LdI .i64 ⟨t, 3, none⟩ w1 fun y3 => LdI .i64 ⟨t, 4, none⟩ w1 fun y4 => LdI .i64 ⟨t, 5, none⟩ w1 fun y5 => LdL ⟨t, 6, none⟩ w1 fun y6 y7 y8 => K y0 y1 y2 y3 y4 y5 y6 y7 y8 w1 :=
  LdI.mk ho rfl (LdI.mk ho rfl (LdI.mk ho rfl (LdI.mk ho rfl (LdI.mk ho rfl (LdI.mk ho rfl (LdL.mk ho rfl (Sts.full (vs := [.int .i64 H.sp, .int .i64 H.dp, .int .i64 H.sq, .int .i64 H.ak, .int .i64 H.fl, .int .i64 H.wn, .slice b0 l0 c0]) ht (by rw [hC]; rfl) rfl fun w1 hs1 o1 he1 =>
    LdI.mk o1 rfl (LdI.mk o1 rfl (LdI.mk o1 rfl (LdI.mk o1 rfl (LdI.mk o1 rfl (LdI.mk o1 rfl (LdL.mk o1 rfl (hk w1 he1))))))))))))))
theorem retSeg2 {t : Nat} {H : Hd} {b0 : Option Addr} {l0 c0 : Nat} {C : Array Value} {T : TypeId} {K : Int → Int → Int → Int → Int → Int → Option Addr → Nat → Nat → World → Prop} (ht : Own w t C T) (hC : C.size = 7)
    (hk : ∀ w', Ext [t] w w' → K H.sp H.dp H.sq H.ak H.fl H.wn b0 l0 c0 w') :
      Sts [.int .i64 H.sp, .int .i64 H.dp, .int .i64 H.sq, .int .i64 H.ak, .int .i64 H.fl, .int .i64 H.wn, .slice b0 l0 c0] ⟨t, 0, none⟩ 0 w fun w1 =>
      LdI .i64 ⟨t, 0, none⟩ w1 fun y0 => LdI .i64 ⟨t, 1, none⟩ w1 fun y1 => LdI .i64 ⟨t, 2, none⟩ w1 fun y2 => LdI .i64 ⟨t, 3, none⟩ w1 fun y3 => LdI .i64 ⟨t, 4, none⟩ w1 fun y4 => LdI .i64 ⟨t, 5, none⟩ w1 fun y5 => LdL ⟨t, 6, none⟩ w1 fun y6 y7 y8 => K y0 y1 y2 y3 y4 y5 y6 y7 y8 w1 :=
  Sts.full (vs := [.int .i64 H.sp, .int .i64 H.dp, .int .i64 H.sq, .int .i64 H.ak, .int .i64 H.fl, .int .i64 H.wn, .slice b0 l0 c0]) ht (by rw [hC]; rfl) rfl fun w1 hs1 o1 he1 =>
    LdI.mk o1 rfl (LdI.mk o1 rfl (LdI.mk o1 rfl (LdI.mk o1 rfl (LdI.mk o1 rfl (LdI.mk o1 rfl (LdL.mk o1 rfl (hk w1 he1)))))))
/-- A byte at a fixed place. -/
theorem Rd.ldc {K : Int → Prop} (hr : Rd w b raw) (hl : raw.length = l) (i : Nat) (hi : i < l) (hk : K (raw.getD i 0)) : Pn b fun a => (0 ≤ (i : Int) ∧ (i : Int) < (l : Int)) ∧ LdI .u8 (a.add i) w K := by
  obtain ⟨k, o, rfl, hc⟩ := hr.at (getD_some (raw := raw) (i := i) (by omega))
  refine Pn.mk ⟨⟨by omega, by omega⟩, LdI.cell ?_ hk⟩
  rw [add_mk]
  exact hc
theorem Rd.ldc0 {K : Int → Prop} (hr : Rd w b raw) (hl : raw.length = l) (hi : 0 < l) (hk : K (raw.getD 0 0)) : Pn b fun a => (0 ≤ (0 : Int) ∧ (0 : Int) < (l : Int)) ∧ LdI .u8 a w K := by
  obtain ⟨k, o, rfl, hc⟩ := hr.at (getD_some (raw := raw) (i := 0) (by omega))
  refine Pn.mk ⟨⟨by omega, by omega⟩, LdI.cell ?_ hk⟩
  exact hc
theorem realDecode_ok {R : Int → Int → Int → Int → Int → Int → Option Addr → Nat → Nat → Int → World → Prop} (hr : Rd w b raw) (hl : raw.length = l) (hc : l ≤ c)
    (he : decErr src dst raw ≠ 0 → ∀ w', Ext [] w w' → R 0 0 0 0 0 0 none 0 0 (decErr src dst raw) w')
    (hR : decErr src dst raw = 0 → 8 ≤ l → l ≤ 20 → ∀ k w', w.heap.size ≤ k → Bf w' k (raw.drop 8) → Ext [] w w' → R (decHd raw).sp (decHd raw).dp (decHd raw).sq (decHd raw).ak (decHd raw).fl (decHd raw).wn (some ⟨k, 0, none⟩) (l - 8) (l - 8) 0 w') :
    seg_Decode.Call src dst b l c w R := by
  apply seg_Decode.sound
  unfold seg_Decode.B0
  refine New.mk fun t w1 e1 s1 o1 he1 => New.mk fun n w2 e2 s2 o2 he2 => Sts.full (vs := [.int .i64 0, .int .i64 0, .int .i64 0, .int .i64 0, .int .i64 0, .int .i64 0, .slice none 0 0]) o2 rfl rfl fun w3 hs3 o3 he3 => ?_
  have z1 := he1.size
  have ex3 : Ext [] w w3 := (he1.trans he2).trans' he3 (fun x hx hlt => by simp at hx; omega)
  have on3 : Own w3 n (zH.cells none 0 0) T_api_Segment := o3
  have ot3 := he3.own (he2.own o1 (by simp)) (by simp; omega)
  have err : ∀ {e : Int} {w' : World}, decErr src dst raw = e → e ≠ 0 → Ext [] w3 w' → LdI .i64 ⟨n, 0, none⟩ w' fun x0 => LdI .i64 ⟨n, 1, none⟩ w' fun x1 => LdI .i64 ⟨n, 2, none⟩ w' fun x2 => LdI .i64 ⟨n, 3, none⟩ w' fun x3 => LdI .i64 ⟨n, 4, none⟩ w' fun x4 => LdI .i64 ⟨n, 5, none⟩ w' fun x5 => LdL ⟨n, 6, none⟩ w' fun x6 x7 x8 =>
      Sts [.int .i64 x0, .int .i64 x1, .int .i64 x2, .int .i64 x3, .int .i64 x4, .int .i64 x5, .slice x6 x7 x8] ⟨t, 0, none⟩ 0 w' fun w1 =>
      LdI .i64 ⟨t, 0, none⟩ w1 fun y0 => LdI .i64 ⟨t, 1, none⟩ w1 fun y1 => LdI .i64 ⟨t, 2, none⟩ w1 fun y2 => LdI .i64 ⟨t, 3, none⟩ w1 fun y3 => LdI .i64 ⟨t, 4, none⟩ w1 fun y4 => LdI .i64 ⟨t, 5, none⟩ w1 fun y5 => LdL ⟨t, 6, none⟩ w1 fun y6 y7 y8 => R y0 y1 y2 y3 y4 y5 y6 y7 y8 e w1 := fun {e w'} h1 h2 hx =>
    retSeg (K := fun y0 y1 y2 y3 y4 y5 y6 y7 y8 w1 => R y0 y1 y2 y3 y4 y5 y6 y7 y8 e w1) (hx.own on3 (by simp)) (hx.own ot3 (by simp)) rfl fun w4 he4 => by
      rw [h1] at he
      exact he h2 w4 ((ex3.trans hx).trans' he4 (fun x hx hlt => by simp at hx; omega))
  have bad1 : (off src ∨ off dst) → seg_Decode.B1 src dst b l c t n true w3 R := fun hcc => by
    unfold seg_Decode.B1
    exact Bm.pos rfl (err (by unfold decErr; rw [if_pos hcc]) (by decide) (Ext.refl _ _))
  refine Bm.ite (fun q => bad1 (.inl (.inl q))) fun a1 => Bm.ite (fun q => bad1 (.inl (.inr q))) fun a2 => Bm.or (X := fun tt => seg_Decode.B1 src dst b l c t n tt w3 R) (fun q => bad1 (.inr q)) fun a3 a4 => ?_
  have n1 : ¬ (off src ∨ off dst) := by unfold off; omega
  unfold seg_Decode.B1
  refine Bm.neg rfl (Bm.ite (fun q => err (by unfold decErr; rw [if_neg n1, if_pos (by omega)]) (by decide) (Ext.refl _ _)) fun a5 => Bm.ite (fun q => err (by unfold decErr; rw [if_neg n1, if_neg (by omega), if_pos (by omega)]) (by decide) (Ext.refl _ _)) fun a6 => ⟨by omega, by omega, ?_⟩)
  have hrd : Rd w3.drew b raw := (hr.ext0 ex3).ext0 (Ext.drew _ _)
  rw [slBase0]
  have hH : Rd w3.drew b (raw.take 6) := hrd.take 6
  have hD : Rd w3.drew (slBase b (8 : Int) ((c : Nat) : Int) 1) (raw.drop 8) := hrd.drop 8 (by omega)
  have fin : ∀ (x : Nat) (wb : World), Own wb x #[.int .u8 (sumS (decAll src dst raw) % 256), .int .u8 (sumW (decAll src dst raw) % 256)] T_seg_sums → Ext [] w3 wb → seg_Decode.B2 b l c t n x wb R := fun x wb ho hx => by
    unfold seg_Decode.B2
    have hxd := hx.trans (Ext.drew _ _)
    have hod := ho.drew
    have hrb : Rd wb.drew b raw := (hr.ext0 ex3).ext0 hxd
    have bad : ∀ {P : Prop}, (sumS (decAll src dst raw) % 256 ≠ raw.getD 6 0 ∨ sumW (decAll src dst raw) % 256 ≠ raw.getD 7 0) → seg_Decode.B3 b l c t n true wb.drew R := fun hcc => by
      unfold seg_Decode.B3
      exact Bm.pos rfl (err (by unfold decErr; rw [if_neg n1, if_neg (by omega), if_neg (by omega), if_pos hcc]) (by decide) hxd)
    refine LdI.mk hod rfl (hrb.ldc hl 6 (by omega) (Bm.mk (fun q => bad (P := True) (.inl (by simpa using q))) fun q => LdI.mk hod rfl (hrb.ldc hl 7 (by omega) ?_)))
    by_cases q7 : sumW (decAll src dst raw) % 256 = raw.getD 7 0
    · rw [show (sumW (decAll src dst raw) % 256 != raw.getD 7 0) = false by simp [q7]]
      have q6 : sumS (decAll src dst raw) % 256 = raw.getD 6 0 := by simpa using q
      unfold seg_Decode.B3
      refine Bm.neg rfl (hrb.ldc hl 4 (by omega) (Bm.ite (fun q4 => err (by unfold decErr; rw [if_neg n1, if_neg (by omega), if_neg (by omega), if_neg (by simp [q6, q7]), if_pos (by omega)]) (by decide) hxd) fun q4 => ⟨by omega, ?_⟩))
      have ez : decErr src dst raw = 0 := by unfold decErr; rw [if_neg n1, if_neg (by omega), if_neg (by omega), if_neg (by simp [q6, q7]), if_neg (by omega)]
      refine copyBytes_ok (v := raw.drop 8) (hrb.drop 8 (by omega)) (by simp; omega) (by omega) fun k w5 hk hs5 hf5 he5 => ?_
      have hr5 : Rd w5.drew b raw := (hrb.ext0 he5).ext0 (Ext.drew _ _)
      have gb := getD_isB hr.isB
      refine hr5.ldc0 hl (by omega) (hr5.ldc hl 1 (by omega) (hr5.ldc hl 2 (by omega) (hr5.ldc hl 3 (by omega) (hr5.ldc hl 4 (by omega) (hr5.ldc hl 5 (by omega) ?_)))))
      rw [w64b (gb 0), w64b (gb 1), w64b (gb 2), w64b (gb 3), w64b (gb 4), w64b (gb 5)]
      have hx5 := (hxd.trans he5).trans (Ext.drew [] _)
      refine retSeg2 (H := decHd raw) (K := fun y0 y1 y2 y3 y4 y5 y6 y7 y8 w1 => R y0 y1 y2 y3 y4 y5 y6 y7 y8 0 w1) (hx5.own ot3 (by simp)) rfl fun w6 he6 => ?_
      have hkt : k ≠ t := by have := (hxd.own ot3 (by simp)).lt; omega
      have hxs := (ex3.trans hxd).size
      have := hR ez (by omega) (by omega) k w6 (by omega) ((hf5.ext0 (Ext.drew _ _)).ext he6 (by simpa using hkt)) ((ex3.trans hx5).trans' he6 (fun x hx hlt => by simp at hx; omega))
      exact this
    · rw [show (sumW (decAll src dst raw) % 256 != raw.getD 7 0) = true from bne_iff_ne.2 q7]
      exact bad (P := True) (.inr q7)
  refine ⟨?_, ?_⟩
  · refine over_ok (H := raw.take 6) (D := raw.drop 8) (by omega) (by omega) hH (by simp; omega) hD (by simp; omega) ⟨by omega, by omega⟩ fun w4 he4 => New.mk fun x w5 e5 s5 o5 he5 => Sts.full (vs := [.int .u8 (sumS (decAll src dst raw) % 256), .int .u8 (sumW (decAll src dst raw) % 256)]) o5 rfl rfl fun w6 hs6 o6 he6 => ?_
    exact fin x w6 o6 ((((Ext.drew [] w3).trans he4).trans he5).trans' he6 (fun y hy hlt => by simp at hy; have := he4.size; have := (Ext.drew [] w3).size; omega))
  · refine New.mk fun x w4 e4 s4 o4 he4 => over_ok (H := raw.take 6) (D := raw.drop 8) (by omega) (by omega) (hH.ext0 he4) (by simp; omega) (hD.ext0 he4) (by simp; omega) ⟨by omega, by omega⟩ fun w5 he5 => ?_
    refine Sts.full (vs := [.int .u8 (sumS (decAll src dst raw) % 256), .int .u8 (sumW (decAll src dst raw) % 256)]) (he5.own o4 (by simp)) rfl rfl fun w6 hs6 o6 he6 => ?_
    exact fin x w6 o6 ((((Ext.drew [] w3).trans he4).trans he5).trans' he6 (fun y hy hlt => by simp at hy; have := (Ext.drew [] w3).size; omega))
end
end Go.Proofs.Qxb6500424aGreat
