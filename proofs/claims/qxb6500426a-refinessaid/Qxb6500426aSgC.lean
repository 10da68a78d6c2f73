/-
  seg: the model's Encode; Decode of both sides.
-/
import Derived.Test.Qxb6500426aSgB
set_option linter.unusedVariables false
set_option linter.unusedSimpArgs false
open Go.Vc
namespace Go.Proofs.Qxb6500426a

section
variable {w : World} {src dst : Int} {h : Hd} {b : Option Addr} {l c : Nat} {D : List Int}
theorem modEncode_ok {R : Option Addr → Nat → Nat → Int → World → Prop} (hD : Rd w b D) (hl : D.length = l) 
    (he : encErr src dst h l ≠ 0 → ∀ w', Ext [] w w' → R none 0 0 (encErr src dst h l) w')
    (hR : EncOk src dst h l → encErr src dst h l = 0 → ∀ b' c' w', Row w' b' (8 + l) c' 1 T_uint8 (U8 (encSeg src dst h D)) → (∀ k ∈ rowBlk b', w.heap.size ≤ k) → Ext [] w w' → R b' (8 + l) c' 0 w') :
    segm_Encode.Call src dst h.sp h.dp h.sq h.ak h.fl h.wn b l c w R := by
  apply segm_Encode.sound
  unfold segm_Encode.B0
  refine New.mk fun s w1 e1 s1 o1 he1 => ?_
  have o1' : Own w1 s (h.cells b l c) T_api_Segment := o1
  have bad1 : (off src ∨ off dst) → segm_Encode.B1 src dst s true w1 R := fun hc => by
    unfold segm_Encode.B1
    unfold encErr at he
    rw [if_pos hc] at he
    exact Bm.pos rfl (he (by decide) w1 he1)
  refine Bm.ite (fun q => bad1 (.inl (.inl q))) fun a1 => Bm.ite (fun q => bad1 (.inl (.inr q))) fun a2 => Bm.or (X := fun t => segm_Encode.B1 src dst s t w1 R) (fun q => bad1 (.inr q)) fun a3 a4 => ?_
  have n1 : ¬ (off src ∨ off dst) := by unfold off; omega
  unfold segm_Encode.B1
  refine Bm.neg rfl ?_
  have bad2 : (off h.sp ∨ off h.dp) → segm_Encode.B2 src dst s true w1 R := fun hc => by
    unfold segm_Encode.B2
    unfold encErr at he
    rw [if_neg n1, if_pos hc] at he
    exact Bm.pos rfl (he (by decide) w1 he1)
  refine LdI.mk o1' rfl (Bm.ite (fun q => bad2 (.inl (.inl q))) fun a5 => LdI.mk o1' rfl (Bm.ite (fun q => bad2 (.inl (.inr q))) fun a6 => LdI.mk o1' rfl (Bm.ite (fun q => bad2 (.inr (.inl q))) fun a7 => LdI.mk o1' rfl ?_)))
  by_cases a8 : h.dp > 255
  · rw [decide_eq_true a8]; exact bad2 (.inr (.inr a8))
  rw [decide_eq_false a8]
  have n2 : ¬ (off h.sp ∨ off h.dp) := by unfold off; omega
  unfold segm_Encode.B2
  refine Bm.neg rfl ?_
  have bad3 : (off h.sq ∨ off h.ak) → segm_Encode.B3 src dst s true w1 R := fun hc => by
    unfold segm_Encode.B3
    unfold encErr at he
    rw [if_neg n1, if_neg n2, if_pos hc] at he
    exact Bm.pos rfl (he (by decide) w1 he1)
  refine LdI.mk o1' rfl (Bm.ite (fun q => bad3 (.inl (.inl q))) fun b1 => LdI.mk o1' rfl (Bm.ite (fun q => bad3 (.inl (.inr q))) fun b2 => LdI.mk o1' rfl (Bm.ite (fun q => bad3 (.inr (.inl q))) fun b3 => LdI.mk o1' rfl ?_)))
  by_cases b4 : h.ak > 255
  · rw [decide_eq_true b4]; exact bad3 (.inr (.inr b4))
  rw [decide_eq_false b4]
  have n3 : ¬ (off h.sq ∨ off h.ak) := by unfold off; omega
  unfold segm_Encode.B3
  refine Bm.neg rfl ?_
  have bad4 : (off h.wn ∨ h.fl < 0 ∨ 15 < h.fl) → segm_Encode.B4 src dst s true w1 R := fun hc => by
    unfold segm_Encode.B4
    unfold encErr at he
    rw [if_neg n1, if_neg n2, if_neg n3, if_pos hc] at he
    exact Bm.pos rfl (he (by decide) w1 he1)
  refine LdI.mk o1' rfl (Bm.ite (fun q => bad4 (.inl (.inl q))) fun c1 => LdI.mk o1' rfl (Bm.ite (fun q => bad4 (.inl (.inr q))) fun c2 => LdI.mk o1' rfl (Bm.ite (fun q => bad4 (.inr (.inl q))) fun c3 => LdI.mk o1' rfl ?_)))
  by_cases c4 : h.fl > 15
  · rw [decide_eq_true c4]; exact bad4 (.inr (.inr c4))
  rw [decide_eq_false c4]
  have n4 : ¬ (off h.wn ∨ h.fl < 0 ∨ 15 < h.fl) := by unfold off; omega
  unfold segm_Encode.B4
  refine Bm.neg rfl (LdL.mk o1' rfl (Bm.ite (fun q => ?_) fun d1 => ?_))
  · unfold encErr at he
    rw [if_neg n1, if_neg n2, if_neg n3, if_neg n4, if_pos (by omega)] at he
    exact he (by decide) w1 he1
  have hok : EncOk src dst h l := ⟨by omega, by omega, by omega, by omega, by omega, by omega, by omega, by omega, by omega⟩
  have hz : encErr src dst h l = 0 := by unfold encErr; rw [if_neg n1, if_neg n2, if_neg n3, if_neg n4, if_neg (by omega)]
  replace hR := hR hok hz
  have hfl : h.fl < 256 := by have := hok.fl; omega
  refine LdI.mk o1' rfl (LdI.mk o1' rfl (LdI.mk o1' rfl (LdI.mk o1' rfl (LdI.mk o1' rfl (LdI.mk o1' rfl ?_)))))
  rw [wrap8_id hok.sp.1 hok.sp.2, wrap8_id hok.dp.1 hok.dp.2, wrap8_id hok.sq.1 hok.sq.2, wrap8_id hok.ak.1 hok.ak.2, wrap8_id hok.fl.1 hfl, wrap8_id hok.wn.1 hok.wn.2]
  have hvs : IsB h.vs := fun x hx => by
    have := hok.sp; have := hok.dp; have := hok.sq; have := hok.ak; have := hok.wn; have := hok.fl
    unfold Hd.vs at hx
    simp at hx
    omega
  refine New.mk fun r w2 e2 s2 o2 he2 => LdL.mk (he2.own o1' (by simp)) rfl ?_
  have b2 : Bf w2 r h.vs := ⟨o2, hvs⟩
  have ex2 := he1.trans he2
  refine modSums_ok hok.src hok.dst b2.rd0 rfl (hD.ext0 ex2) hl ⟨by omega, by have := hok.n; omega⟩ fun w3 he3 => ?_
  have ea : [src, dst] ++ h.vs ++ D = encAll src dst h D := rfl
  rw [ea]
  have sa : 0 ≤ sumS (encAll src dst h D) % 256 ∧ sumS (encAll src dst h D) % 256 < 256 := by omega
  have sb : 0 ≤ sumW (encAll src dst h D) % 256 ∧ sumW (encAll src dst h D) % 256 < 256 := by omega
  rw [wrap8_id sa.1 sa.2, wrap8_id sb.1 sb.2]
  refine New.mk fun r4 w4 e4 s4 o4 he4 => ?_
  have b4 : Bf w4 r4 [sumS (encAll src dst h D) % 256, sumW (encAll src dst h D) % 256] := ⟨o4, fun x hx => by simp at hx; omega⟩
  have b2' := (b2.ext0 he3).ext0 he4
  have ex4 := (ex2.trans he3).trans he4
  have z1 := he1.size
  have z2 := he2.size
  refine app8 (v := h.vs) (n := 2) b2'.row b4.rd0 rfl (by show 6 + 2 ≤ _; omega) fun b5 c5 w5 hr5 he5 hb5 => ?_
  have ex5 : Ext [] w w5 := ex4.trans' he5 (fun x hx hlt => by simp [rowBlk] at hx; omega)
  have sl : Own w5 s (h.cells b l c) T_api_Segment := he5.own (((he2.trans he3).trans he4).own o1' (by simp)) (by simp [rowBlk]; have := o1.lt; omega)
  refine LdL.mk sl rfl (app8 (l := 6 + 2) hr5 (hD.ext0 ex5) hl (by have := hok.n; omega) fun b6 c6 w6 hr6 he6 hb6 => ?_)
  have hfr5 : ∀ k ∈ rowBlk b5, w.heap.size ≤ k := fun k hk => by
    rcases hb5 k hk with q | q
    · simp [rowBlk] at q; omega
    · have := ex4.size; omega
  have e8 : 6 + 2 + l = 8 + l := rfl
  rw [e8] at hr6 ⊢
  refine hR b6 c6 w6 ?_ (fun k hk => ?_) (ex5.trans' he6 (fun x hx hlt => by have := hfr5 x hx; omega))
  · have e : h.vs ++ [sumS (encAll src dst h D) % 256, sumW (encAll src dst h D) % 256] ++ D = encSeg src dst h D := by unfold encSeg; simp
    rw [e] at hr6
    exact hr6
  · rcases hb6 k hk with q | q
    · exact hfr5 k q
    · have := ex5.size; omega
end
/-! ### Decode -/
def decAll (src dst : Int) (raw : List Int) : List Int := [src, dst] ++ raw.take 6 ++ raw.drop 8
def decErr (src dst : Int) (raw : List Int) : Int :=
  if off src ∨ off dst then 5 else if raw.length < 8 then 1 else if 20 < raw.length then 2 else if sumS (decAll src dst raw) % 256 ≠ raw.getD 6 0 ∨ sumW (decAll src dst raw) % 256 ≠ raw.getD 7 0 then 4 else if 15 < raw.getD 4 0 then 24 else 0
def decHd (raw : List Int) : Hd := ⟨raw.getD 0 0, raw.getD 1 0, raw.getD 2 0, raw.getD 3 0, raw.getD 4 0, raw.getD 5 0⟩
theorem getD_some {raw : List Int} {i : Nat} (h : i < raw.length) : raw[i]? = some (raw.getD i 0) := by
  rw [List.getElem?_eq_getElem h]
  simp [List.getD, h]
def zH : Hd := ⟨0, 0, 0, 0, 0, 0⟩
section
variable {w : World} {src dst : Int} {b : Option Addr} {l c : Nat} {raw : List Int}
/-- The answer's cells out of another record. -/
theorem retSeg {t n : Nat} {H : Hd} {b0 : Option Addr} {l0 c0 : Nat} {C : Array Value} {T : TypeId} {K : Int → Int → Int → Int → Int → Int → Option Addr → Nat → Nat → World → Prop} (ho : Own w n (H.cells b0 l0 c0) T_api_Segment) (ht : Own w t C T) (hC : C.size = 7)
    (hk : ∀ w', Ext [t] w w' → K H.sp H.dp H.sq H.ak H.fl H.wn b0 l0 c0 w') :
    LdI .i64 ⟨n, 0, none⟩ w fun x0 => LdI .i64 ⟨n, 1, none⟩ w fun x1 => LdI .i64 ⟨n, 2, none⟩ w fun x2 => LdI .i64 ⟨n, 3, none⟩ w fun x3 => LdI .i64 ⟨n, 4, none⟩ w fun x4 => LdI .i64 ⟨n, 5, none⟩ w fun x5 => LdL ⟨n, 6, none⟩ w fun x6 x7 x8 =>
      Sts [.int .i64 x0, .int .i64 x1, .int .i64 x2, .int .i64 x3, .int .i64 x4, .int .i64 x5, .slice x6 x7 x8] ⟨t, 0, none⟩ 0 w fun w1 =>
      LdI .i64 ⟨t, 0, none⟩ w1 fun y0 => LdI .i64 ⟨t, 1, none⟩ w1 fun y1 => LdI .i64 ⟨t, 2, none⟩ w1 fun y2 => LdI .i64 ⟨t, 3, none⟩ w1 fun y3 => LdI .i64 ⟨t, 4, none⟩ w1 fun y4 => LdI .i64 ⟨t, 5, none⟩ w1 fun y5 => LdL ⟨t, 6, none⟩ w1 fun y6 y7 y8 => K y0 y1 y2 y3 y4 y5 y6 y7 y8 w1 :=
  LdI.mk ho rfl (LdI.mk ho rfl (LdI.mk ho rfl (LdI.mk ho rfl (LdI.mk ho rfl (LdI.mk ho rfl (LdL.mk ho rfl (Sts.full (vs := [.int .i64 H.sp, .int .i64 H.dp, .int .i64 H.sq, .int .i64 H.ak, .int .i64 H.fl, .int .i64 H.wn, .slice b0 l0 c0]) ht (by rw [hC]; rfl) rfl fun w1 hs1 o1 he1 =>
    LdI.mk o1 rfl (LdI.mk o1 rfl (LdI.mk o1 rfl (LdI.mk o1 rfl (LdI.mk o1 rfl (LdI.mk o1 rfl (LdL.mk o1 rfl (hk w1 he1))))))))))))))
theorem retSeg2 {t : Nat} {H : Hd} {b0 : Option Addr} {l0 c0 : Nat} {C : Array Value} {T : TypeId} {K : Int → Int → Int → Int → Int → Int → Option Addr → Nat → Nat → World → Prop} (ht : Own w t C T) (hC : C.size = 7)
    (hk : ∀ w', Ext [t] w w' → K H.sp H.dp H.sq H.ak H.fl H.wn b0 l0 c0 w') :
      Sts [.int .i64 H.sp, .int .i64 H.dp, .int .i64 H.sq, .int .i64 H.ak, .int .i64 H.fl, .int .i64 H.wn, .slice b0 l0 c0] ⟨t, 0, none⟩ 0 w fun w1 =>
      LdI .i64 ⟨t, 0, none⟩ w1 fun y0 => LdI .i64 ⟨t, 1, none⟩ w1 fun y1 => LdI .i64 ⟨t, 2, none⟩ w1 fun y2 => LdI .i64 ⟨t, 3, none⟩ w1 fun y3 => LdI .i64 ⟨t, 4, none⟩ w1 fun y4 => LdI .i64 ⟨t, 5, none⟩ w1 fun y5 => LdL ⟨t, 6, none⟩ w1 fun y6 y7 y8 => K y0 y1 y2 y3 y4 y5 y6 y7 y8 w1 :=
  Sts.full (vs := [.int .i64 H.sp, .int .i64 H.dp, .int .i64 H.sq, .int .i64 H.ak, .int .i64 H.fl, .int .i64 H.wn, .slice b0 l0 c0]) ht (by rw [hC]; rfl) rfl fun w1 hs1 o1 he1 =>
    LdI.mk o1 rfl (LdI.mk o1 rfl (LdI.mk o1 rfl (LdI.mk o1 rfl (LdI.mk o1 rfl (LdI.mk o1 rfl (LdL.mk o1 rfl (hk w1 he1)))))))
/-- A byte at a fixed place. -/
theorem Rd.ldc {K : Int → Prop} (hr : Rd w b raw) (hl : raw.length = l) (i : Nat) (hi : i < l) (hk : K (raw.getD i 0)) : Pn b fun a => (0 ≤ (i : Int) ∧ (i : Int) < (l : Int)) ∧ LdI .u8 (a.add i) w K := by
  obtain ⟨k, o, rfl, hc⟩ := hr.at (getD_some (raw := raw) (i := i) (by omega))
  refine Pn.mk ⟨⟨by omega, by omega⟩, LdI.cell ?_ hk⟩
  rw [add_mk]
  exact hc
theorem Rd.ldc0 {K : Int → Prop} (hr : Rd w b raw) (hl : raw.length = l) (hi : 0 < l) (hk : K (raw.getD 0 0)) : Pn b fun a => (0 ≤ (0 : Int) ∧ (0 : Int) < (l : Int)) ∧ LdI .u8 a w K := by
  obtain ⟨k, o, rfl, hc⟩ := hr.at (getD_some (raw := raw) (i := 0) (by omega))
  refine Pn.mk ⟨⟨by omega, by omega⟩, LdI.cell ?_ hk⟩
  exact hc
theorem getD_isB (hr : IsB raw) (i : Nat) : 0 ≤ raw.getD i 0 ∧ raw.getD i 0 < 256 := by
  by_cases h : i < raw.length
  · exact hr.get (getD_some h)
  · rw [List.getD_eq_getElem?_getD, List.getElem?_eq_none (by omega)]
    simp
theorem realDecode_ok {R : Int → Int → Int → Int → Int → Int → Option Addr → Nat → Nat → Int → World → Prop} (hr : Rd w b raw) (hl : raw.length = l) (hc : l ≤ c)
    (he : decErr src dst raw ≠ 0 → ∀ w', Ext [] w w' → R 0 0 0 0 0 0 none 0 0 (decErr src dst raw) w')
    (hR : decErr src dst raw = 0 → 8 ≤ l → l ≤ 20 → ∀ k w', w.heap.size ≤ k → Bf w' k (raw.drop 8) → Ext [] w w' → R (decHd raw).sp (decHd raw).dp (decHd raw).sq (decHd raw).ak (decHd raw).fl (decHd raw).wn (some ⟨k, 0, none⟩) (l - 8) (l - 8) 0 w') :
    seg_Decode.Call src dst b l c w R := by
  apply seg_Decode.sound
  unfold seg_Decode.B0
  refine New.mk fun t w1 e1 s1 o1 he1 => New.mk fun n w2 e2 s2 o2 he2 => Sts.full (vs := [.int .i64 0, .int .i64 0, .int .i64 0, .int .i64 0, .int .i64 0, .int .i64 0, .slice none 0 0]) o2 rfl rfl fun w3 hs3 o3 he3 => ?_
  have z1 := he1.size
  have ex3 : Ext [] w w3 := (he1.trans he2).trans' he3 (fun x hx hlt => by simp at hx; omega)
  have on3 : Own w3 n (zH.cells none 0 0) T_api_Segment := o3
  have ot3 := he3.own (he2.own o1 (by simp)) (by simp; omega)
  have err : ∀ {e : Int} {w' : World}, decErr src dst raw = e → e ≠ 0 → Ext [] w3 w' → LdI .i64 ⟨n, 0, none⟩ w' fun x0 => LdI .i64 ⟨n, 1, none⟩ w' fun x1 => LdI .i64 ⟨n, 2, none⟩ w' fun x2 => LdI .i64 ⟨n, 3, none⟩ w' fun x3 => LdI .i64 ⟨n, 4, none⟩ w' fun x4 => LdI .i64 ⟨n, 5, none⟩ w' fun x5 => LdL ⟨n, 6, none⟩ w' fun x6 x7 x8 =>
      Sts [.int .i64 x0, .int .i64 x1, .int .i64 x2, .int .i64 x3, .int .i64 x4, .int .i64 x5, .slice x6 x7 x8] ⟨t, 0, none⟩ 0 w' fun w1 =>
      LdI .i64 ⟨t, 0, none⟩ w1 fun y0 => LdI .i64 ⟨t, 1, none⟩ w1 fun y1 => LdI .i64 ⟨t, 2, none⟩ w1 fun y2 => LdI .i64 ⟨t, 3, none⟩ w1 fun y3 => LdI .i64 ⟨t, 4, none⟩ w1 fun y4 => LdI .i64 ⟨t, 5, none⟩ w1 fun y5 => LdL ⟨t, 6, none⟩ w1 fun y6 y7 y8 => R y0 y1 y2 y3 y4 y5 y6 y7 y8 e w1 := fun {e w'} h1 h2 hx =>
    retSeg (K := fun y0 y1 y2 y3 y4 y5 y6 y7 y8 w1 => R y0 y1 y2 y3 y4 y5 y6 y7 y8 e w1) (hx.own on3 (by simp)) (hx.own ot3 (by simp)) rfl fun w4 he4 => by
      rw [h1] at he
      exact he h2 w4 ((ex3.trans hx).trans' he4 (fun x hx hlt => by simp at hx; omega))
  have bad1 : (off src ∨ off dst) → seg_Decode.B1 src dst b l c t n true w3 R := fun hcc => by
    unfold seg_Decode.B1
    exact Bm.pos rfl (err (by unfold decErr; rw [if_pos hcc]) (by decide) (Ext.refl _ _))
  refine Bm.ite (fun q => bad1 (.inl (.inl q))) fun a1 => Bm.ite (fun q => bad1 (.inl (.inr q))) fun a2 => Bm.or (X := fun tt => seg_Decode.B1 src dst b l c t n tt w3 R) (fun q => bad1 (.inr q)) fun a3 a4 => ?_
  have n1 : ¬ (off src ∨ off dst) := by unfold off; omega
  unfold seg_Decode.B1
  refine Bm.neg rfl (Bm.ite (fun q => err (by unfold decErr; rw [if_neg n1, if_pos (by omega)]) (by decide) (Ext.refl _ _)) fun a5 => Bm.ite (fun q => err (by unfold decErr; rw [if_neg n1, if_neg (by omega), if_pos (by omega)]) (by decide) (Ext.refl _ _)) fun a6 => ⟨by omega, by omega, ?_⟩)
  have hrd : Rd w3.drew b raw := (hr.ext0 ex3).ext0 (Ext.drew _ _)
  rw [slBase0]
  have hH : Rd w3.drew b (raw.take 6) := hrd.take 6
  have hD : Rd w3.drew (slBase b (8 : Int) ((c : Nat) : Int) 1) (raw.drop 8) := hrd.drop 8 (by omega)
  have fin : ∀ (x : Nat) (wb : World), Own wb x #[.int .u8 (sumS (decAll src dst raw) % 256), .int .u8 (sumW (decAll src dst raw) % 256)] T_seg_sums → Ext [] w3 wb → seg_Decode.B2 b l c t n x wb R := fun x wb ho hx => by
    unfold seg_Decode.B2
    have hxd := hx.trans (Ext.drew _ _)
    have hod := ho.drew
    have hrb : Rd wb.drew b raw := (hr.ext0 ex3).ext0 hxd
    have bad : ∀ {P : Prop}, (sumS (decAll src dst raw) % 256 ≠ raw.getD 6 0 ∨ sumW (decAll src dst raw) % 256 ≠ raw.getD 7 0) → seg_Decode.B3 b l c t n true wb.drew R := fun hcc => by
      unfold seg_Decode.B3
      exact Bm.pos rfl (err (by unfold decErr; rw [if_neg n1, if_neg (by omega), if_neg (by omega), if_pos hcc]) (by decide) hxd)
    refine LdI.mk hod rfl (hrb.ldc hl 6 (by omega) (Bm.mk (fun q => bad (P := True) (.inl (by simpa using q))) fun q => LdI.mk hod rfl (hrb.ldc hl 7 (by omega) ?_)))
    by_cases q7 : sumW (decAll src dst raw) % 256 = raw.getD 7 0
    · rw [show (sumW (decAll src dst raw) % 256 != raw.getD 7 0) = false by simp [q7]]
      have q6 : sumS (decAll src dst raw) % 256 = raw.getD 6 0 := by simpa using q
      unfold seg_Decode.B3
      refine Bm.neg rfl (hrb.ldc hl 4 (by omega) (Bm.ite (fun q4 => err (by unfold decErr; rw [if_neg n1, if_neg (by omega), if_neg (by omega), if_neg (by simp [q6, q7]), if_pos (by omega)]) (by decide) hxd) fun q4 => ⟨by omega, ?_⟩))
      have ez : decErr src dst raw = 0 := by unfold decErr; rw [if_neg n1, if_neg (by omega), if_neg (by omega), if_neg (by simp [q6, q7]), if_neg (by omega)]
      refine copyBytes_ok (v := raw.drop 8) (hrb.drop 8 (by omega)) (by simp; omega) (by omega) fun k w5 hk hs5 hf5 he5 => ?_
      have hr5 : Rd w5.drew b raw := (hrb.ext0 he5).ext0 (Ext.drew _ _)
      have gb := getD_isB hr.isB
      refine hr5.ldc0 hl (by omega) (hr5.ldc hl 1 (by omega) (hr5.ldc hl 2 (by omega) (hr5.ldc hl 3 (by omega) (hr5.ldc hl 4 (by omega) (hr5.ldc hl 5 (by omega) ?_)))))
      rw [w64b (gb 0), w64b (gb 1), w64b (gb 2), w64b (gb 3), w64b (gb 4), w64b (gb 5)]
      have hx5 := (hxd.trans he5).trans (Ext.drew [] _)
      refine retSeg2 (H := decHd raw) (K := fun y0 y1 y2 y3 y4 y5 y6 y7 y8 w1 => R y0 y1 y2 y3 y4 y5 y6 y7 y8 0 w1) (hx5.own ot3 (by simp)) rfl fun w6 he6 => ?_
      have hkt : k ≠ t := by have := (hxd.own ot3 (by simp)).lt; omega
      have hxs := (ex3.trans hxd).size
      have := hR ez (by omega) (by omega) k w6 (by omega) ((hf5.ext0 (Ext.drew _ _)).ext he6 (by simpa using hkt)) ((ex3.trans hx5).trans' he6 (fun x hx hlt => by simp at hx; omega))
      exact this
    · rw [show (sumW (decAll src dst raw) % 256 != raw.getD 7 0) = true from bne_iff_ne.2 q7]
      exact bad (P := True) (.inr q7)
  refine ⟨?_, ?_⟩
  · refine over_ok (H := raw.take 6) (D := raw.drop 8) (by omega) (by omega) hH (by simp; omega) hD (by simp; omega) ⟨by omega, by omega⟩ fun w4 he4 => New.mk fun x w5 e5 s5 o5 he5 => Sts.full (vs := [.int .u8 (sumS (decAll src dst raw) % 256), .int .u8 (sumW (decAll src dst raw) % 256)]) o5 rfl rfl fun w6 hs6 o6 he6 => ?_
    exact fin x w6 o6 ((((Ext.drew [] w3).trans he4).trans he5).trans' he6 (fun y hy hlt => by simp at hy; have := he4.size; have := (Ext.drew [] w3).size; omega))
  · refine New.mk fun x w4 e4 s4 o4 he4 => over_ok (H := raw.take 6) (D := raw.drop 8) (by omega) (by omega) (hH.ext0 he4) (by simp; omega) (hD.ext0 he4) (by simp; omega) ⟨by omega, by omega⟩ fun w5 he5 => ?_
    refine Sts.full (vs := [.int .u8 (sumS (decAll src dst raw) % 256), .int .u8 (sumW (decAll src dst raw) % 256)]) (he5.own o4 (by simp)) rfl rfl fun w6 hs6 o6 he6 => ?_
    exact fin x w6 o6 ((((Ext.drew [] w3).trans he4).trans he5).trans' he6 (fun y hy hlt => by simp at hy; have := (Ext.drew [] w3).size; omega))
theorem modDecode_ok {R : Int → Int → Int → Int → Int → Int → Option Addr → Nat → Nat → Int → World → Prop} (hr : Rd w b raw) (hl : raw.length = l) (hc : l ≤ c)
    (he : decErr src dst raw ≠ 0 → ∀ w', Ext [] w w' → R 0 0 0 0 0 0 none 0 0 (decErr src dst raw) w')
    (hR : decErr src dst raw = 0 → 8 ≤ l → l ≤ 20 → ∀ k w', w.heap.size ≤ k → Bf w' k (raw.drop 8) → Ext [] w w' → R (decHd raw).sp (decHd raw).dp (decHd raw).sq (decHd raw).ak (decHd raw).fl (decHd raw).wn (some ⟨k, 0, none⟩) (l - 8) (l - 8) 0 w') :
    segm_Decode.Call src dst b l c w R := by
  apply segm_Decode.sound
  unfold segm_Decode.B0
  refine New.mk fun t w1 e1 s1 o1 he1 => New.mk fun n w2 e2 s2 o2 he2 => Sts.full (vs := [.int .i64 0, .int .i64 0, .int .i64 0, .int .i64 0, .int .i64 0, .int .i64 0, .slice none 0 0]) o2 rfl rfl fun w3 hs3 o3 he3 => ?_
  have z1 := he1.size
  have ex3 : Ext [] w w3 := (he1.trans he2).trans' he3 (fun x hx hlt => by simp at hx; omega)
  have on3 : Own w3 n (zH.cells none 0 0) T_api_Segment := o3
  have ot3 := he3.own (he2.own o1 (by simp)) (by simp; omega)
  have err : ∀ {e : Int} {w' : World}, decErr src dst raw = e → e ≠ 0 → Ext [] w3 w' → LdI .i64 ⟨n, 0, none⟩ w' fun x0 => LdI .i64 ⟨n, 1, none⟩ w' fun x1 => LdI .i64 ⟨n, 2, none⟩ w' fun x2 => LdI .i64 ⟨n, 3, none⟩ w' fun x3 => LdI .i64 ⟨n, 4, none⟩ w' fun x4 => LdI .i64 ⟨n, 5, none⟩ w' fun x5 => LdL ⟨n, 6, none⟩ w' fun x6 x7 x8 =>
      Sts [.int .i64 x0, .int .i64 x1, .int .i64 x2, .int .i64 x3, .int .i64 x4, .int .i64 x5, .slice x6 x7 x8] ⟨t, 0, none⟩ 0 w' fun w1 =>
      LdI .i64 ⟨t, 0, none⟩ w1 fun y0 => LdI .i64 ⟨t, 1, none⟩ w1 fun y1 => LdI .i64 ⟨t, 2, none⟩ w1 fun y2 => LdI .i64 ⟨t, 3, none⟩ w1 fun y3 => LdI .i64 ⟨t, 4, none⟩ w1 fun y4 => LdI .i64 ⟨t, 5, none⟩ w1 fun y5 => LdL ⟨t, 6, none⟩ w1 fun y6 y7 y8 => R y0 y1 y2 y3 y4 y5 y6 y7 y8 e w1 := fun {e w'} h1 h2 hx =>
    retSeg (K := fun y0 y1 y2 y3 y4 y5 y6 y7 y8 w1 => R y0 y1 y2 y3 y4 y5 y6 y7 y8 e w1) (hx.own on3 (by simp)) (hx.own ot3 (by simp)) rfl fun w4 he4 => by
      rw [h1] at he
      exact he h2 w4 ((ex3.trans hx).trans' he4 (fun x hx hlt => by simp at hx; omega))
  have bad1 : (off src ∨ off dst) → segm_Decode.B1 src dst b l c t n true w3 R := fun hcc => by
    unfold segm_Decode.B1
    exact Bm.pos rfl (err (by unfold decErr; rw [if_pos hcc]) (by decide) (Ext.refl _ _))
  refine Bm.ite (fun q => bad1 (.inl (.inl q))) fun a1 => Bm.ite (fun q => bad1 (.inl (.inr q))) fun a2 => Bm.or (X := fun tt => segm_Decode.B1 src dst b l c t n tt w3 R) (fun q => bad1 (.inr q)) fun a3 a4 => ?_
  have n1 : ¬ (off src ∨ off dst) := by unfold off; omega
  unfold segm_Decode.B1
  refine Bm.neg rfl (Bm.ite (fun q => err (by unfold decErr; rw [if_neg n1, if_pos (by omega)]) (by decide) (Ext.refl _ _)) fun a5 => Bm.ite (fun q => err (by unfold decErr; rw [if_neg n1, if_neg (by omega), if_pos (by omega)]) (by decide) (Ext.refl _ _)) fun a6 => ⟨by omega, by omega, ?_⟩)
  have hrd : Rd w3.drew b raw := (hr.ext0 ex3).ext0 (Ext.drew _ _)
  rw [slBase0]
  have hH : Rd w3.drew b (raw.take 6) := hrd.take 6
  have hD : Rd w3.drew (slBase b (8 : Int) ((c : Nat) : Int) 1) (raw.drop 8) := hrd.drop 8 (by omega)
  refine modSums_ok (H := raw.take 6) (D := raw.drop 8) (by omega) (by omega) hH (by simp; omega) hD (by simp; omega) ⟨by omega, by omega⟩ fun w4 he4 => ?_
  have hx4 : Ext [] w3 w4 := (Ext.drew [] w3).trans he4
  have hr4 : Rd w4 b raw := hrd.ext0 he4
  have gb := getD_isB hr.isB
  have ea : [src, dst] ++ raw.take 6 ++ raw.drop 8 = decAll src dst raw := rfl
  rw [ea]
  have bad : (sumS (decAll src dst raw) % 256 ≠ raw.getD 6 0 ∨ sumW (decAll src dst raw) % 256 ≠ raw.getD 7 0) → segm_Decode.B2 b l c t n true w4 R := fun hcc => by
    unfold segm_Decode.B2
    exact Bm.pos rfl (err (by unfold decErr; rw [if_neg n1, if_neg (by omega), if_neg (by omega), if_pos hcc]) (by decide) hx4)
  refine hr4.ldc hl 6 (by omega) ?_
  rw [w64b (gb 6)]
  refine Bm.mk (fun q => bad (.inl (by simpa using q))) fun q => hr4.ldc hl 7 (by omega) ?_
  rw [w64b (gb 7)]
  by_cases q7 : sumW (decAll src dst raw) % 256 = raw.getD 7 0
  · rw [show (sumW (decAll src dst raw) % 256 != raw.getD 7 0) = false by simp [q7]]
    have q6 : sumS (decAll src dst raw) % 256 = raw.getD 6 0 := by simpa using q
    unfold segm_Decode.B2
    refine Bm.neg rfl (hr4.ldc hl 4 (by omega) (Bm.ite (fun q4 => err (by unfold decErr; rw [if_neg n1, if_neg (by omega), if_neg (by omega), if_neg (by simp [q6, q7]), if_pos (by omega)]) (by decide) hx4) fun q4 => ?_))
    have ez : decErr src dst raw = 0 := by unfold decErr; rw [if_neg n1, if_neg (by omega), if_neg (by omega), if_neg (by simp [q6, q7]), if_neg (by omega)]
    have hr5 : Rd w4.drew b raw := hr4.ext0 (Ext.drew _ _)
    have hraw := hr5.2
    rcases hraw with h0 | ⟨kb, ob, rfl, hkl, hcell⟩
    · rw [h0] at hl; simp at hl; omega
    have cl : ∀ i, i < l → ∀ {wx : World}, Ext [] w4.drew wx → wx.cell? ((⟨kb, ob, none⟩ : Addr).add i) = some (.int .u8 (raw.getD i 0)) := fun i hi wx hx => by
      rw [add_mk, hx.cell hkl (by simp)]
      exact hcell i _ (getD_some (by omega))
    have cl0 : ∀ {wx : World}, Ext [] w4.drew wx → wx.cell? (⟨kb, ob, none⟩ : Addr) = some (.int .u8 (raw.getD 0 0)) := fun {wx} hx => by
      have := cl 0 (by omega) hx
      rw [add_mk] at this
      exact this
    have rf := Ext.refl [] w4.drew
    refine Pn.mk ⟨by omega, LdI.cell (cl0 rf) (Pn.mk ⟨by omega, LdI.cell (cl 1 (by omega) rf) (Pn.mk ⟨by omega, LdI.cell (cl 2 (by omega) rf) (Pn.mk ⟨by omega, LdI.cell (cl 3 (by omega) rf) (Pn.mk ⟨by omega, LdI.cell (cl 4 (by omega) rf) (Pn.mk ⟨by omega, LdI.cell (cl 5 (by omega) rf) ⟨by omega, ?_⟩⟩)⟩)⟩)⟩)⟩)⟩
    refine copyBytes_ok (v := raw.drop 8) (hr5.drop 8 (by omega)) (by simp; omega) (by omega) fun k w5 hk hs5 hf5 he5 => ⟨cl 5 (by omega) he5, cl 4 (by omega) he5, cl 3 (by omega) he5, cl 2 (by omega) he5, cl 1 (by omega) he5, cl0 he5, ?_⟩
    rw [w64b (gb 0), w64b (gb 1), w64b (gb 2), w64b (gb 3), w64b (gb 4), w64b (gb 5)]
    have hx5 := (hx4.trans (Ext.drew [] _)).trans he5
    refine retSeg2 (H := decHd raw) (K := fun y0 y1 y2 y3 y4 y5 y6 y7 y8 w1 => R y0 y1 y2 y3 y4 y5 y6 y7 y8 0 w1) (hx5.own ot3 (by simp)) rfl fun w6 he6 => ?_
    have hkt : k ≠ t := by have := ((hx4.trans (Ext.drew [] _)).own ot3 (by simp)).lt; omega
    have hxs := ((ex3.trans hx4).trans (Ext.drew [] _)).size
    have := hR ez (by omega) (by omega) k w6 (by omega) (hf5.ext he6 (by simpa using hkt)) ((ex3.trans hx5).trans' he6 (fun x hx hlt => by simp at hx; omega))
    exact this
  · rw [show (sumW (decAll src dst raw) % 256 != raw.getD 7 0) = true from bne_iff_ne.2 q7]
    exact bad (.inr q7)
end
end Go.Proofs.Qxb6500426a
