/-
  seg: Encode and Decode of both sides.
-/
import Derived.Test.Qxb6500424aGreatSgA
import Derived.Test.Qxb6500424aGreatVcF
set_option linter.unusedVariables false
set_option linter.unusedSimpArgs false
open Go.Vc
namespace Go.Proofs.Qxb6500424aGreat

def Hd.vs (h : Hd) : List Int := [h.sp, h.dp, h.sq, h.ak, h.fl, h.wn]
def Hd.cells (h : Hd) (b : Option Addr) (l c : Nat) : Array Value := #[.int .i64 h.sp, .int .i64 h.dp, .int .i64 h.sq, .int .i64 h.ak, .int .i64 h.fl, .int .i64 h.wn, .slice b l c]
abbrev off (x : Int) : Prop := x < 0 ∨ 255 < x
def encErr (src dst : Int) (h : Hd) (n : Nat) : Int :=
  if off src ∨ off dst then 5 else if off h.sp ∨ off h.dp then 22 else if off h.sq ∨ off h.ak then 24 else if off h.wn ∨ h.fl < 0 ∨ 15 < h.fl then 24 else if 12 < n then 2 else 0
def encAll (src dst : Int) (h : Hd) (D : List Int) : List Int := [src, dst] ++ h.vs ++ D
def encSeg (src dst : Int) (h : Hd) (D : List Int) : List Int := h.vs ++ ([sumS (encAll src dst h D) % 256, sumW (encAll src dst h D) % 256] ++ D)
theorem encSeg_len (src dst : Int) (h : Hd) (D : List Int) : (encSeg src dst h D).length = 8 + D.length := by simp [encSeg, Hd.vs]; omega
structure EncOk (src dst : Int) (h : Hd) (n : Nat) : Prop where
  src : 0 ≤ src ∧ src < 256
  dst : 0 ≤ dst ∧ dst < 256
  sp : 0 ≤ h.sp ∧ h.sp < 256
  dp : 0 ≤ h.dp ∧ h.dp < 256
  sq : 0 ≤ h.sq ∧ h.sq < 256
  ak : 0 ≤ h.ak ∧ h.ak < 256
  wn : 0 ≤ h.wn ∧ h.wn < 256
  fl : 0 ≤ h.fl ∧ h.fl < 16
  n : n ≤ 12
theorem EncOk.isB {src dst : Int} {h : Hd} {D : List Int} (k : EncOk src dst h D.length) (hD : IsB D) : IsB (encSeg src dst h D) := by
  have := k.sp; have := k.dp; have := k.sq; have := k.ak; have := k.wn; have := k.fl
  unfold encSeg Hd.vs
  refine IsB.append (fun x hx => by simp at hx; omega) (IsB.append (fun x hx => by simp at hx; omega) hD)
section
variable {w : World} {src dst : Int} {h : Hd} {b : Option Addr} {l c : Nat} {D : List Int}
theorem realEncode_ok {R : Option Addr → Nat → Nat → Int → World → Prop} (hD : Rd w b D) (hl : D.length = l) 
    (he : encErr src dst h l ≠ 0 → ∀ w', Ext [] w w' → R none 0 0 (encErr src dst h l) w')
    (hR : EncOk src dst h l → encErr src dst h l = 0 → ∀ k w', w.heap.size ≤ k → Bf w' k (encSeg src dst h D) → Ext [] w w' → R (some ⟨k, 0, none⟩) (8 + l) (8 + l) 0 w') :
    seg_Encode.Call src dst h.sp h.dp h.sq h.ak h.fl h.wn b l c w R := by
  apply seg_Encode.sound
  unfold seg_Encode.B0
  refine New.mk fun s w1 e1 s1 o1 he1 => ?_
  have o1' : Own w1 s (h.cells b l c) T_api_Segment := o1
  have bad1 : (off src ∨ off dst) → seg_Encode.B1 src dst s true w1 R := fun hc => by
    unfold seg_Encode.B1
    unfold encErr at he
    rw [if_pos hc] at he
    exact Bm.pos rfl (he (by decide) w1 he1)
  refine Bm.ite (fun q => bad1 (.inl (.inl q))) fun a1 => Bm.ite (fun q => bad1 (.inl (.inr q))) fun a2 => Bm.or (X := fun t => seg_Encode.B1 src dst s t w1 R) (fun q => bad1 (.inr q)) fun a3 a4 => ?_
  have n1 : ¬ (off src ∨ off dst) := by unfold off; omega
  unfold seg_Encode.B1
  refine Bm.neg rfl ?_
  have bad2 : (off h.sp ∨ off h.dp) → seg_Encode.B2 src dst s true w1 R := fun hc => by
    unfold seg_Encode.B2
    unfold encErr at he
    rw [if_neg n1, if_pos hc] at he
    exact Bm.pos rfl (he (by decide) w1 he1)
  refine LdI.mk o1' rfl (Bm.ite (fun q => bad2 (.inl (.inl q))) fun a5 => LdI.mk o1' rfl (Bm.ite (fun q => bad2 (.inl (.inr q))) fun a6 => LdI.mk o1' rfl (Bm.ite (fun q => bad2 (.inr (.inl q))) fun a7 => LdI.mk o1' rfl ?_)))
  by_cases a8 : h.dp > 255
  · rw [decide_eq_true a8]; exact bad2 (.inr (.inr a8))
  rw [decide_eq_false a8]
  have n2 : ¬ (off h.sp ∨ off h.dp) := by unfold off; omega
  unfold seg_Encode.B2
  refine Bm.neg rfl ?_
  have bad3 : (off h.sq ∨ off h.ak) → seg_Encode.B3 src dst s true w1 R := fun hc => by
    unfold seg_Encode.B3
    unfold encErr at he
    rw [if_neg n1, if_neg n2, if_pos hc] at he
    exact Bm.pos rfl (he (by decide) w1 he1)
  refine LdI.mk o1' rfl (Bm.ite (fun q => bad3 (.inl (.inl q))) fun b1 => LdI.mk o1' rfl (Bm.ite (fun q => bad3 (.inl (.inr q))) fun b2 => LdI.mk o1' rfl (Bm.ite (fun q => bad3 (.inr (.inl q))) fun b3 => LdI.mk o1' rfl ?_)))
  by_cases b4 : h.ak > 255
  · rw [decide_eq_true b4]; exact bad3 (.inr (.inr b4))
  rw [decide_eq_false b4]
  have n3 : ¬ (off h.sq ∨ off h.ak) := by unfold off; omega
  unfold seg_Encode.B3
  refine Bm.neg rfl ?_
  have bad4 : (off h.wn ∨ h.fl < 0 ∨ 15 < h.fl) → seg_Encode.B4 src dst s true w1 R := fun hc => by
    unfold seg_Encode.B4
    unfold encErr at he
    rw [if_neg n1, if_neg n2, if_neg n3, if_pos hc] at he
    exact Bm.pos rfl (he (by decide) w1 he1)
  refine LdI.mk o1' rfl (Bm.ite (fun q => bad4 (.inl (.inl q))) fun c1 => LdI.mk o1' rfl (Bm.ite (fun q => bad4 (.inl (.inr q))) fun c2 => LdI.mk o1' rfl (Bm.ite (fun q => bad4 (.inr (.inl q))) fun c3 => LdI.mk o1' rfl ?_)))
  by_cases c4 : h.fl > 15
  · rw [decide_eq_true c4]; exact bad4 (.inr (.inr c4))
  rw [decide_eq_false c4]
  have n4 : ¬ (off h.wn ∨ h.fl < 0 ∨ 15 < h.fl) := by unfold off; omega
  unfold seg_Encode.B4
  refine Bm.neg rfl (LdL.mk o1' rfl (Bm.ite (fun q => ?_) fun d1 => LdL.mk o1' rfl ?_))
  · unfold encErr at he
    rw [if_neg n1, if_neg n2, if_neg n3, if_neg n4, if_pos (by omega)] at he
    exact he (by decide) w1 he1
  have hok : EncOk src dst h l := ⟨by omega, by omega, by omega, by omega, by omega, by omega, by omega, by omega, by omega⟩
  have hz : encErr src dst h l = 0 := by unfold encErr; rw [if_neg n1, if_neg n2, if_neg n3, if_neg n4, if_neg (by omega)]
  replace hR := hR hok hz
  have q1 : IntKind.i64.wrap ((8 : Int) + ((l : Nat) : Int)) = ((8 + l : Nat) : Int) := by rw [w64 (by omega) (by omega)]; omega
  simp only [q1, Int.toNat_natCast]
  refine make8_ok rfl (by omega) (by omega) fun k w2 hk hs2 hf2 he2 => ?_
  have o2 := he2.own o1' (by simp)
  have er : List.replicate ((8 + l : Nat) : Int).toNat (0 : Int) = [0, 0, 0, 0, 0, 0, 0, 0] ++ List.replicate l 0 := by
    rw [Int.toNat_natCast, Nat.add_comm]
    rfl
  rw [er] at hf2
  have sk : s ≠ k := by have := o1.lt; omega
  have ls : ∀ {w3 : World}, Ext [k] w2 w3 → Own w3 s (h.cells b l c) T_api_Segment := fun he => he.own o2 (by simpa using sk)
  refine LdI.mk o2 rfl ⟨by omega, hf2.set (by simp) (by rw [wrap8_id hok.sp.1 hok.sp.2]; exact hok.sp) fun w3 hs3 hf3 he3 => LdI.mk (ls he3) rfl ⟨by omega, hf3.set (by simp) (by rw [wrap8_id hok.dp.1 hok.dp.2]; exact hok.dp) fun w4 hs4 hf4 he4 => LdI.mk (ls (he3.trans he4)) rfl ⟨by omega, hf4.set (by simp) (by rw [wrap8_id hok.sq.1 hok.sq.2]; exact hok.sq) fun w5 hs5 hf5 he5 => ?_⟩⟩⟩
  have x5 := (he3.trans he4).trans he5
  refine LdI.mk (ls x5) rfl ⟨by omega, hf5.set (by simp) (by rw [wrap8_id hok.ak.1 hok.ak.2]; exact hok.ak) fun w6 hs6 hf6 he6 => LdI.mk (ls (x5.trans he6)) rfl ⟨by omega, hf6.set (by simp) (by rw [wrap8_id hok.fl.1 (by have := hok.fl; omega)]; have := hok.fl; omega) fun w7 hs7 hf7 he7 => LdI.mk (ls ((x5.trans he6).trans he7)) rfl ⟨by omega, hf7.set (by simp) (by rw [wrap8_id hok.wn.1 hok.wn.2]; exact hok.wn) fun w8 hs8 hf8 he8 => ⟨by omega, ?_⟩⟩⟩⟩
  have x8 := (((x5.trans he6).trans he7).trans he8).trans (Ext.drew _ _)
  have hf8' : Bf w8.drew k (h.vs ++ ([0, 0] ++ List.replicate l 0)) := by
    rw [wrap8_id hok.sp.1 hok.sp.2, wrap8_id hok.dp.1 hok.dp.2, wrap8_id hok.sq.1 hok.sq.2, wrap8_id hok.ak.1 hok.ak.2, wrap8_id hok.fl.1 (by have := hok.fl; omega), wrap8_id hok.wn.1 hok.wn.2] at hf8
    exact hf8
  have ex2 : Ext [] w w2 := he1.trans he2
  have ex8 : Ext [] w w8.drew := ex2.trans' x8 (fun x hx hlt => by simp at hx; have := he1.size; omega)
  refine LdL.mk (ls x8) rfl ?_
  have eb : ∃ o, slBase (some (⟨k, 0, none⟩ : Addr)) (8 : Int) ((8 + l : Nat) : Int) 1 = some ⟨k, o, none⟩ ∧ (o = 8 ∨ l = 0 ∧ o = 0) := by
    by_cases hl0 : l = 0
    · refine ⟨0, ?_, .inr ⟨hl0, rfl⟩⟩
      subst hl0
      rfl
    · refine ⟨8, ?_, .inl rfl⟩
      unfold slBase
      rw [if_neg (by omega)]
      rfl
  obtain ⟨o, eo, ho⟩ := eb
  rw [eo, show (8 : Int).toNat = 8 from rfl, Nat.add_sub_cancel_left]
  refine hf8'.copy (hD.ext0 ex8) (by rw [hl]; simp [Nat.min_def]) (by rw [hl]; simp [Hd.vs]; omega) fun w9 hs9 hf9 he9 => ⟨⟨by omega, by omega⟩, LdL.mk (ls ((x8.trans he9).trans (Ext.drew _ _))) rfl ?_⟩
  have hf9' : Bf w9.drew k (h.vs ++ ([0, 0] ++ D)) := by
    rcases ho with rfl | ⟨rfl, rfl⟩
    · have e : (h.vs ++ ([0, 0] ++ List.replicate l 0)).take 8 ++ (D ++ (h.vs ++ ([0, 0] ++ List.replicate l 0)).drop (8 + D.length)) = h.vs ++ ([0, 0] ++ D) := by
        have e1 : (h.vs ++ ([0, 0] ++ List.replicate l 0)).take 8 = h.vs ++ [0, 0] := rfl
        rw [e1, List.drop_of_length_le (by simp [Hd.vs]; omega)]
        simp
      rw [e] at hf9
      exact hf9
    · have eD : D = [] := List.eq_nil_of_length_eq_zero hl
      subst eD
      have hf9b : Bf w9 k (h.vs ++ [0, 0]) := by simpa using hf9
      simpa using hf9b.ext0 (Ext.drew _ _)
  have ex9 : Ext [] w w9.drew := (ex8.trans' he9 (fun x hx hlt => by simp at hx; have := he1.size; omega)).trans (Ext.drew _ _)
  rw [slBase0, show (6 : Int).toNat - 0 = 6 from rfl]
  have hH : Rd w9.drew (some ⟨k, 0, none⟩) h.vs := hf9'.rd
  have z2 := ex2.size
  -- the end
  have fin : ∀ (x : Nat) (wa wb : World), w.heap.size ≤ k → Own wb x #[.int .u8 (sumS (encAll src dst h D) % 256), .int .u8 (sumW (encAll src dst h D) % 256)] T_seg_sums → Ext [] w9.drew wb → seg_Encode.B5 (some ⟨k, 0, none⟩) (8 + l) (8 + l) x wb R := fun x wa wb hkw ho hex => by
    unfold seg_Encode.B5
    have hfb := hf9'.ext0 hex
    have hxk : x ≠ k := fun e => by subst e; exact Own.ne_type ho hfb.1 (by decide) rfl
    refine LdI.mk ho rfl (Pn.mk ⟨by omega, ?_⟩)
    rw [add_mk]
    refine hfb.set (by simp [Hd.vs]) (by omega) fun wc hsc hfc hec => LdI.mk (hec.own ho (by simpa using hxk)) rfl (Pn.mk ⟨by omega, ?_⟩)
    rw [add_mk]
    refine hfc.set (by simp [Hd.vs]) (by omega) fun wd hsd hfd hed => hR k wd hkw ?_ ?_
    · exact hfd
    · exact (ex9.trans hex).trans' (hec.trans hed) (fun x hx hlt => by simp at hx; omega)
  refine ⟨?_, ?_⟩
  · refine over_ok hok.src hok.dst hH rfl (hD.ext0 ex9) hl ⟨by omega, by have := hok.n; omega⟩ fun w10 he10 => New.mk fun x w11 e11 s11 o11 he11 => Sts.full (vs := [.int .u8 (sumS (encAll src dst h D) % 256), .int .u8 (sumW (encAll src dst h D) % 256)]) o11 rfl rfl fun w12 hs12 o12 he12 => ?_
    exact fin x w10 w12 (by omega) o12 ((he10.trans he11).trans' he12 (fun y hy hlt => by simp at hy; have := he10.size; omega))
  · refine New.mk fun x w10 e10 s10 o10 he10 => ⟨?_, over_ok hok.src hok.dst (hH.ext0 he10) rfl (hD.ext0 (ex9.trans he10)) hl ⟨by omega, by have := hok.n; omega⟩ fun w11 he11 => ?_⟩
    · have h9 := ls ((x8.trans he9).trans (Ext.drew _ _))
      exact (he10.own h9 (by simp)).cell rfl
    · refine Sts.full (vs := [.int .u8 (sumS (encAll src dst h D) % 256), .int .u8 (sumW (encAll src dst h D) % 256)]) (he11.own o10 (by simp)) rfl rfl fun w12 hs12 o12 he12 => ?_
      exact fin x w10 w12 (by omega) o12 ((he10.trans he11).trans' he12 (fun y hy hlt => by simp at hy; omega))
end
end Go.Proofs.Qxb6500424aGreat
