/-
  conn: the real block's pump.
-/
import Derived.Test.Qxb6500424aGreatCnD
set_option linter.unusedVariables false
set_option linter.unusedSimpArgs false
open Go.Vc
namespace Go.Proofs.Qxb6500424aGreat
section
variable {w w' : World} {x p r : Nat} {C : CS}
theorem cPumpHead {ob : Option Addr} {ol oc : Nat} {N1 : Option Addr → Option Addr → Nat → Nat → World → Prop} {R : Option Addr → Nat → Nat → World → Prop} (h : CnR w x p r C) (hC : CsW C) (hK : ∀ w', Ext [] w w' → conn_Conn_pump.B4 (some ⟨x, 0, none⟩) ob ol oc (nOf C) w' N1 R) : conn_Conn_pump.L1b (some ⟨x, 0, none⟩) ob ol oc w N1 R := by
  unfold conn_Conn_pump.L1b
  have hs := hC.sent
  have hpw := hC.pw
  have hcr := hC.cr
  have b4 : ∀ n w', Ext [] w w' → n = nOf C → conn_Conn_pump.B4 (some ⟨x, 0, none⟩) ob ol oc n w' N1 R := fun n w' he e => by rw [e]; exact hK w' he
  have b3 : ∀ n w', Ext [] w w' → min n C.cr = nOf C → conn_Conn_pump.B3 (some ⟨x, 0, none⟩) ob ol oc n w' N1 R := fun n w' he e => by
    unfold conn_Conn_pump.B3
    have g := h.ext0 he
    exact Pn.mk (g.ldI (o := 12) (by omega) rfl (Bm.ite (fun c => Pn.mk (g.ldI (o := 12) (by omega) rfl (b4 _ w' he (by omega)))) fun c => b4 _ w' he (by omega)))
  have b2 : ∀ n w', Ext [] w w' → min (min n 12) C.cr = nOf C → conn_Conn_pump.B2 (some ⟨x, 0, none⟩) ob ol oc n w' N1 R := fun n w' he e => by
    unfold conn_Conn_pump.B2
    exact Bm.ite (fun c => b3 _ w' he (by omega)) fun c => b3 _ w' he (by omega)
  have b1 : ∀ rm, rm = room C → conn_Conn_pump.B1 (some ⟨x, 0, none⟩) ob ol oc rm w N1 R := fun rm e => by
    unfold conn_Conn_pump.B1
    have hrm : 0 ≤ rm ∧ rm ≤ 255 := by rw [e]; unfold room; split <;> omega
    refine cSent_ok h hC.S fun w1 he1 => ?_
    have g := h.ext0 he1
    refine Pn.mk (g.ldS (sUnsent_ok g.s hC.S fun w2 he2 => ?_))
    have E2 := he1.trans he2
    rw [w64 (by omega) (by omega)]
    have hn : nOf C = min (min (min ((C.S.D.length : Int) - (C.S.sent : Int)) (rm - (C.S.sent : Int))) 12) C.cr := by rw [e]; rfl
    exact Bm.ite (fun c => b2 _ w2 E2 (by omega)) fun c => b2 _ w2 E2 (by omega)
  refine Pn.mk (h.ldI (o := 9) (by omega) rfl (Bm.mk (fun c => b1 1 ?_) fun c => b1 C.pw ?_))
  · unfold room; rw [if_pos (by simpa using c)]
  · unfold room; rw [if_neg (by simpa using c)]
theorem cPumpFin {ob : Option Addr} {ol oc lo : Nat} {n : Int} {E : List (SegV × Nat)} {N1 : Option Addr → Option Addr → Nat → Nat → World → Prop} {R : Option Addr → Nat → Nat → World → Prop} (h : CnR w x p r C) (hC : CsW C) (hn : n ≤ 0) (sl : SL w ob ol oc lo E) (hlo : lo ≤ w.heap.size) (hx : x < lo ∧ p < lo ∧ r < lo) (hol : ol ≤ 50)
    (hR : ∀ b l c E' w', SL w' b l c lo E' → E'.map (·.1) = E.map (·.1) ++ (pump2 C).2 → CnR w' x p r (pump2 C).1 → Ext ([x, p, r] ++ rowBlk ob) w w' → l ≤ ol + 1 → R b l c w') : conn_Conn_pump.B4 (some ⟨x, 0, none⟩) ob ol oc n w N1 R := by
  unfold conn_Conn_pump.B4
  have hs := hC.sent
  have hcr := hC.cr
  unfold pump2 at hR
  refine Bm.pos (decide_eq_true hn) ?_
  have no : ¬ (C.wc = true ∧ C.fs = false ∧ 0 < C.cr ∧ C.S.D.length = C.S.sent) → ∀ w', Ext [] w w' → R ob ol oc w' := fun hno w' he => by
    rw [if_neg hno] at hR
    exact hR ob ol oc E w' (sl.ext0 he) (by simp) (h.ext0 he) he.nil (by omega)
  have b5f : ¬ (C.wc = true ∧ C.fs = false ∧ 0 < C.cr ∧ C.S.D.length = C.S.sent) → conn_Conn_pump.B5 (some ⟨x, 0, none⟩) ob ol oc false w R := fun hno => by
    unfold conn_Conn_pump.B5
    exact Bm.neg rfl (no hno w (Ext.refl _ _))
  refine Pn.mk (h.ldB (o := 4) (by omega) rfl (Bm.mk (fun c1 => Pn.mk (h.ldB (o := 5) (by omega) rfl (Bm.mk (fun c2 => Pn.mk (h.ldI (o := 12) (by omega) rfl ?_)) fun c2 => b5f fun q => by rw [q.2.1] at c2; cases c2))) fun c1 => b5f fun q => by rw [q.1] at c1; cases c1))
  have c2' : C.fs = false := by simpa using c2
  by_cases c3 : C.cr > 0
  · rw [decide_eq_true c3]
    unfold conn_Conn_pump.B5
    refine Bm.pos rfl (Pn.mk (h.ldS (sUnsent_ok h.s hC.S fun w1 he1 => ?_)))
    have h1 := h.ext0 he1
    refine Bm.mk (fun c4 => ?_) fun c4 => no (fun q => ?_) w1 he1
    · have c4' : C.S.D.length = C.S.sent := by
        have : (C.S.D.length : Int) - (C.S.sent : Int) = 0 := by simpa using c4
        omega
      rw [if_pos ⟨c1, c2', c3, c4'⟩] at hR
      refine Pn.mk (h1.ldS (sNxt_ok h1.s hC.S fun w2 he2 => ?_))
      have E2 := he1.trans he2
      refine cMkN_ok (h.ext0 E2) hC.B fun k w3 hk hb3 he3 => NewSet.mk rfl rfl fun s w5 hs5 hz5 o5 he5 => ?_
      have E5 := (E2.trans he3).trans he5
      have hz2 := E2.size
      have hz35 := (he3.trans he5).size
      refine push1_ok (g := mkF C 6 (nxtS C.S) []) (sl.ext0 E5) o5 (hb3.ext0 he5) (by omega) (by omega) (fun e he => by have := (sl.dat e he).lt; omega) (by omega) fun b' c' w6 sl6 he6 => ?_
      have hrb : ∀ y ∈ rowBlk ob, lo ≤ y := sl.blk
      have nx : x ∉ rowBlk ob := fun q => by have := hrb _ q; omega
      have np : p ∉ rowBlk ob := fun q => by have := hrb _ q; omega
      have nr : r ∉ rowBlk ob := fun q => by have := hrb _ q; omega
      have h6 := (h.ext0 E5).ext he6 nx np nr
      refine Pn.mk (h6.stFs fun w7 hs7 h7 he7 => Pn.mk (h7.ldI (o := 12) (by omega) rfl (Pn.mk ?_)))
      rw [w64 (by show -9223372036854775808 ≤ C.cr - 1; omega) (by show C.cr - 1 ≤ _; omega)]
      refine h7.stCr fun w8 hs8 h8 he8 => cArm_ok h8 hC.rt fun w9 hs9 h9 he9 => ?_
      have e79 : Ext [x] w6 w9 := he7.trans (he8.trans he9)
      refine hR b' (ol + 1) c' _ w9 (sl6.keep e79 (fun y hy => by simp at hy; omega)) (by simp) h9 ?_ (by omega)
      exact E5.nil.trans ((he6.mono (fun y hy _ => List.mem_append.2 (.inr hy))).trans (e79.mono (fun y hy _ => by simp at hy; simp [hy])))
    · have : (C.S.D.length : Int) - (C.S.sent : Int) ≠ 0 := by simpa using c4
      omega
  · rw [decide_eq_false c3]
    exact b5f fun q => c3 q.2.2.1
theorem cPump_ok {R : Option Addr → Nat → Nat → World → Prop} (h : CnR w x p r C) (hC : CsW C)
    (hR : ∀ b l c E w', SL w' b l c w.heap.size E → E.map (·.1) = (pumpF C).2 → CnR w' x p r (pumpF C).1 → Ext [x, p, r] w w' → l ≤ 2 → R b l c w') : conn_Conn_pump.Call (some ⟨x, 0, none⟩) w R := by
  apply conn_Conn_pump.sound
  unfold conn_Conn_pump.B0
  obtain ⟨lx, lp, lr⟩ := h.lt
  unfold pumpF at hR
  refine New.mk fun nb w1 hnb hs1 o1 he1 => ?_
  have h1 := h.ext0 he1
  have sl1 : SL w1 (some ⟨nb, 0, none⟩) 0 0 w.heap.size [] := SL.new o1 (by omega)
  refine Pn.mk (h1.ldI (o := 2) (by omega) rfl (Bm.mk (fun e => ?_) fun e => ?_))
  · rw [if_neg (by simpa using e)] at hR
    exact hR _ 0 0 [] w1 sl1 rfl h1 he1.nil (by omega)
  have h3 : C.st = 3 := by simpa using e
  rw [if_pos h3] at hR
  unfold conn_Conn_pump.L1
  refine ⟨fun m c' ob ol oc w' => ∃ (Cj : CS) (E : List (SegV × Nat)), ((1 = m ∧ C = Cj ∧ [] = E ∧ 0 = ol) ∨ (0 = m ∧ 0 < nOf C ∧ (pump1 C).1 = Cj ∧ E.map (·.1) = (pump1 C).2 ∧ 1 = ol)) ∧ some ⟨x, 0, none⟩ = c' ∧ CnR w' x p r Cj ∧ SL w' ob ol oc w.heap.size E ∧ Ext [x, p, r] w w', 1, ⟨C, [], .inl ⟨rfl, rfl, rfl, rfl⟩, rfl, h1, sl1, he1.nil⟩, ?_⟩
  rintro m c' ob ol oc w2 ⟨Cj, E, hst, rfl, h2, sl2, he2⟩
  have hCj : CsW Cj := by
    rcases hst with ⟨_, rfl, _⟩ | ⟨_, _, rfl, _⟩
    · exact hC
    · exact (pump1_w hC h3).1
  have hz2 := he2.size
  refine cPumpHead h2 hCj fun w3 he3 => ?_
  have h3' := h2.ext0 he3
  have sl3 := sl2.ext0 he3
  have hz3 := he3.size
  by_cases hn : nOf Cj ≤ 0
  · refine cPumpFin h3' hCj hn sl3 (by omega) ⟨lx, lp, lr⟩ (by rcases hst with ⟨_, _, _, q⟩ | ⟨_, _, _, _, q⟩ <;> omega) fun b l c E' w4 sl4 hE' h4 he4 hl4 => ?_
    have hex : Ext [x, p, r] w w4 := (he2.trans he3.nil).trans' he4 (fun y hy hlt => by
      rcases List.mem_append.1 hy with q | q
      · exact q
      · have := sl2.blk y q
        omega)
    rcases hst with ⟨_, rfl, rfl, q⟩ | ⟨_, hp, rfl, hE, q⟩
    · have e1 : pump1 C = (C, []) := by unfold pump1; rw [if_neg (by omega)]
      rw [e1] at hR
      exact hR b l c E' w4 sl4 (by simpa using hE') h4 hex (by omega)
    · exact hR b l c E' w4 sl4 (by rw [hE', hE]) h4 hex (by omega)
  · rcases hst with ⟨rfl, rfl, rfl, rfl⟩ | ⟨_, hp, rfl, hE, q⟩
    rotate_left
    · exact absurd (pump_twice hC hp) hn
    have hn' : 0 < nOf C := by omega
    have hle := nOf_le C
    have hln := least_n hn'
    have hcr := hC.cr
    have hs := hC.sent
    unfold conn_Conn_pump.B4
    refine Bm.neg (decide_eq_false hn) (Pn.mk (h3'.ldS (sNext_ok h3'.s hC.S fun k w4 hk hb4 s4 he4 => ?_)))
    have h4 := h3'.setS s4 he4
    have hz4 := he4.size
    rw [hln] at hb4 ⊢
    have hlen : ((C.S.D.drop C.S.sent).take (nOf C).toNat).length = (nOf C).toNat := by simp; omega
    rw [← hlen]
    refine cMkD_ok h4 hC.B hb4 fun w5 hb5 he5 => NewSet.mk rfl rfl fun s w7 hs7 hz7 o7 he7 => ?_
    have E47 := he5.trans he7
    have h7 := h4.ext0 E47
    have sl4 := sl3.keep he4 (fun y hy => by simp at hy; omega)
    have sl7 := sl4.ext0 E47
    have hz57 := E47.size
    refine push1_ok (g := mkF C 2 (nxtS C.S) ((C.S.D.drop C.S.sent).take (nOf C).toNat)) sl7 o7 (hb5.ext0 he7) (by omega) (by omega) (fun e he => (by cases he)) (by omega) fun b' c' w8 sl8 he8 => ?_
    have hrb : ∀ y ∈ rowBlk ob, w.heap.size ≤ y := sl2.blk
    have h8 := h7.ext he8 (fun q => by have := hrb _ q; omega) (fun q => by have := hrb _ q; omega) (fun q => by have := hrb _ q; omega)
    refine Pn.mk (h8.ldI (o := 12) (by omega) rfl (Pn.mk ?_))
    rw [w64 (by show -9223372036854775808 ≤ C.cr - nOf C; omega) (by show C.cr - nOf C ≤ _; omega)]
    refine h8.stCr fun w9 hs9 h9 he9 => cArm_ok h9 hC.rt fun w10 hs10 h10 he10 => ?_
    have e810 : Ext [x] w8 w10 := he9.trans he10
    have e1 : pump1 C = (armF { C with S := nextA (nOf C) C.S, cr := C.cr - nOf C }, [mkF C 2 (nxtS C.S) ((C.S.D.drop C.S.sent).take (nOf C).toNat)]) := by unfold pump1; rw [if_pos hn']
    refine ⟨0, by omega, (pump1 C).1, _, .inr ⟨rfl, hn', rfl, ?_, rfl⟩, rfl, by rw [e1]; exact h10, sl8.keep e810 (fun y hy => by simp at hy; omega), ?_⟩
    · rw [e1]; rfl
    · refine ((((he2.trans he3.nil).trans (p3 _ _ he4)).trans E47.nil).trans' he8 (fun y hy hlt => ?_)).trans (x3 (y := 0) _ _ e810)
      have := hrb y hy
      omega
end
end Go.Proofs.Qxb6500424aGreat
