/-
  conn: the real block's calls.
-/
import Derived.Test.Qxb6500424aGreatCnE
set_option linter.unusedVariables false
set_option linter.unusedSimpArgs false
open Go.Vc
namespace Go.Proofs.Qxb6500424aGreat
/-- What a call answers. -/
abbrev OutR (w : World) (x p r : Nat) (C' : CS) (G : List SegV) (R : Option Addr → Nat → Nat → World → Prop) : Prop :=
  ∀ b l c E w', SL w' b l c w.heap.size E → E.map (·.1) = G → CnR w' x p r C' → Ext [x, p, r] w w' → l ≤ 10 → R b l c w'
section
variable {w w' : World} {x p r : Nat} {C : CS}
theorem lay1 {k lo : Nat} {g : SegV} {K : Option Addr → Nat → Nat → World → Prop} (hk : Bf w k g.2) (hlo : lo ≤ k) (hK : ∀ nb w', SL w' (some ⟨nb, 0, none⟩) 1 1 lo [(g, k)] → Ext [] w w' → K (some ⟨nb, 0, none⟩) 1 1 w') :
    New (.cells #[.int .i64 0, .int .i64 0, .int .i64 0, .int .i64 0, .int .i64 0, .int .i64 0, .slice none 0 0] T_api_Segment) w fun a w1 =>
    Sts [.int .i64 g.1.sp, .int .i64 g.1.dp, .int .i64 g.1.sq, .int .i64 g.1.ak, .int .i64 g.1.fl, .int .i64 g.1.wn, .slice (some ⟨k, 0, none⟩) g.2.length g.2.length] ⟨a, 0, none⟩ 0 w1 fun w2 =>
    LdI .i64 ⟨a, 0, none⟩ w2 fun x0 => LdI .i64 ⟨a, 1, none⟩ w2 fun x1 => LdI .i64 ⟨a, 2, none⟩ w2 fun x2 => LdI .i64 ⟨a, 3, none⟩ w2 fun x3 => LdI .i64 ⟨a, 4, none⟩ w2 fun x4 => LdI .i64 ⟨a, 5, none⟩ w2 fun x5 => LdL ⟨a, 6, none⟩ w2 fun xb xl xc =>
    conn_one.Call x0 x1 x2 x3 x4 x5 xb xl xc w2 K :=
  NewSet.mk rfl rfl fun a w2 ha hs2 o2 he2 => LdI.mk o2 rfl (LdI.mk o2 rfl (LdI.mk o2 rfl (LdI.mk o2 rfl (LdI.mk o2 rfl (LdI.mk o2 rfl (LdL.mk o2 rfl (one_ok (g := g) (hk.ext0 he2) hlo fun nb w3 sl he3 => hK nb w3 sl (he2.trans he3))))))))
theorem OutR.nil {C' : CS} {R : Option Addr → Nat → Nat → World → Prop} (hR : OutR w x p r C' [] R) (h : CnR w' x p r C') (he : Ext [x, p, r] w w') : R none 0 0 w' := hR none 0 0 [] w' (SL.nil _ _) rfl h he (by omega)
theorem catPump {ob : Option Addr} {ol oc lo : Nat} {E : List (SegV × Nat)} {K : Option Addr → Nat → Nat → World → Prop} (h : CnR w x p r C) (hC : CsW C) (sl : SL w ob ol oc lo E) (hlo : lo ≤ w.heap.size) (hx : x < lo ∧ p < lo ∧ r < lo) (hol : ol ≤ 5)
    (hK : ∀ b l c E' w', SL w' b l c lo E' → E'.map (·.1) = E.map (·.1) ++ (pumpF C).2 → CnR w' x p r (pumpF C).1 → Ext ([x, p, r] ++ rowBlk ob) w w' → l ≤ ol + 2 → K b l c w') :
    conn_Conn_pump.Call (some ⟨x, 0, none⟩) w fun rb rl rc w1 =>
    Append T_api_Segment (.agg #[.int .i64 0, .int .i64 0, .int .i64 0, .int .i64 0, .int .i64 0, .int .i64 0, .slice none 0 0]) 7 72 ob ol oc rb rl w1 fun b c w2 => K b (ol + rl) c w2 := by
  refine cPump_ok h hC fun b l c E2 w1 sl2 hE2 h1 he1 hl => ?_
  have sl1 := sl.keep he1 (fun y hy => by
    simp only [List.mem_cons, List.not_mem_nil, or_false] at hy
    omega)
  have hz1 := he1.size
  refine SL.cat sl1 sl2 hlo (by omega) (fun e he => (sl.dat e he).lt) (fun k hk => sl.row.lt k hk) (by omega) (by omega) fun b' c' w2 sl3 he3 => ?_
  have hrb := sl.blk
  refine hK b' (ol + l) c' _ w2 sl3 (by simp [hE2]) (h1.ext he3 (fun q => by have := hrb _ q; omega) (fun q => by have := hrb _ q; omega) (fun q => by have := hrb _ q; omega)) ?_ (by omega)
  exact (he1.mono (fun y hy _ => List.mem_append.2 (.inl hy))).trans (he3.mono (fun y hy _ => List.mem_append.2 (.inr hy)))
theorem exOut {ob : Option Addr} {w1 w2 : World} (he1 : Ext [x, p, r] w w1) (he2 : Ext ([x, p, r] ++ rowBlk ob) w1 w2) (hb : ∀ y ∈ rowBlk ob, w.heap.size ≤ y) : Ext [x, p, r] w w2 :=
  he1.trans' he2 (fun y hy hlt => by
    rcases List.mem_append.1 hy with q | q
    · exact q
    · have := hb y q
      omega)
theorem cTick_ok {R : Option Addr → Nat → Nat → World → Prop} (h : CnR w x p r C) (hC : CsOk C) (hR : OutR w x p r (tickF C).1 (tickF C).2 R) : conn_Conn_Tick.Call (some ⟨x, 0, none⟩) w R := by
  apply conn_Conn_Tick.sound
  unfold conn_Conn_Tick.B0
  obtain ⟨lx, lp, lr⟩ := h.lt
  have hst := hC.st
  have htm := hC.tm
  have hrt := hC.rt
  have hqt := hC.qt
  unfold tickF at hR
  refine New.mk fun nb w1 hnb hs1 o1 he1 => ?_
  have h1 := h.ext0 he1
  have sl1 : SL w1 (some ⟨nb, 0, none⟩) 0 0 w.heap.size [] := SL.new o1 (by omega)
  have hnbl : ∀ y ∈ rowBlk (some ⟨nb, 0, none⟩), w.heap.size ≤ y := fun y hy => by simp [rowBlk] at hy; omega
  refine Pn.mk (h1.ldI (o := 2) (by omega) rfl (Bm.mk (fun e => ?_) fun e => Pn.mk (h1.ldI (o := 2) (by omega) rfl (Bm.mk (fun e4 => ?_) fun e4 => ?_))))
  · rw [if_pos (by simpa using e)] at hR
    exact hR _ 0 0 [] w1 sl1 rfl h1 he1.nil (by omega)
  · have h0 : C.st ≠ 0 := by simpa using e
    have h4 : C.st = 4 := by simpa using e4
    rw [if_neg h0, if_pos h4] at hR
    have b1 : ∀ w2, CnR w2 x p r { C with qt := dec1 C.qt } → Ext [x, p, r] w w2 → SL w2 (some ⟨nb, 0, none⟩) 0 0 w.heap.size [] → conn_Conn_Tick.B1 (some ⟨x, 0, none⟩) (some ⟨nb, 0, none⟩) 0 0 w2 R := fun w2 h2 he2 sl2 => by
      unfold conn_Conn_Tick.B1
      refine Pn.mk (h2.ldI (o := 13) (by omega) rfl (Bm.mk (fun q => Pn.mk (h2.ldR (rAvail_ok h2.b (Bm.mk (fun q2 => cWipe_ok h2 fun w3 h3 he3 => ?_) fun q2 => ?_)))) fun q => ?_))
      · have q' : dec1 C.qt = 0 := by simpa using q
        have q2' : C.B.A.length = 0 := by
          have : ((C.B.A.length : Nat) : Int) = 0 := by simpa using q2
          omega
        have ec : (if dec1 C.qt = 0 ∧ C.B.A.length = 0 then C0 else { C with qt := dec1 C.qt }) = C0 := if_pos ⟨q', q2'⟩
        rw [ec] at hR
        exact hR _ 0 0 [] w3 (sl2.keep he3 (fun y hy => by simp only [List.mem_cons, List.not_mem_nil, or_false] at hy; omega)) rfl h3 (he2.trans he3) (by omega)
      · have q2' : C.B.A.length ≠ 0 := by
          have : ((C.B.A.length : Nat) : Int) ≠ 0 := by simpa using q2
          omega
        have ec : (if dec1 C.qt = 0 ∧ C.B.A.length = 0 then C0 else { C with qt := dec1 C.qt }) = { C with qt := dec1 C.qt } := if_neg fun z => q2' z.2
        rw [ec] at hR
        exact hR _ 0 0 [] w2 sl2 rfl h2 he2 (by omega)
      · have q' : dec1 C.qt ≠ 0 := by simpa using q
        have ec : (if dec1 C.qt = 0 ∧ C.B.A.length = 0 then C0 else { C with qt := dec1 C.qt }) = { C with qt := dec1 C.qt } := if_neg fun z => q' z.1
        rw [ec] at hR
        exact hR _ 0 0 [] w2 sl2 rfl h2 he2 (by omega)
    refine Pn.mk (h1.ldI (o := 13) (by omega) rfl (Bm.ite (fun q => Pn.mk (h1.ldI (o := 13) (by omega) rfl (Pn.mk ?_))) fun q => b1 w1 ?_ he1.nil sl1))
    · rw [w64 (by omega) (by omega)]
      refine h1.stQt fun w2 hs2 h2 he2 => b1 w2 ?_ (he1.nil.trans (x3 (y := 0) _ _ he2)) (sl1.keep he2 (fun y hy => by simp at hy; omega))
      have ed : dec1 C.qt = C.qt - 1 := by unfold dec1; rw [if_pos q]
      rw [ed]
      exact h2
    · have ed : dec1 C.qt = C.qt := by unfold dec1; rw [if_neg q]
      rw [ed]
      exact h1
  · have h0 : C.st ≠ 0 := by simpa using e
    have h4 : C.st ≠ 4 := by simpa using e4
    rw [if_neg h0, if_neg h4] at hR
    have hl : C.st = 1 ∨ C.st = 2 ∨ C.st = 3 := by omega
    obtain ⟨l1, l2, l3⟩ := hC.live hl
    refine Pn.mk (h1.stCr fun w3 hs3 h3 he3 => Pn.mk (h3.ldI (o := 10) (by omega) rfl ?_))
    have E3 : Ext [x, p, r] w w3 := he1.nil.trans (x3 (y := 0) _ _ he3)
    have sl3 := sl1.keep he3 (fun y hy => by simp at hy; omega)
    have hz3 := E3.size
    refine Bm.ite (fun ht => Pn.mk (h3.ldI (o := 10) (by omega) rfl (Pn.mk ?_))) fun ht => ?_
    · rw [if_pos ht] at hR
      rw [w64 (by show -9223372036854775808 ≤ C.tm - 1; omega) (by show C.tm - 1 ≤ _; omega)]
      refine h3.stTm fun w4 hs4 h4' he4 => Pn.mk (h4'.ldI (o := 10) (by omega) rfl ?_)
      have E4 := E3.trans (x3 (y := 0) _ _ he4)
      have sl4 := sl3.keep he4 (fun y hy => by simp at hy; omega)
      refine Bm.mk (fun q => Pn.mk (h4'.ldI (o := 11) (by omega) rfl (Bm.mk (fun q3 => cFail_ok h4' fun w5 h5 he5 => ?_) fun q3 => Pn.mk (h4'.ldI (o := 11) (by omega) rfl (Pn.mk ?_))))) fun q => ?_
      · rw [if_pos (by simpa using q), if_pos (by simpa using q3)] at hR
        exact hR _ 0 0 [] w5 (sl4.keep he5 (fun y hy => by simp only [List.mem_cons, List.not_mem_nil, or_false] at hy; omega)) rfl h5 (E4.trans he5) (by omega)
      · have q' : C.tm - 1 = 0 := by simpa using q
        have q3' : C.rt ≠ 3 := by simpa using q3
        rw [if_pos q', if_neg q3'] at hR
        rw [w64 (by show -9223372036854775808 ≤ C.rt + 1; omega) (by show C.rt + 1 ≤ _; omega)]
        refine h4'.stRt fun w6 hs6 h6 he6 => cArm_ok h6 (by show 0 ≤ C.rt + 1 ∧ C.rt + 1 ≤ 3; omega) fun w7 hs7 h7 he7 => ?_
        have E7 := E4.trans ((x3 (y := 0) _ _ he6).trans (x3 (y := 0) _ _ he7))
        have sl7 := (sl4.keep he6 (fun y hy => by simp at hy; omega)).keep he7 (fun y hy => by simp at hy; omega)
        have hz7 := E7.size
        have hS7 : SbOk (armF { C with cr := 12, tm := C.tm - 1, rt := C.rt + 1 }).S := by rw [armF_eq]; exact hC.S
        have hB7 : RbOk (armF { C with cr := 12, tm := C.tm - 1, rt := C.rt + 1 }).B := by rw [armF_eq]; exact hC.B
        refine cAgain_ok h7 hS7 hB7 fun k w8 hk hb8 he8 => NewSet.mk rfl rfl fun s w10 hs10 hz10 o10 he10 => ?_
        have E710 := he8.trans he10
        have hz8 := he8.size
        refine push1_ok (g := againF (armF { C with cr := 12, tm := C.tm - 1, rt := C.rt + 1 })) (sl7.ext0 E710) o10 (hb8.ext0 he10) (by omega) (by omega) (fun e he => (by cases he)) (by omega) fun b' c' w11 sl11 he11 => ?_
        have h11 := (h7.ext0 E710).ext he11 (fun q => by have := hnbl _ q; omega) (fun q => by have := hnbl _ q; omega) (fun q => by have := hnbl _ q; omega)
        have E11 : Ext [x, p, r] w w11 := (E7.trans E710.nil).trans' he11 (fun y hy hlt => by have := hnbl y hy; omega)
        have hCw : CsW (armF { C with cr := 12, tm := C.tm - 1, rt := C.rt + 1 }) := by
          have ha := arm_tm (C := { C with rt := C.rt + 1 }) (by show 0 ≤ C.rt + 1 ∧ C.rt + 1 ≤ 3; omega)
          have e : ({ C with rt := C.rt + 1 } : CS).rt.toNat = (C.rt + 1).toNat := rfl
          rw [e] at ha
          rw [armF_eq]
          show CsW { C with cr := 12, rt := C.rt + 1, tm := if C.tm - 1 = 0 then 2 * 2 ^ (C.rt + 1).toNat else C.tm - 1 }
          rw [if_pos q']
          exact (live_ok hC hl (by omega) (by omega) (by omega) ⟨fun _ => by omega, fun _ => l3.2 ht⟩).toCsW
        unfold conn_Conn_Tick.B2
        have hz11 := E11.size
        refine catPump h11 hCw sl11 (by omega) ⟨lx, lp, lr⟩ (by omega) fun b l c E' w12 sl12 hE' h12 he12 hl12 => hR b l c E' w12 sl12 (by rw [hE']; rfl) h12 (exOut E11 he12 sl11.blk) (by omega)
      · rw [if_neg (by simpa using q)] at hR
        have q' : C.tm - 1 ≠ 0 := by simpa using q
        have ht' : 0 < C.tm := ht
        have hCw : CsW { C with cr := 12, tm := C.tm - 1 } := (live_ok (r := C.rt) hC hl (by omega) (by omega) hrt ⟨fun _ => by omega, fun _ => l3.2 ht⟩).toCsW
        unfold conn_Conn_Tick.B2
        have hz4 := E4.size
        refine catPump h4' hCw sl4 (by omega) ⟨lx, lp, lr⟩ (by omega) fun b l c E' w12 sl12 hE' h12 he12 hl12 => hR b l c E' w12 sl12 (by rw [hE']; rfl) h12 (exOut E4 he12 hnbl) (by omega)
    · rw [if_neg ht] at hR
      have hCw : CsW { C with cr := 12 } := (live_ok (t := C.tm) (r := C.rt) hC hl (by omega) htm hrt l3).toCsW
      unfold conn_Conn_Tick.B2
      refine catPump h3 hCw sl3 (by omega) ⟨lx, lp, lr⟩ (by omega) fun b l c E' w12 sl12 hE' h12 he12 hl12 => hR b l c E' w12 sl12 (by rw [hE']; rfl) h12 (exOut E3 he12 hnbl) (by omega)
theorem cEnded_ok {R : Int → World → Prop} (h : CnR w x p r C) (hR : R (endedF C) w) : conn_Conn_ended.Call (some ⟨x, 0, none⟩) w R := by
  apply conn_Conn_ended.sound
  unfold conn_Conn_ended.B0
  unfold endedF at hR
  refine Pn.mk (h.ldI (o := 3) (by omega) rfl (Bm.mk (fun e => Pn.mk (h.ldI (o := 3) (by omega) rfl ?_)) fun e => ?_))
  · rw [if_pos (by simpa using e)] at hR; exact hR
  · rw [if_neg (by simpa using e)] at hR; exact hR
theorem cSend_ok {P z : List Int} {k pc : Nat} {R : Int → Option Addr → Nat → Nat → Int → World → Prop} (h : CnR w x p r C) (hC : CsOk C) (hk : Bf w k (P ++ z)) (hpc : P.length ≤ pc) (hpl : P.length ≤ 281474976710656) (hR : OutR w x p r (sendF P C).2.C (sendF P C).2.G fun b l c w' => Bf w' k (P ++ z) → R (sendF P C).1 b l c (sendF P C).2.e w') : conn_Conn_Send.Call (some ⟨x, 0, none⟩) (some ⟨k, 0, none⟩) P.length pc w R := by
  apply conn_Conn_Send.sound
  unfold conn_Conn_Send.B0
  have hst := hC.st
  unfold sendF at hR
  have kk := hk
  have b1t : (C.st = 1 ∨ C.st = 2) → C.st ≠ 0 → conn_Conn_Send.B1 (some ⟨x, 0, none⟩) (some ⟨k, 0, none⟩) P.length pc C.st true w R := fun hc h0 => by
    unfold conn_Conn_Send.B1
    rw [if_neg h0, if_pos hc] at hR
    exact Bm.pos rfl (OutR.nil hR h (Ext.refl _ _) kk)
  refine Pn.mk (h.ldI (o := 2) (by omega) rfl (Bm.mk (fun e => ?_) fun e => Bm.mk (fun e1 => ?_) fun e1 => ?_))
  · rw [if_pos (by simpa using e)] at hR
    exact OutR.nil hR h (Ext.refl _ _) kk
  · rw [e1]
    exact b1t (.inl (by simpa using e1)) (by simpa using e)
  have h0 : C.st ≠ 0 := by simpa using e
  have h1 : C.st ≠ 1 := by simpa using e1
  by_cases e2 : C.st = 2
  · rw [show (C.st == 2) = true by simpa using e2]
    exact b1t (.inr e2) h0
  rw [show (C.st == 2) = false by simpa using e2]
  rw [if_neg h0, if_neg (by omega)] at hR
  unfold conn_Conn_Send.B1
  refine Bm.neg rfl (Bm.mk (fun e4 => cEnded_ok h ?_) fun e4 => Pn.mk (h.ldB (o := 4) (by omega) rfl (Bm.mk (fun ew => ?_) fun ew => ?_)))
  · rw [if_pos (by simpa using e4)] at hR
    exact OutR.nil hR h (Ext.refl _ _) kk
  · rw [if_neg (by simpa using e4), if_pos ew] at hR
    exact OutR.nil hR h (Ext.refl _ _) kk
  have h4 : C.st ≠ 4 := by simpa using e4
  rw [if_neg h4, if_neg (by rw [ew]; simp)] at hR
  have h3 : C.st = 3 := by omega
  have b2 : ¬ (0 < P.length ∧ C.S.D.length = 16) → conn_Conn_Send.B2 (some ⟨x, 0, none⟩) (some ⟨k, 0, none⟩) P.length pc w R := fun hno => by
    rw [if_neg hno] at hR
    unfold conn_Conn_Send.B2
    obtain ⟨X1, x1, x2⟩ := h.s
    have hX := Tys.one x1
    refine Pn.mk (h.ldS (sPut_ok h.s hC.S (fun w' he => (Bf.rd (z := z) ⟨ownT he hX hk.1 (by decide), hk.2⟩)) rfl hpc hpl fun w1 s1 he1 => ?_))
    have g := h.setS s1 he1
    have k1 : Bf w1 k (P ++ z) := ⟨ownT he1 hX hk.1 (by decide), hk.2⟩
    obtain ⟨o1, o2, o3, o4⟩ := hC.openn h3
    obtain ⟨l1, l2, l3⟩ := hC.live (by omega)
    have hfs : C.fs ≠ true := fun q => by have := o2 q; rw [this] at ew; cases ew
    have hfa : C.fa ≠ true := fun q => hfs (o1 q)
    have hCw : CsW { C with S := (putA P C.S).2 } := ⟨putA_ok hC.S hk.2.left, hC.B, hC.st, hC.iss, hC.pw, hC.tm, hC.rt, hC.cr, hC.qt, fun e => (by have : C.st = 0 := e; omega), fun e => (by have : C.st = 4 := e; omega), fun e => (by have : C.st = 4 := e; omega), fun _ => ⟨l1, l2, l3⟩, fun e => (by have : C.st = 1 ∨ C.st = 2 := e; omega), fun _ => ⟨fun e => absurd e hfa, fun e => absurd e hfs, fun e => absurd e hfs, fun e => absurd e hfa⟩⟩
    have hz := he1.size
    refine cPump_ok g hCw fun b l c E w2 sl hE h2 he2 hl => hR b l c E w2 ⟨sl.row, sl.dat, sl.asc, fun e he => (by have := sl.ge e he; omega), fun y hy => (by have := sl.blk y hy; omega), sl.cap⟩ hE h2 ((p3 _ _ he1).trans he2) (by omega) ?_
    exact ⟨ownT he2 g.tys k1.1 (by decide), k1.2⟩
  refine Bm.ite (fun hp => Pn.mk (h.ldS (sLen_ok h.s (Bm.mk (fun e16 => ?_) fun e16 => b2 fun q => ?_)))) fun hp => b2 fun q => ?_
  · have e16' : C.S.D.length = 16 := by
      have : ((C.S.D.length : Nat) : Int) = 16 := by simpa using e16
      omega
    rw [if_pos ⟨by omega, e16'⟩] at hR
    exact OutR.nil hR h (Ext.refl _ _) kk
  · have : ((C.S.D.length : Nat) : Int) ≠ 16 := by simpa using e16
    omega
  · omega
theorem cRecv_ok {mx : Int} {R : Option Addr → Nat → Nat → Option Addr → Nat → Nat → Int → World → Prop} (h : CnR w x p r C) (hC : CsOk C)
    (hR : ∀ gb gl gc, OutR w x p r (recvF mx C).2.C (recvF mx C).2.G fun b l c w' => ((gb = none ∧ gl = 0 ∧ gc = 0 ∧ (recvF mx C).1 = []) ∨ (∃ k, gb = some ⟨k, 0, none⟩ ∧ gl = (recvF mx C).1.length ∧ gc = (recvF mx C).1.length ∧ w.heap.size ≤ k ∧ Bf w' k (recvF mx C).1)) → R gb gl gc b l c (recvF mx C).2.e w') : conn_Conn_Recv.Call (some ⟨x, 0, none⟩) mx w R := by
  apply conn_Conn_Recv.sound
  unfold conn_Conn_Recv.B0
  unfold recvF at hR
  obtain ⟨lx, lp, lr⟩ := h.lt
  refine Pn.mk (h.ldI (o := 2) (by omega) rfl (Bm.mk (fun e => ?_) fun e => Bm.ite (fun em => ?_) fun em => Pn.mk (h.ldR (rAvail_ok h.b ?_))))
  · rw [if_pos (by simpa using e)] at hR
    exact OutR.nil (hR none 0 0) h (Ext.refl _ _) (.inl ⟨rfl, rfl, rfl, rfl⟩)
  · rw [if_neg (by simpa using e), if_pos em] at hR
    exact OutR.nil (hR none 0 0) h (Ext.refl _ _) (.inl ⟨rfl, rfl, rfl, rfl⟩)
  rw [if_neg (by simpa using e), if_neg em] at hR
  refine Bm.mk (fun ea => Pn.mk (h.ldB (o := 7) (by omega) rfl (Bm.mk (fun ep => ?_) fun ep => Pn.mk (h.ldI (o := 2) (by omega) rfl (Bm.mk (fun e4 => Pn.mk (h.drew.ldI (o := 3) (by omega) rfl ?_)) fun e4 => ?_))))) fun ea => ?_
  · have ea' : C.B.A.length = 0 := by
      have : ((C.B.A.length : Nat) : Int) = 0 := by simpa using ea
      omega
    rw [if_pos ea', if_pos ep] at hR
    exact OutR.nil (hR none 0 0) h (Ext.refl _ _) (.inl ⟨rfl, rfl, rfl, rfl⟩)
  · have ea' : C.B.A.length = 0 := by
      have : ((C.B.A.length : Nat) : Int) = 0 := by simpa using ea
      omega
    rw [if_pos ea', if_neg (by rw [ep]; simp), if_pos (by simpa using e4)] at hR
    exact OutR.nil (hR none 0 0) h.drew (Ext.drew _ _) (.inl ⟨rfl, rfl, rfl, rfl⟩)
  · have ea' : C.B.A.length = 0 := by
      have : ((C.B.A.length : Nat) : Int) = 0 := by simpa using ea
      omega
    rw [if_pos ea', if_neg (by rw [ep]; simp), if_neg (by simpa using e4)] at hR
    exact OutR.nil (hR none 0 0) h (Ext.refl _ _) (.inl ⟨rfl, rfl, rfl, rfl⟩)
  · have ea' : C.B.A.length ≠ 0 := by
      have : ((C.B.A.length : Nat) : Int) ≠ 0 := by simpa using ea
      omega
    rw [if_neg ea'] at hR
    have hlen : (C.B.A.take (leastN mx C.B.A.length)).length = leastN mx C.B.A.length := by
      have := leastN_le mx C.B.A.length
      simp
      omega
    refine Pn.mk (h.ldR (rRead_ok h.b hC.B.toRbW fun k w1 hk hb1 s1 he1 => New.mk fun nb w2 hnb hs2 o2 he2 => ?_))
    have g1 := h.setB s1 he1
    have g2 := g1.ext0 he2
    have hz1 := he1.size
    have hz2 := he2.size
    have sl2 : SL w2 (some ⟨nb, 0, none⟩) 0 0 w.heap.size [] := SL.new o2 (by omega)
    have hb2 := hb1.ext0 he2
    have E2 : Ext [x, p, r] w w2 := (r3 _ _ he1).trans he2.nil
    have b1f : ¬ (C.B.A.length = 16 ∧ C.st = 3) → conn_Conn_Recv.B1 (some ⟨x, 0, none⟩) (some ⟨k, 0, none⟩) (leastN mx C.B.A.length) (leastN mx C.B.A.length) (some ⟨nb, 0, none⟩) 0 0 false w2 R := fun hno => by
      unfold conn_Conn_Recv.B1
      refine Bm.neg rfl (hR (some ⟨k, 0, none⟩) _ _ _ 0 0 [] w2 sl2 ?_ g2 E2 (by omega) (.inr ⟨k, rfl, hlen.symm, hlen.symm, hk, hb2⟩))
      show [] = if C.B.A.length = 16 ∧ C.st = 3 then _ else _
      rw [if_neg hno]
    refine Bm.mk (fun e16 => Pn.mk (g2.ldI (o := 2) (by omega) rfl ?_)) fun e16 => b1f fun q => ?_
    · have e16' : C.B.A.length = 16 := by
        have : ((C.B.A.length : Nat) : Int) = 16 := by simpa using e16
        omega
      by_cases e3 : C.st = 3
      · rw [show (({ C with B := readA mx C.B } : CS).st == 3) = true by simpa using e3]
        unfold conn_Conn_Recv.B1
        refine Bm.pos rfl (cAck_ok g2 hC.S (readA_ok hC.B mx) fun ka w3 hka hb3 he3 => NewSet.mk rfl rfl fun s w5 hs5 hz5 o5 he5 => ?_)
        have E35 := he3.trans he5
        have hz3 := he3.size
        refine push1_ok (g := ackF { C with B := readA mx C.B }) (sl2.ext0 E35) o5 (hb3.ext0 he5) (by omega) (by omega) (fun e he => (by cases he)) (by omega) fun b' c' w6 sl6 he6 => ?_
        have hnbl : ∀ y ∈ rowBlk (some ⟨nb, 0, none⟩), nb = y := fun y hy => by simp [rowBlk] at hy; exact hy.symm
        have hkl := hb1.lt
        refine hR (some ⟨k, 0, none⟩) _ _ b' 1 c' _ w6 sl6 ?_ ((g2.ext0 E35).ext he6 (fun q => by have := hnbl _ q; omega) (fun q => by have := hnbl _ q; omega) (fun q => by have := hnbl _ q; omega)) ((E2.trans E35.nil).trans' he6 (fun y hy hlt => by have := hnbl y hy; omega)) (by omega) (.inr ⟨k, rfl, hlen.symm, hlen.symm, hk, (hb2.ext0 E35).ext he6 (fun q => by have := hnbl _ q; omega)⟩)
        show [ackF _] = if C.B.A.length = 16 ∧ C.st = 3 then _ else _
        rw [if_pos ⟨e16', e3⟩]
      · rw [show (({ C with B := readA mx C.B } : CS).st == 3) = false by simpa using e3]
        exact b1f fun q => e3 q.2
    · have : ((C.B.A.length : Nat) : Int) ≠ 16 := by simpa using e16
      omega
theorem cClose_ok {R : Option Addr → Nat → Nat → Int → World → Prop} (h : CnR w x p r C) (hC : CsOk C) (hR : OutR w x p r (closeF C).C (closeF C).G fun b l c w' => R b l c (closeF C).e w') : conn_Conn_Close.Call (some ⟨x, 0, none⟩) w R := by
  apply conn_Conn_Close.sound
  unfold conn_Conn_Close.B0
  have hst := hC.st
  unfold closeF at hR
  obtain ⟨lx, lp, lr⟩ := h.lt
  refine Pn.mk (h.ldI (o := 2) (by omega) rfl (Bm.mk (fun e => ?_) fun e => Bm.mk (fun e4 => cEnded_ok h ?_) fun e4 => Bm.mk (fun e1 => cFail_ok h fun w1 h1 he1 => New.mk fun nb w2 hnb hs2 o2 he2 => ?_) fun e1 => Pn.mk (h.ldB (o := 4) (by omega) rfl (Bm.mk (fun ew => ?_) fun ew => Pn.mk (h.stWc fun w1 hs1 h1 he1 => ?_)))))
  · rw [if_pos (by simpa using e)] at hR
    exact OutR.nil hR h (Ext.refl _ _)
  · rw [if_neg (by simpa using e), if_pos (by simpa using e4)] at hR
    exact OutR.nil hR h (Ext.refl _ _)
  · rw [if_neg (by simpa using e), if_neg (by simpa using e4), if_pos (by simpa using e1)] at hR
    have hz1 := he1.size
    exact hR _ 0 0 [] w2 (SL.new o2 (by omega)) rfl (h1.ext0 he2) (he1.trans he2.nil) (by omega)
  · rw [if_neg (by simpa using e), if_neg (by simpa using e4), if_neg (by simpa using e1), if_pos ew] at hR
    exact OutR.nil hR h (Ext.refl _ _)
  · have h0 : C.st ≠ 0 := by simpa using e
    have h4 : C.st ≠ 4 := by simpa using e4
    have h1' : C.st ≠ 1 := by simpa using e1
    rw [if_neg h0, if_neg h4, if_neg h1', if_neg (by rw [ew]; simp)] at hR
    have hCw : CsW { C with wc := true } := ⟨hC.S, hC.B, hC.st, hC.iss, hC.pw, hC.tm, hC.rt, hC.cr, hC.qt, fun e => absurd e h0, fun e => absurd e h4, fun e => absurd e h4, hC.live, hC.opening, fun e => by
      obtain ⟨o1, o2, o3, o4⟩ := hC.openn e
      exact ⟨o1, fun _ => rfl, o3, o4⟩⟩
    refine cPump_ok h1 hCw fun b l c E w2 sl hE h2 he2 hl => hR b l c E w2 (by rw [hs1] at sl; exact sl) hE h2 ((x3 (y := 0) _ _ he1).trans he2) (by omega)
theorem cAbort_ok {R : Option Addr → Nat → Nat → Int → World → Prop} (h : CnR w x p r C) (hC : CsOk C) (hR : OutR w x p r (abortF C).C (abortF C).G fun b l c w' => R b l c (abortF C).e w') : conn_Conn_Abort.Call (some ⟨x, 0, none⟩) w R := by
  apply conn_Conn_Abort.sound
  unfold conn_Conn_Abort.B0
  unfold abortF at hR
  obtain ⟨lx, lp, lr⟩ := h.lt
  refine Pn.mk (h.ldI (o := 2) (by omega) rfl (Bm.mk (fun e => ?_) fun e => Bm.mk (fun e4 => Pn.mk (h.ldI (o := 3) (by omega) rfl (Bm.mk (fun ew => Pn.mk (h.ldI (o := 13) (by omega) rfl (cFail_ok h fun w1 h1 he1 => Pn.mk (h1.stQt fun w2 hs2 h2 he2 => ?_)))) fun ew => ?_))) fun e4 => Bm.mk (fun e1 => cFail_ok h fun w1 h1 he1 => New.mk fun nb w2 hnb hs2 o2 he2 => ?_) fun e1 => ?_))
  · rw [if_pos (by simpa using e)] at hR
    exact OutR.nil hR h (Ext.refl _ _)
  · rw [if_neg (by simpa using e), if_pos (by simpa using e4), if_pos (by simpa using ew)] at hR
    unfold conn_Conn_Abort.B1
    refine New.mk fun nb w3 hnb hs3 o3 he3 => hR _ 0 0 [] w3 (SL.new o3 (by have := he1.size; omega)) rfl (h2.ext0 he3) (he1.trans ((x3 (y := 0) _ _ he2).trans he3.nil)) (by omega)
  · rw [if_neg (by simpa using e), if_pos (by simpa using e4), if_neg (by simpa using ew)] at hR
    unfold conn_Conn_Abort.B1
    refine New.mk fun nb w3 hnb hs3 o3 he3 => hR _ 0 0 [] w3 (SL.new o3 (by omega)) rfl (h.ext0 he3) he3.nil (by omega)
  · rw [if_neg (by simpa using e), if_neg (by simpa using e4), if_pos (by simpa using e1)] at hR
    exact hR _ 0 0 [] w2 (SL.new o2 (by have := he1.size; omega)) rfl (h1.ext0 he2) (he1.trans he2.nil) (by omega)
  · rw [if_neg (by simpa using e), if_neg (by simpa using e4), if_neg (by simpa using e1)] at hR
    refine cSNxt_ok h hC.S fun w1 he1 => cRst_ok fun k w2 hk hb2 he2 => NewSet.mk rfl rfl fun s w4 hs4 hz4 o4 he4 => ?_
    have E4 := (he1.trans he2).trans he4
    have hz1 := he1.size
    have hz2 := he2.size
    have h4 := h.ext0 E4
    refine cFail_ok h4 fun w5 h5 he5 => ?_
    have o5 := ownT he5 h4.tys o4 (by decide)
    have hb5 : Bf w5 k (rstF (sndNxt C)).2 := ⟨ownT he5 h4.tys (hb2.ext0 he4).1 (by decide), IsB.nil⟩
    refine LdI.mk o5 rfl (LdI.mk o5 rfl (LdI.mk o5 rfl (LdI.mk o5 rfl (LdI.mk o5 rfl (LdI.mk o5 rfl (LdL.mk o5 rfl ?_))))))
    exact one_ok (g := rstF (sndNxt C)) (lo := w.heap.size) hb5 (by omega) fun nb w6 sl he6 => hR _ 1 1 _ w6 sl rfl (h5.ext0 he6) (E4.nil.trans (he5.trans he6.nil)) (by omega)
theorem cOpenA_ok {iss : Int} {R : Option Addr → Nat → Nat → Int → World → Prop} (h : CnR w x p r C) (hR : OutR w x p r (openAF iss C).C (openAF iss C).G fun b l c w' => R b l c (openAF iss C).e w') : conn_Conn_OpenActive.Call (some ⟨x, 0, none⟩) iss w R := by
  apply conn_Conn_OpenActive.sound
  unfold conn_Conn_OpenActive.B0
  unfold openAF at hR
  refine Pn.mk (h.ldI (o := 2) (by omega) rfl (Bm.mk (fun e => ?_) fun e => cBegin_ok h fun w1 h1 he1 => cAgain_ok h1 (resetS_ok _) (resetR_ok 0) fun k w2 hk hb2 he2 => ?_))
  · rw [if_pos (by simpa using e)] at hR
    exact OutR.nil hR h (Ext.refl _ _)
  · rw [if_neg (by simpa using e)] at hR
    have hz1 := he1.size
    exact lay1 (g := againF (beginF 1 iss)) (lo := w.heap.size) hb2 (by omega) fun nb w3 sl he3 => hR _ 1 1 _ w3 sl rfl (h1.ext0 (he2.trans he3)) (he1.trans (he2.trans he3).nil) (by omega)
theorem cOpenP_ok {iss : Int} {hd : Hd} {db : Option Addr} {dl dc : Nat} {R : Option Addr → Nat → Nat → Int → World → Prop} (h : CnR w x p r C) (hR : OutR w x p r (openPF iss hd C).C (openPF iss hd C).G fun b l c w' => R b l c (openPF iss hd C).e w') : conn_Conn_OpenPassive.Call (some ⟨x, 0, none⟩) iss hd.sp hd.dp hd.sq hd.ak hd.fl hd.wn db dl dc w R := by
  apply conn_Conn_OpenPassive.sound
  unfold conn_Conn_OpenPassive.B0
  unfold openPF at hR
  refine New.mk fun sy w1 hsy hs1 o1 he1 => ?_
  have h1 := h.ext0 he1
  refine Pn.mk (h1.ldI (o := 2) (by omega) rfl (Bm.mk (fun e => ?_) fun e => LdI.mk o1 rfl (Bm.mk (fun ef => ?_) fun ef => cBegin_ok h1 fun w2 h2 he2 => ?_)))
  · rw [if_pos (by simpa using e)] at hR
    exact OutR.nil hR h1 he1.nil
  · rw [if_neg (by simpa using e), if_pos (bne_iff_ne.1 ef)] at hR
    exact OutR.nil hR h1 he1.nil
  · rw [if_neg (by simpa using e), if_neg (fun q => q (bne_eq_false_iff_eq.1 ef))] at hR
    have o2 := ownT he2 h1.tys o1 (by decide)
    refine LdI.mk o2 rfl (seqAdd_ok (Pn.mk (h2.ldR (rReset_ok h2.b fun w3 s3 he3 => ?_))))
    have h3 := h2.setB s3 he3
    have hX3 : Tys w2 [r] [T_conn_Conn, T_seg_SendBuf, T_seg_RecvBuf] := fun k hk hl => h2.tys k (by simp at hk; simp [hk]) hl
    have o3 := ownT he3 hX3 o2 (by decide)
    refine LdI.mk o3 rfl (cWindow_ok (Pn.mk (h3.stPw fun w4 hs4 h4 he4 => cAgain_ok h4 (resetS_ok _) (resetR_ok _) fun k w5 hk hb5 he5 => ?_)))
    have hz1 := he1.size
    have hz2 := he2.size
    have hz3 := he3.size
    exact lay1 (g := againF { beginF 2 iss with B := resetR (sqAdd hd.sq 1), pw := windowF hd.wn }) (lo := w.heap.size) hb5 (by omega) fun nb w6 sl he6 => hR _ 1 1 _ w6 sl rfl (h4.ext0 (he5.trans he6)) (he1.nil.trans (he2.trans ((r3 _ _ he3).trans ((x3 (y := 0) _ _ he4).trans (he5.trans he6).nil)))) (by omega)
end
end Go.Proofs.Qxb6500424aGreat
