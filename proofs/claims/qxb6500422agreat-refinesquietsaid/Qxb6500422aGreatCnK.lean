/-
  conn: the model's calls.
-/
import Derived.Test.Qxb6500422aGreatCnJ
set_option linter.unusedVariables false
set_option linter.unusedSimpArgs false
open Go.Vc
namespace Go.Proofs.Qxb6500422aGreat
section
variable {w w' : World} {m : Nat} {X : MC} {C : CS}
theorem push2_ok {b : Option Addr} {l c lo k : Nat} {E : List (SegV × Nat)} {g : SegV} {K : Option Addr → Nat → World → Prop} (h : SL w b l c lo E) (hk : Bf w k g.2) (hlo : lo ≤ k) (hw : lo ≤ w.heap.size) (hgt : ∀ e ∈ E, e.2 < k) (hl : l ≤ 100)
    (hK : ∀ b' c' w', SL w' b' (l + 1) c' lo (E ++ [(g, k)]) → Ext (rowBlk b) w w' → K b' c' w') :
      New (.cells #[.int .i64 g.1.sp, .int .i64 g.1.dp, .int .i64 g.1.sq, .int .i64 g.1.ak, .int .i64 g.1.fl, .int .i64 g.1.wn, .slice (some ⟨k, 0, none⟩) g.2.length g.2.length] 45) w fun nb w1 =>
      Append 45 (.agg #[.int .i64 0, .int .i64 0, .int .i64 0, .int .i64 0, .int .i64 0, .int .i64 0, .slice none 0 0]) 7 72 b l c (some ⟨nb, 0, none⟩) 1 w1 K := by
  refine New.mk fun nb w1 hnb hs1 onb he1 => ?_
  have h1 := h.ext0 he1
  refine Vc.Append.mkC (e := T_api_Segment) (news := segC (g, k)) h1.row (CellsAt.own onb (fun j v hj => by simpa [segC] using hj)) rfl rfl rfl (by omega) (by omega) fun b' c' w2 hrow2 hE2 hb2 hcc => ?_
  have hz1 := he1.size
  have nin : ∀ {y : Nat}, (∃ v, Bf w1 y v) → y ∉ rowBlk b := fun {y} hy hx => by
    obtain ⟨v, hv⟩ := hy
    obtain ⟨cs, ho⟩ := h1.row.ty hx
    exact Own.ne_type hv.1 ho (by decide) rfl
  refine hK b' c' w2 ⟨?_, fun e he => ?_, ?_, fun e he => ?_, fun y hy => ?_, by have := h.cap; omega⟩ (he1.nil.trans hE2)
  · rw [List.flatMap_append]
    simpa using hrow2
  · rcases List.mem_append.1 he with q | q
    · have hd := h1.dat e q
      exact hd.ext hE2 (nin ⟨_, hd⟩)
    · simp at q
      subst q
      have hd := hk.ext0 he1
      exact hd.ext hE2 (nin ⟨_, hd⟩)
  · rw [List.pairwise_append]
    exact ⟨h.asc, by simp, fun a ha b hb => by simp at hb; subst hb; exact hgt a ha⟩
  · rcases List.mem_append.1 he with q | q
    · exact h.ge e q
    · simp at q; subst q; exact hlo
  · rcases hb2 y hy with z | z
    · exact h.blk y z
    · omega
theorem newSL1 {k lo : Nat} {g : SegV} {K : Nat → World → Prop} (hk : Bf w k g.2) (hlo : lo ≤ k) (hK : ∀ nb w', SL w' (some ⟨nb, 0, none⟩) 1 1 lo [(g, k)] → Ext [] w w' → K nb w') :
    New (.cells #[.int .i64 g.1.sp, .int .i64 g.1.dp, .int .i64 g.1.sq, .int .i64 g.1.ak, .int .i64 g.1.fl, .int .i64 g.1.wn, .slice (some ⟨k, 0, none⟩) g.2.length g.2.length] 45) w K := by
  refine New.mk fun nb w2 hnb hs2 o2 he2 => ?_
  have := hk.lt
  refine hK nb w2 ⟨⟨by simp [segC], Nat.le_refl _, .inr ⟨nb, _, rfl, o2, by simp, by simp [segC]⟩⟩, fun e he => ?_, by simp, fun e he => ?_, fun y hy => ?_, by omega⟩ he2
  · simp at he; subst he; exact hk.ext0 he2
  · simp at he; subst he; exact hlo
  · simp [rowBlk] at hy; omega
theorem mcatPump {ob : Option Addr} {ol oc lo : Nat} {E : List (SegV × Nat)} (K : Option Addr → Nat → Nat → World → Prop) (h : MM w m X C) (hC : CsW C) (sl : SL w ob ol oc lo E) (hlo : lo ≤ w.heap.size) (hm : m < lo) (hbl : ∀ k ∈ X.blks, k < lo) (hol : ol ≤ 5)
    (hK : ∀ b l c E' X' w', SL w' b l c lo E' → E'.map (·.1) = E.map (·.1) ++ (pumpF C).2 → MM w' m X' (pumpF C).1 → X'.blks = X.blks → Ext (m :: rowBlk ob) w w' → l ≤ ol + 2 → K b l c w') :
    connm_Conn_pump.Call (some ⟨m, 0, none⟩) w fun rb rl rc w1 =>
    Append 45 (.agg #[.int .i64 0, .int .i64 0, .int .i64 0, .int .i64 0, .int .i64 0, .int .i64 0, .slice none 0 0]) 7 72 ob ol oc rb rl w1 fun b c w2 => K b (ol + rl) c w2 := by
  refine mPump_ok h hC fun b l c E2 X1 w1 sl2 hE2 h1 hX1 he1 hl => ?_
  have sl1 := sl.keep he1 (fun y hy => by simp at hy; omega)
  have hz1 := he1.size
  refine SL.cat sl1 sl2 hlo (by omega) (fun e he => (sl.dat e he).lt) (fun k hk => sl.row.lt k hk) (by omega) (by omega) fun b' c' w2 sl3 he3 => ?_
  have hrb := sl.blk
  refine hK b' (ol + l) c' _ X1 w2 sl3 (by simp [hE2]) (h1.ext he3 (fun q => by have := hrb _ q; omega) (fun k hk q => by have := hrb _ q; rw [hX1] at hk; have := hbl k hk; omega)) hX1 ?_ (by omega)
  exact (he1.mono (fun y hy _ => by simp at hy; simp [hy])).trans (he3.mono (fun y hy _ => List.mem_cons_of_mem _ hy))
theorem exOutM {ob : Option Addr} {w1 w2 : World} (he1 : Ext [m] w w1) (he2 : Ext (m :: rowBlk ob) w1 w2) (hb : ∀ y ∈ rowBlk ob, w.heap.size ≤ y) : Ext [m] w w2 :=
  he1.trans' he2 (fun y hy hlt => by
    rcases List.mem_cons.1 hy with q | q
    · simp [q]
    · have := hb y q
      omega)
theorem MM.blt (h : MM w m X C) : ∀ k ∈ X.blks, k < w.heap.size := fun k hk => by
  rcases List.mem_append.1 hk with q | q
  · exact h.q.lt k q
  · exact h.a.lt k q
theorem mTick_ok {R : Option Addr → Nat → Nat → World → Prop} (h : MM w m X C) (hC : CsOk C) (hR : OutM w m X (tickF C).1 (tickF C).2 R) : connm_Conn_Tick.Call (some ⟨m, 0, none⟩) w R := by
  apply connm_Conn_Tick.sound
  unfold connm_Conn_Tick.B0
  have hml := h.lt
  have hbl := h.blt
  have hst := hC.st
  have htm := hC.tm
  have hrt := hC.rt
  have hqt := hC.qt
  have e := h.rel
  unfold tickF at hR
  refine New.mk fun nb w1 hnb hs1 o1 he1 => ?_
  have h1 := h.ext0 he1
  have sl1 : SL w1 (some ⟨nb, 0, none⟩) 0 0 w.heap.size [] := SL.new o1 (by omega)
  have hnbl : ∀ y ∈ rowBlk (some ⟨nb, 0, none⟩), w.heap.size ≤ y := fun y hy => by simp [rowBlk] at hy; omega
  have same : ∀ {Y : MC}, Y.blks = X.blks → ∀ k ∈ Y.blks, k ∈ X.blks ∨ w.heap.size ≤ k := fun {Y} hY k hk => .inl (by rw [← hY]; exact hk)
  have none' : ∀ {Y : MC}, Y.blks = [] → ∀ k ∈ Y.blks, k ∈ X.blks ∨ w.heap.size ≤ k := fun {Y} hY k hk => by rw [hY] at hk; cases hk
  refine Pn.mk (h1.own.ldSt ?_)
  rw [e.st]
  refine Bm.mk (fun e0 => ?_) fun e0 => Pn.mk (h1.own.ldSt ?_)
  · rw [if_pos (by simpa using e0)] at hR
    exact hR _ 0 0 [] X w1 sl1 rfl h1 (same rfl) he1.nil (by omega)
  rw [e.st]
  have h0 : C.st ≠ 0 := by simpa using e0
  rw [if_neg h0] at hR
  refine Bm.mk (fun e4 => ?_) fun e4 => ?_
  · have h4 : C.st = 4 := by simpa using e4
    rw [if_pos h4] at hR
    have b1 : ∀ (w2 : World) (Y : MC), MM w2 m Y { C with qt := dec1 C.qt } → Y.blks = X.blks → Ext [m] w w2 → SL w2 (some ⟨nb, 0, none⟩) 0 0 w.heap.size [] → connm_Conn_Tick.B1 (some ⟨m, 0, none⟩) (some ⟨nb, 0, none⟩) 0 0 w2 R := fun w2 Y h2 hY he2 sl2 => by
      unfold connm_Conn_Tick.B1
      have b3f : ¬ (dec1 C.qt = 0 ∧ C.B.A.length = 0) → connm_Conn_Tick.B3 (some ⟨m, 0, none⟩) (some ⟨nb, 0, none⟩) 0 0 false w2 R := fun hno => by
        unfold connm_Conn_Tick.B3
        have ec : (if dec1 C.qt = 0 ∧ C.B.A.length = 0 then C0 else { C with qt := dec1 C.qt }) = { C with qt := dec1 C.qt } := if_neg hno
        rw [ec] at hR
        exact Bm.neg rfl (hR _ 0 0 [] Y w2 sl2 rfl h2 (same hY) he2 (by omega))
      have eqt : Y.qt = dec1 C.qt := h2.rel.qt
      have hrl : C.B.A.length = Y.rl := h2.rl
      refine Pn.mk (h2.own.ldI (o := 48) (by omega) rfl ?_)
      rw [eqt]
      refine Bm.mk (fun q => Pn.mk (h2.own.ldR ?_)) fun q => b3f fun z => by rw [z.1] at q; cases q
      have q' : dec1 C.qt = 0 := by simpa using q
      by_cases q2 : C.B.A.length = 0
      · rw [show (((Y.rl : Nat) : Int) == 0) = true by simp; omega]
        unfold connm_Conn_Tick.B3
        have ec : (if dec1 C.qt = 0 ∧ C.B.A.length = 0 then C0 else { C with qt := dec1 C.qt }) = C0 := if_pos ⟨q', q2⟩
        rw [ec] at hR
        exact Bm.pos rfl (mWipe_ok h2.own fun X3 w3 h3 hb3 he3 => hR _ 0 0 [] X3 w3 (sl2.keep he3 (fun y hy => by simp at hy; omega)) rfl h3 (none' hb3) (he2.trans he3) (by omega))
      · rw [show (((Y.rl : Nat) : Int) == 0) = false by simp; omega]
        exact b3f fun z => q2 z.2
    have eqt := e.qt
    refine Pn.mk (h1.own.ldI (o := 48) (by omega) rfl (Bm.ite (fun q => Pn.mk (h1.own.ldI (o := 48) (by omega) rfl (Pn.mk ?_))) fun q => b1 w1 X ?_ rfl he1.nil sl1))
    · rw [w64 (by omega) (by omega)]
      refine h1.own.stQt fun w2 hs2 g2 he2 => b1 w2 { X with qt := X.qt - 1 } ?_ rfl (he1.nil.trans he2) (sl1.keep he2 (fun y hy => by simp at hy; omega))
      refine h1.turn g2 he2 ⟨rfl, rfl, rfl⟩ ⟨rfl, rfl, rfl⟩ rfl rfl ⟨e.st, e.why, e.wc, e.fs, e.fa, e.pf, e.iss, e.una, e.sent, e.rnxt, e.pw, e.tm, e.rt, e.cr, ?_, e.has, e.val⟩
      show X.qt - 1 = dec1 C.qt
      unfold dec1
      rw [if_pos (by omega)]
      omega
    · have ed : dec1 C.qt = C.qt := by unfold dec1; rw [if_neg (by omega)]
      rw [ed]
      exact h1
  · have h4 : C.st ≠ 4 := by simpa using e4
    rw [if_neg h4] at hR
    have hl : C.st = 1 ∨ C.st = 2 ∨ C.st = 3 := by omega
    obtain ⟨l1, l2, l3⟩ := hC.live hl
    have etm := e.tm
    have ert := e.rt
    refine Pn.mk (h1.own.stCr fun w3 hs3 g3 he3 => ?_)
    have h3 : MM w3 m { X with cr := 12 } { C with cr := 12 } := h1.turn g3 he3 ⟨rfl, rfl, rfl⟩ ⟨rfl, rfl, rfl⟩ rfl rfl ⟨e.st, e.why, e.wc, e.fs, e.fa, e.pf, e.iss, e.una, e.sent, e.rnxt, e.pw, e.tm, e.rt, rfl, e.qt, e.has, e.val⟩
    have E3 : Ext [m] w w3 := he1.nil.trans he3
    have sl3 := sl1.keep he3 (fun y hy => by simp at hy; omega)
    have hz3 := E3.size
    refine Pn.mk (g3.ldI (o := 45) (v := X.tm) (by omega) rfl ?_)
    rw [etm]
    refine Bm.ite (fun ht => Pn.mk (g3.ldI (o := 45) (v := X.tm) (by omega) rfl (Pn.mk ?_))) fun ht => ?_
    · rw [if_pos ht] at hR
      rw [etm, w64 (by omega) (by omega)]
      refine g3.stTm fun w4 hs4 g4 he4 => Pn.mk (g4.ldI (o := 45) (v := C.tm - 1) (by omega) rfl ?_)
      have h4' : MM w4 m { X with cr := 12, tm := C.tm - 1 } { C with cr := 12, tm := C.tm - 1 } := h3.turn g4 he4 ⟨rfl, rfl, rfl⟩ ⟨rfl, rfl, rfl⟩ rfl rfl ⟨e.st, e.why, e.wc, e.fs, e.fa, e.pf, e.iss, e.una, e.sent, e.rnxt, e.pw, rfl, e.rt, rfl, e.qt, e.has, e.val⟩
      have E4 := E3.trans he4
      have sl4 := sl3.keep he4 (fun y hy => by simp at hy; omega)
      refine Bm.mk (fun q => Pn.mk (g4.ldI (o := 46) (v := X.rt) (by omega) rfl ?_)) fun q => ?_
      · have q' : C.tm - 1 = 0 := by simpa using q
        rw [if_pos q'] at hR
        rw [ert]
        refine Bm.mk (fun q3 => mFail_ok g4 fun X5 w5 h5 hb5 he5 => ?_) fun q3 => Pn.mk (g4.ldI (o := 46) (v := X.rt) (by omega) rfl (Pn.mk ?_))
        · rw [if_pos (by simpa using q3)] at hR
          exact hR _ 0 0 [] X5 w5 (sl4.keep he5 (fun y hy => by simp at hy; omega)) rfl h5 (none' hb5) (E4.trans he5) (by omega)
        · have q3' : C.rt ≠ 3 := by simpa using q3
          rw [if_neg q3'] at hR
          rw [ert, w64 (by omega) (by omega)]
          refine g4.stRt fun w6 hs6 g6 he6 => ?_
          have h6 : MM w6 m { X with cr := 12, tm := C.tm - 1, rt := C.rt + 1 } { C with cr := 12, tm := C.tm - 1, rt := C.rt + 1 } := h4'.turn g6 he6 ⟨rfl, rfl, rfl⟩ ⟨rfl, rfl, rfl⟩ rfl rfl ⟨e.st, e.why, e.wc, e.fs, e.fa, e.pf, e.iss, e.una, e.sent, e.rnxt, e.pw, rfl, rfl, rfl, e.qt, e.has, e.val⟩
          refine mArm_ok h6 (by show 0 ≤ C.rt + 1 ∧ C.rt + 1 ≤ 3; omega) fun w7 t hs7 h7 he7 => ?_
          have E7 := E4.trans (he6.trans he7)
          have sl7 := (sl4.keep he6 (fun y hy => by simp at hy; omega)).keep he7 (fun y hy => by simp at hy; omega)
          have hz7 := E7.size
          have hx : 0 < flying C := l3.2 ht
          have hfa : C.fa = false := by
            cases q : C.fa with
            | false => rfl
            | true =>
              exfalso
              rcases hl with z | z | z
              · have := (hC.opening (.inl z)).2.2.2.1; rw [q] at this; cases this
              · have := (hC.opening (.inr z)).2.2.2.1; rw [q] at this; cases this
              · rw [fly3 z, if_neg (by rw [q]; simp)] at hx
                have hD := (hC.openn z).2.2.2 q
                have := hC.S.sent
                rw [hD] at this
                simp at this
                omega
          have hS7 : SbOk (armF { C with cr := 12, tm := C.tm - 1, rt := C.rt + 1 }).S := by rw [armF_eq]; exact hC.S
          have hB7 : RbOk (armF { C with cr := 12, tm := C.tm - 1, rt := C.rt + 1 }).B := by rw [armF_eq]; exact hC.B
          refine mAgain_ok h7 hS7 hB7 (by rw [armF_eq]; exact hfa) fun k w8 hk hb8 he8 => ?_
          have hz8 := he8.size
          refine push2_ok (g := againF (armF { C with cr := 12, tm := C.tm - 1, rt := C.rt + 1 })) (sl7.ext0 he8) hb8 (by omega) (by omega) (fun e he => (by cases he)) (by omega) fun b' c' w11 sl11 he11 => ?_
          have h11 := (h7.ext0 he8).ext he11 (fun q => by have := hnbl _ q; omega) (fun k hk q => by have := hnbl _ q; have := hbl k hk; omega)
          have E11 : Ext [m] w w11 := (E7.trans he8.nil).trans' he11 (fun y hy hlt => by have := hnbl y hy; omega)
          have hCw : CsW (armF { C with cr := 12, tm := C.tm - 1, rt := C.rt + 1 }) := by
            have ha := arm_tm (C := { C with rt := C.rt + 1 }) (by show 0 ≤ C.rt + 1 ∧ C.rt + 1 ≤ 3; omega)
            have er : ({ C with rt := C.rt + 1 } : CS).rt.toNat = (C.rt + 1).toNat := rfl
            rw [er] at ha
            rw [armF_eq]
            show CsW { C with cr := 12, rt := C.rt + 1, tm := if C.tm - 1 = 0 then 2 * 2 ^ (C.rt + 1).toNat else C.tm - 1 }
            rw [if_pos q']
            exact (live_ok hC hl (by omega) (by omega) (by omega) ⟨fun _ => by omega, fun _ => hx⟩).toCsW
          unfold connm_Conn_Tick.B2
          have hz11 := E11.size
          exact mcatPump R h11 hCw sl11 (by omega) hml hbl (by omega) fun b l c E' X' w12 sl12 hE' h12 hX12 he12 hl12 => hR b l c E' X' w12 sl12 (by rw [hE']; rfl) h12 (same hX12) (exOutM E11 he12 sl11.blk) (by omega)
      · have q' : C.tm - 1 ≠ 0 := by simpa using q
        rw [if_neg q'] at hR
        have hCw : CsW { C with cr := 12, tm := C.tm - 1 } := (live_ok (r := C.rt) hC hl (by omega) (by omega) hrt ⟨fun _ => by omega, fun _ => l3.2 ht⟩).toCsW
        unfold connm_Conn_Tick.B2
        have hz4 := E4.size
        exact mcatPump R h4' hCw sl4 (by omega) hml hbl (by omega) fun b l c E' X' w12 sl12 hE' h12 hX12 he12 hl12 => hR b l c E' X' w12 sl12 (by rw [hE']; rfl) h12 (same hX12) (exOutM E4 he12 hnbl) (by omega)
    · rw [if_neg ht] at hR
      have hCw : CsW { C with cr := 12 } := (live_ok (t := C.tm) (r := C.rt) hC hl (by omega) htm hrt l3).toCsW
      unfold connm_Conn_Tick.B2
      exact mcatPump R h3 hCw sl3 (by omega) hml hbl (by omega) fun b l c E' X' w12 sl12 hE' h12 hX12 he12 hl12 => hR b l c E' X' w12 sl12 (by rw [hE']; rfl) h12 (same hX12) (exOutM E3 he12 hnbl) (by omega)
theorem mEnded_ok {R : Int → World → Prop} (h : MM w m X C) (hR : R (endedF C) w) : connm_Conn_ended.Call (some ⟨m, 0, none⟩) w R := by
  apply connm_Conn_ended.sound
  unfold connm_Conn_ended.B0
  unfold endedF at hR
  have e := h.rel
  refine Pn.mk (h.own.ldI (o := 1) (by omega) rfl ?_)
  rw [e.why]
  refine Bm.mk (fun q => Pn.mk (h.own.ldI (o := 1) (by omega) rfl ?_)) fun q => ?_
  · rw [e.why]
    rw [if_pos (by simpa using q)] at hR; exact hR
  · rw [if_neg (by simpa using q)] at hR; exact hR
theorem mSend_ok {P : List Int} {pb : Option Addr} {pc : Nat} {R : Int → Option Addr → Nat → Nat → Int → World → Prop} (h : MM w m X C) (hC : CsOk C) (hP : Rd w pb P) (hpc : P.length ≤ pc) (hR : OutM w m X (sendF P C).2.C (sendF P C).2.G fun b l c w' => R (sendF P C).1 b l c (sendF P C).2.e w') : connm_Conn_Send.Call (some ⟨m, 0, none⟩) pb P.length pc w R := by
  apply connm_Conn_Send.sound
  unfold connm_Conn_Send.B0
  have hst := hC.st
  have hs := hC.sent
  have e := h.rel
  have hql := h.ql
  have hml := h.lt
  have hbl := h.blt
  have id' : ∀ k ∈ X.blks, k ∈ X.blks ∨ w.heap.size ≤ k := fun k hk => .inl hk
  unfold sendF at hR
  have b1t : (C.st = 1 ∨ C.st = 2) → C.st ≠ 0 → connm_Conn_Send.B1 (some ⟨m, 0, none⟩) pb P.length pc C.st true w R := fun hc h0 => by
    unfold connm_Conn_Send.B1
    rw [if_neg h0, if_pos hc] at hR
    exact Bm.pos rfl (OutM.nil hR h id' (Ext.refl _ _))
  refine Pn.mk (h.own.ldSt ?_)
  rw [e.st]
  refine Bm.mk (fun e0 => ?_) fun e0 => Bm.mk (fun e1 => ?_) fun e1 => ?_
  · rw [if_pos (by simpa using e0)] at hR
    exact OutM.nil hR h id' (Ext.refl _ _)
  · rw [e1]
    exact b1t (.inl (by simpa using e1)) (by simpa using e0)
  have h0 : C.st ≠ 0 := by simpa using e0
  have h1 : C.st ≠ 1 := by simpa using e1
  by_cases e2 : C.st = 2
  · rw [show (C.st == 2) = true by simpa using e2]
    exact b1t (.inr e2) h0
  rw [show (C.st == 2) = false by simpa using e2]
  rw [if_neg h0, if_neg (by omega)] at hR
  unfold connm_Conn_Send.B1
  refine Bm.neg rfl (Bm.mk (fun e4 => mEnded_ok h ?_) fun e4 => Pn.mk (h.own.ldB (o := 2) (by omega) rfl ?_))
  · rw [if_pos (by simpa using e4)] at hR
    exact OutM.nil hR h id' (Ext.refl _ _)
  rw [e.wc]
  have h4 : C.st ≠ 4 := by simpa using e4
  rw [if_neg h4] at hR
  refine Bm.mk (fun ew => ?_) fun ew => Pn.mk (h.own.ldQ ?_)
  · rw [if_pos ew] at hR
    exact OutM.nil hR h id' (Ext.refl _ _)
  rw [if_neg (by rw [ew]; simp)] at hR
  have h3 : C.st = 3 := by omega
  rw [w64 (by omega) (by omega)]
  have b2 : ∀ n : Int, n = ((min P.length (16 - C.S.D.length) : Nat) : Int) → connm_Conn_Send.B2 (some ⟨m, 0, none⟩) pb P.length pc n w R := fun n hn => by
    have b3t : (0 < P.length ∧ C.S.D.length = 16) → connm_Conn_Send.B3 (some ⟨m, 0, none⟩) pb P.length pc n true w R := fun hc => by
      unfold connm_Conn_Send.B3
      rw [if_pos hc] at hR
      exact Bm.pos rfl (OutM.nil hR h id' (Ext.refl _ _))
    have b3f : ¬ (0 < P.length ∧ C.S.D.length = 16) → connm_Conn_Send.B3 (some ⟨m, 0, none⟩) pb P.length pc n false w R := fun hc => by
      unfold connm_Conn_Send.B3
      rw [if_neg hc] at hR
      have hd := h.drew
      refine Bm.neg rfl (Pn.mk (hd.own.ldQ ⟨⟨by omega, by omega⟩, copyBytes_ok (hd.qrd hC.S) hql (by omega) fun k w1 hk hs1 hb1 he1 => ?_⟩))
      subst hn
      rw [slBase0]
      simp only [Int.toNat_natCast, Int.toNat_zero, Nat.sub_zero]
      have hzd : w.drew.heap.size = w.heap.size := rfl
      have h1' := hd.ext0 he1
      have E1 : Ext [] w w1 := (Ext.drew _ _).trans he1
      have hrow := hb1.row
      rw [hql] at hrow
      refine app8 (n := min P.length (16 - C.S.D.length)) (x := P.take (min P.length (16 - C.S.D.length))) hrow ((hP.ext0 E1).take _) (by rw [List.length_take]; omega) (by omega) fun b' c' w2 hr2 he2 hb2 => Pn.mk ?_
      have h2 := h1'.ext he2 (by simp [rowBlk]; omega) (fun y hy => by have := hbl y hy; simp [rowBlk]; omega)
      refine h2.own.stQ fun w3 hs3 g3 he3 => ?_
      have hX3 := Tys.one h2.own
      have h3' : MM w3 m { X with qb := b', ql := X.ql + min P.length (16 - C.S.D.length), qc := c' } { C with S := (putA P C.S).2 } := ⟨g3, rowT hr2 he3 hX3 (by decide), rowT h2.a he3 hX3 (by decide), ⟨e.st, e.why, e.wc, e.fs, e.fa, e.pf, e.iss, e.una, e.sent, e.rnxt, e.pw, e.tm, e.rt, e.cr, e.qt, e.has, e.val⟩⟩
      obtain ⟨o1, o2, o3, o4⟩ := hC.openn h3
      obtain ⟨l1, l2, l3⟩ := hC.live (by omega)
      have hfs : C.fs ≠ true := fun q => by have := o2 q; rw [this] at ew; cases ew
      have hfa : C.fa ≠ true := fun q => hfs (o1 q)
      have hCw : CsW { C with S := (putA P C.S).2 } := ⟨putA_ok hC.S hP.isB, hC.B, hC.st, hC.iss, hC.pw, hC.tm, hC.rt, hC.cr, hC.qt, fun e => (by have : C.st = 0 := e; omega), fun e => (by have : C.st = 4 := e; omega), fun e => (by have : C.st = 4 := e; omega), fun _ => ⟨l1, l2, l3⟩, fun e => (by have : C.st = 1 ∨ C.st = 2 := e; omega), fun _ => ⟨fun e => absurd e hfa, fun e => absurd e hfs, fun e => absurd e hfs, fun e => absurd e hfa⟩⟩
      have E3 : Ext [m] w w3 := (E1.trans' he2 (fun y hy hlt => by simp [rowBlk] at hy; omega)).nil.trans he3
      have hz3 := E3.size
      refine mPump_ok h3' hCw fun b l c E X4 w4 sl hE h4' hX4 he4 hl => hR b l c E X4 w4 ⟨sl.row, sl.dat, sl.asc, fun e he => (by have := sl.ge e he; omega), fun y hy => (by have := sl.blk y hy; omega), sl.cap⟩ hE h4' (fun y hy => ?_) (E3.trans he4) (by omega)
      rw [hX4] at hy
      rcases List.mem_append.1 hy with q | q
      · rcases hb2 y q with z | z
        · simp [rowBlk] at z; exact .inr (by omega)
        · exact .inr (by omega)
      · exact .inl (List.mem_append.2 (.inr q))
    unfold connm_Conn_Send.B2
    refine Bm.mk (fun q => ?_) fun q => b3f fun z => ?_
    · have q' : n = 0 := by simpa using q
      by_cases hp : ((P.length : Nat) : Int) > 0
      · rw [decide_eq_true hp]; exact b3t ⟨by omega, by omega⟩
      · rw [decide_eq_false hp]; exact b3f fun z => by omega
    · have q' : n ≠ 0 := by simpa using q
      omega
  exact Bm.ite (fun c => b2 _ (by omega)) fun c => b2 _ (by omega)
theorem mRecv_ok {mx : Int} {R : Option Addr → Nat → Nat → Option Addr → Nat → Nat → Int → World → Prop} (h : MM w m X C) (hC : CsOk C)
    (hR : ∀ gb gl gc, OutM w m X (recvF mx C).2.C (recvF mx C).2.G fun b l c w' => Rd w' gb (recvF mx C).1 → gl = (recvF mx C).1.length → R gb gl gc b l c (recvF mx C).2.e w') : connm_Conn_Recv.Call (some ⟨m, 0, none⟩) mx w R := by
  apply connm_Conn_Recv.sound
  unfold connm_Conn_Recv.B0
  unfold recvF at hR
  have e := h.rel
  have hrl := h.rl
  have hA := hC.B.len
  have hml := h.lt
  have hbl := h.blt
  have hrc := h.a.2.1
  have id' : ∀ k ∈ X.blks, k ∈ X.blks ∨ w.heap.size ≤ k := fun k hk => .inl hk
  refine Pn.mk (h.own.ldSt ?_)
  rw [e.st]
  refine Bm.mk (fun e0 => ?_) fun e0 => Bm.ite (fun em => ?_) fun em => Pn.mk (h.own.ldR ?_)
  · rw [if_pos (by simpa using e0)] at hR
    exact OutM.nil (hR none 0 0) h id' (Ext.refl _ _) (Rd.nil _ _) rfl
  · rw [if_neg (by simpa using e0), if_pos em] at hR
    exact OutM.nil (hR none 0 0) h id' (Ext.refl _ _) (Rd.nil _ _) rfl
  rw [if_neg (by simpa using e0), if_neg em] at hR
  refine Bm.mk (fun ea => Pn.mk (h.own.ldB (o := 5) (by omega) rfl ?_)) fun ea => Pn.mk (h.own.ldR ?_)
  · have ea' : C.B.A.length = 0 := by
      have : ((X.rl : Nat) : Int) = 0 := by simpa using ea
      omega
    rw [if_pos ea'] at hR
    rw [e.pf]
    refine Bm.mk (fun ep => ?_) fun ep => Pn.mk (h.own.ldSt ?_)
    · rw [if_pos ep] at hR
      exact OutM.nil (hR none 0 0) h id' (Ext.refl _ _) (Rd.nil _ _) rfl
    rw [if_neg (by rw [ep]; simp)] at hR
    rw [e.st]
    refine Bm.mk (fun e4 => Pn.mk (h.drew.own.ldI (o := 1) (by omega) rfl ?_)) fun e4 => ?_
    · rw [if_pos (by simpa using e4)] at hR
      rw [e.why]
      exact OutM.nil (hR none 0 0) h.drew id' (Ext.drew _ _) (Rd.nil _ _) rfl
    · rw [if_neg (by simpa using e4)] at hR
      exact OutM.nil (hR none 0 0) h id' (Ext.refl _ _) (Rd.nil _ _) rfl
  · have ea' : C.B.A.length ≠ 0 := by
      have : ((X.rl : Nat) : Int) ≠ 0 := by simpa using ea
      omega
    rw [if_neg ea'] at hR
    have hle := leastN_le mx C.B.A.length
    have b1 : ∀ n : Int, n = ((leastN mx C.B.A.length : Nat) : Int) → connm_Conn_Recv.B1 (some ⟨m, 0, none⟩) n w R := fun n hn => by
      subst hn
      generalize hN : leastN mx C.B.A.length = N at hR hle
      have hrdA : readA mx C.B = { C.B with A := C.B.A.drop N } := by unfold readA; rw [hN]
      rw [hrdA] at hR
      have hBr : RbOk { C.B with A := C.B.A.drop N } := by rw [← hrdA]; exact readA_ok hC.B mx
      unfold connm_Conn_Recv.B1
      refine Pn.mk (h.own.ldR (Pn.mk (h.own.ldR ⟨⟨by omega, by omega⟩, ?_⟩)))
      rw [slBase0]
      simp only [Int.toNat_natCast, Int.toNat_zero, Nat.sub_zero]
      refine copyBytes_ok ((h.ard hC.B).take N) (by simp; omega) (by omega) fun k w1 hk hs1 hb1 he1 => ?_
      have h1 := h.ext0 he1
      refine Pn.mk (h1.own.ldR ⟨⟨by omega, by omega⟩, copyBytes_ok ((h1.ard hC.B).drop N (by omega)) (by rw [List.length_drop]; omega) (by omega) fun k2 w2 hk2 hs2 hb2 he2 => Pn.mk ?_⟩)
      have h2 := h1.ext0 he2
      refine h2.own.stR fun w3 hs3 g3 he3 => New.mk fun nb w4 hnb hs4 o4 he4 => ?_
      have hX3 := Tys.one h2.own
      have hrow2 := hb2.row
      have hlen2 : (C.B.A.drop N).length = X.rl - N := by simp; omega
      rw [hlen2] at hrow2
      have h3 : MM w3 m { X with rb := some ⟨k2, 0, none⟩, rl := X.rl - N, rc := X.rl - N } { C with B := { C.B with A := C.B.A.drop N } } := ⟨g3, rowT h2.q he3 hX3 (by decide), rowT hrow2 he3 hX3 (by decide), ⟨e.st, e.why, e.wc, e.fs, e.fa, e.pf, e.iss, e.una, e.sent, e.rnxt, e.pw, e.tm, e.rt, e.cr, e.qt, e.has, e.val⟩⟩
      have h4 := h3.ext0 he4
      have E4 : Ext [m] w w4 := ((he1.trans he2).nil.trans he3).trans he4.nil
      have hz4 := he4.size
      have sl4 : SL w4 (some ⟨nb, 0, none⟩) 0 0 w.heap.size [] := SL.new o4 (by omega)
      have hg3 : Bf w3 k (C.B.A.take N) := ⟨ownT he3 hX3 (hb1.ext0 he2).1 (by decide), hb1.2⟩
      have hg4 := hg3.ext0 he4
      have hbl' : ∀ y ∈ ({ X with rb := some ⟨k2, 0, none⟩, rl := X.rl - N, rc := X.rl - N } : MC).blks, y ∈ X.blks ∨ w.heap.size ≤ y := fun y hy => by
        rcases List.mem_append.1 hy with q | q
        · exact .inl (List.mem_append.2 (.inl q))
        · simp [rowBlk] at q; exact .inr (by omega)
      have hglen : N = (C.B.A.take N).length := by simp; omega
      have b2f : ¬ (C.B.A.length = 16 ∧ C.st = 3) → connm_Conn_Recv.B2 (some ⟨m, 0, none⟩) (some ⟨k, 0, none⟩) N N (some ⟨nb, 0, none⟩) 0 0 false w4 R := fun hno => by
        unfold connm_Conn_Recv.B2
        refine Bm.neg rfl (hR (some ⟨k, 0, none⟩) N N _ 0 0 [] _ w4 sl4 ?_ h4 hbl' E4 (by omega) hg4.rd0 hglen)
        show [] = if C.B.A.length = 16 ∧ C.st = 3 then _ else _
        rw [if_neg hno]
      refine Bm.mk (fun e16 => Pn.mk (h4.own.ldSt ?_)) fun e16 => b2f fun q => ?_
      · have e16' : C.B.A.length = 16 := by
          have : ((X.rl : Nat) : Int) = 16 := by simpa using e16
          omega
        rw [show ({ X with rb := some ⟨k2, 0, none⟩, rl := X.rl - N, rc := X.rl - N } : MC).st = C.st from e.st]
        by_cases e3 : C.st = 3
        · rw [show (C.st == 3) = true by simpa using e3]
          unfold connm_Conn_Recv.B2
          refine Bm.pos rfl (mAck_ok h4 hC.S hBr fun ka w5 hka hb5 he5 => ?_)
          have hz5 := he5.size
          refine push2_ok (g := ackF { C with B := { C.B with A := C.B.A.drop N } }) (sl4.ext0 he5) hb5 (by omega) (by omega) (fun e he => (by cases he)) (by omega) fun b' c' w6 sl6 he6 => ?_
          have hnbl : ∀ y ∈ rowBlk (some ⟨nb, 0, none⟩), nb = y := fun y hy => by simp [rowBlk] at hy; exact hy.symm
          refine hR (some ⟨k, 0, none⟩) N N b' 1 c' _ _ w6 sl6 ?_ ((h4.ext0 he5).ext he6 (fun q => by have := hnbl _ q; omega) (fun y hy q => ?_)) hbl' ((E4.trans he5.nil).trans' he6 (fun y hy hlt => by have := hnbl y hy; omega)) (by omega) (((hg4.ext0 he5).ext he6 (fun q => by have := hnbl _ q; omega)).rd0) hglen
          · show [ackF _] = if C.B.A.length = 16 ∧ C.st = 3 then _ else _
            rw [if_pos ⟨e16', e3⟩]
          · have := hnbl _ q
            rcases List.mem_append.1 hy with z | z
            · have := hbl y (List.mem_append.2 (.inl z)); omega
            · simp [rowBlk] at z; omega
        · rw [show (C.st == 3) = false by simpa using e3]
          exact b2f fun q => e3 q.2
      · have : ((X.rl : Nat) : Int) ≠ 16 := by simpa using e16
        omega
    exact Bm.ite (fun c => b1 _ (by unfold leastN; omega)) fun c => b1 _ (by unfold leastN; omega)
theorem mClose_ok {R : Option Addr → Nat → Nat → Int → World → Prop} (h : MM w m X C) (hC : CsOk C) (hR : OutM w m X (closeF C).C (closeF C).G fun b l c w' => R b l c (closeF C).e w') : connm_Conn_Close.Call (some ⟨m, 0, none⟩) w R := by
  apply connm_Conn_Close.sound
  unfold connm_Conn_Close.B0
  have e := h.rel
  have hml := h.lt
  unfold closeF at hR
  have id' : ∀ k ∈ X.blks, k ∈ X.blks ∨ w.heap.size ≤ k := fun k hk => .inl hk
  have none' : ∀ {Y : MC}, Y.blks = [] → ∀ k ∈ Y.blks, k ∈ X.blks ∨ w.heap.size ≤ k := fun {Y} hY k hk => by rw [hY] at hk; cases hk
  refine Pn.mk (h.own.ldSt ?_)
  rw [e.st]
  refine Bm.mk (fun e0 => ?_) fun e0 => Bm.mk (fun e4 => mEnded_ok h ?_) fun e4 => Bm.mk (fun e1 => mFail_ok h.own fun X1 w1 h1 hb1 he1 => New.mk fun nb w2 hnb hs2 o2 he2 => ?_) fun e1 => Pn.mk (h.own.ldB (o := 2) (by omega) rfl ?_)
  · rw [if_pos (by simpa using e0)] at hR
    exact OutM.nil hR h id' (Ext.refl _ _)
  · rw [if_neg (by simpa using e0), if_pos (by simpa using e4)] at hR
    exact OutM.nil hR h id' (Ext.refl _ _)
  · rw [if_neg (by simpa using e0), if_neg (by simpa using e4), if_pos (by simpa using e1)] at hR
    have hz1 := he1.size
    exact hR _ 0 0 [] X1 w2 (SL.new o2 (by omega)) rfl (h1.ext0 he2) (none' hb1) (he1.trans he2.nil) (by omega)
  · have h0 : C.st ≠ 0 := by simpa using e0
    have h4 : C.st ≠ 4 := by simpa using e4
    have h1' : C.st ≠ 1 := by simpa using e1
    rw [if_neg h0, if_neg h4, if_neg h1'] at hR
    rw [e.wc]
    refine Bm.mk (fun ew => ?_) fun ew => Pn.mk (h.own.stWc fun w1 hs1 g1 he1 => ?_)
    · rw [if_pos ew] at hR
      exact OutM.nil hR h id' (Ext.refl _ _)
    rw [if_neg (by rw [ew]; simp)] at hR
    have h1 : MM w1 m { X with wc := true } { C with wc := true } := h.turn g1 he1 ⟨rfl, rfl, rfl⟩ ⟨rfl, rfl, rfl⟩ rfl rfl ⟨e.st, e.why, rfl, e.fs, e.fa, e.pf, e.iss, e.una, e.sent, e.rnxt, e.pw, e.tm, e.rt, e.cr, e.qt, e.has, e.val⟩
    have hCw : CsW { C with wc := true } := ⟨hC.S, hC.B, hC.st, hC.iss, hC.pw, hC.tm, hC.rt, hC.cr, hC.qt, fun e => absurd e h0, fun e => absurd e h4, fun e => absurd e h4, hC.live, hC.opening, fun e => by
      obtain ⟨o1, o2, o3, o4⟩ := hC.openn e
      exact ⟨o1, fun _ => rfl, o3, o4⟩⟩
    refine mPump_ok h1 hCw fun b l c E X2 w2 sl hE h2 hX2 he2 hl => hR b l c E X2 w2 (by rw [hs1] at sl; exact sl) hE h2 (fun k hk => .inl (by rw [hX2] at hk; exact hk)) (he1.trans he2) (by omega)
theorem mAbort_ok {R : Option Addr → Nat → Nat → Int → World → Prop} (h : MM w m X C) (hC : CsOk C) (hR : OutM w m X (abortF C).C (abortF C).G fun b l c w' => R b l c (abortF C).e w') : connm_Conn_Abort.Call (some ⟨m, 0, none⟩) w R := by
  apply connm_Conn_Abort.sound
  unfold connm_Conn_Abort.B0
  have e := h.rel
  unfold abortF at hR
  have id' : ∀ k ∈ X.blks, k ∈ X.blks ∨ w.heap.size ≤ k := fun k hk => .inl hk
  have none' : ∀ {Y : MC}, Y.blks = [] → ∀ k ∈ Y.blks, k ∈ X.blks ∨ w.heap.size ≤ k := fun {Y} hY k hk => by rw [hY] at hk; cases hk
  refine Pn.mk (h.own.ldSt ?_)
  rw [e.st]
  refine Bm.mk (fun e0 => ?_) fun e0 => Bm.mk (fun e4 => Pn.mk (h.own.ldI (o := 1) (by omega) rfl ?_)) fun e4 => Bm.mk (fun e1 => mFail_ok h.own fun X1 w1 h1 hb1 he1 => New.mk fun nb w2 hnb hs2 o2 he2 => ?_) fun e1 => ?_
  · rw [if_pos (by simpa using e0)] at hR
    exact OutM.nil hR h id' (Ext.refl _ _)
  · rw [if_neg (by simpa using e0), if_pos (by simpa using e4)] at hR
    rw [e.why]
    refine Bm.mk (fun ew => Pn.mk (h.own.ldI (o := 48) (by omega) rfl (mFail_ok h.own fun X1 w1 h1 hb1 he1 => Pn.mk (h1.own.stQt fun w2 hs2 g2 he2 => ?_)))) fun ew => ?_
    · rw [if_pos (by simpa using ew)] at hR
      have f := h1.rel
      have h2 : MM w2 m { X1 with qt := X.qt } { failF 20 with qt := C.qt } := h1.turn g2 he2 ⟨rfl, rfl, rfl⟩ ⟨rfl, rfl, rfl⟩ rfl rfl ⟨f.st, f.why, f.wc, f.fs, f.fa, f.pf, f.iss, f.una, f.sent, f.rnxt, f.pw, f.tm, f.rt, f.cr, e.qt, f.has, f.val⟩
      unfold connm_Conn_Abort.B1
      exact New.mk fun nb w3 hnb hs3 o3 he3 => hR _ 0 0 [] _ w3 (SL.new o3 (by have := he1.size; omega)) rfl (h2.ext0 he3) (none' hb1) (he1.trans (he2.trans he3.nil)) (by omega)
    · rw [if_neg (by simpa using ew)] at hR
      unfold connm_Conn_Abort.B1
      exact New.mk fun nb w3 hnb hs3 o3 he3 => hR _ 0 0 [] X w3 (SL.new o3 (by omega)) rfl (h.ext0 he3) id' he3.nil (by omega)
  · rw [if_neg (by simpa using e0), if_neg (by simpa using e4), if_pos (by simpa using e1)] at hR
    exact hR _ 0 0 [] X1 w2 (SL.new o2 (by have := he1.size; omega)) rfl (h1.ext0 he2) (none' hb1) (he1.trans he2.nil) (by omega)
  · rw [if_neg (by simpa using e0), if_neg (by simpa using e4), if_neg (by simpa using e1)] at hR
    refine mOut_ok h hC.S (Pn.mk (h.own.ldI (o := 7) (by omega) rfl (seqAdd_ok ?_)))
    rw [e.una]
    refine mRst_ok fun k w2 hk hb2 he2 => NewSet.mk rfl rfl fun s w4 hs4 hz4 o4 he4 => ?_
    have E4 := he2.trans he4
    have hz2 := he2.size
    have h4 := h.ext0 E4
    refine mFail_ok h4.own fun X5 w5 h5 hb5 he5 => ?_
    have hX5 := Tys.one h4.own
    have o5 := ownT he5 hX5 o4 (by decide)
    have hbf5 : Bf w5 k (rstF (sndNxt C)).2 := ⟨ownT he5 hX5 (hb2.ext0 he4).1 (by decide), IsB.nil⟩
    refine LdI.mk o5 rfl (LdI.mk o5 rfl (LdI.mk o5 rfl (LdI.mk o5 rfl (LdI.mk o5 rfl (LdI.mk o5 rfl (LdL.mk o5 rfl ?_))))))
    exact newSL1 (g := rstF (sndNxt C)) (lo := w.heap.size) hbf5 (by omega) fun nb w6 sl he6 => hR _ 1 1 _ X5 w6 sl rfl (h5.ext0 he6) (none' hb5) (E4.nil.trans (he5.trans he6.nil)) (by omega)
theorem mOpenA_ok {iss : Int} {R : Option Addr → Nat → Nat → Int → World → Prop} (h : MM w m X C) (hR : OutM w m X (openAF iss C).C (openAF iss C).G fun b l c w' => R b l c (openAF iss C).e w') : connm_Conn_OpenActive.Call (some ⟨m, 0, none⟩) iss w R := by
  apply connm_Conn_OpenActive.sound
  unfold connm_Conn_OpenActive.B0
  have e := h.rel
  unfold openAF at hR
  refine Pn.mk (h.own.ldSt ?_)
  rw [e.st]
  refine Bm.mk (fun e0 => ?_) fun e0 => seqAdd_ok (mWipe_ok h.own fun X1 w1 h1 hb1 he1 => Pn.mk (h1.own.stSt fun w2 _ g2 e2 => Pn.mk (g2.stIss fun w3 _ g3 e3 => Pn.mk (g3.stUna fun w4 _ g4 e4 => Pn.mk (g4.stCr fun w5 _ g5 e5 => Pn.mk (g5.stTm fun w6 _ g6 e6 => ?_))))))
  · rw [if_pos (by simpa using e0)] at hR
    exact OutM.nil hR h (fun k hk => .inl hk) (Ext.refl _ _)
  · rw [if_neg (by simpa using e0)] at hR
    have f := h1.rel
    have E16 := e2.trans (e3.trans (e4.trans (e5.trans e6)))
    have hi := sqAdd_bd iss 0
    have h6 : MM w6 m _ (beginF 1 iss) := h1.turn g6 E16 ⟨rfl, rfl, rfl⟩ ⟨rfl, rfl, rfl⟩ rfl rfl ⟨rfl, f.why, f.wc, f.fs, f.fa, f.pf, rfl, (sqAdd_low hi).symm, f.sent, f.rnxt, f.pw, rfl, f.rt, rfl, f.qt, f.has, f.val⟩
    refine mAgain_ok h6 (resetS_ok _) (resetR_ok 0) rfl fun k w7 hk hb7 he7 => ?_
    have hz1 := he1.size
    have hz16 := E16.size
    exact newSL1 (g := againF (beginF 1 iss)) (lo := w.heap.size) hb7 (by omega) fun nb w8 sl he8 => hR _ 1 1 _ _ w8 sl rfl (h6.ext0 (he7.trans he8)) (fun k hk => by have hk' : k ∈ X1.blks := hk; rw [hb1] at hk'; cases hk') (he1.trans (E16.trans (he7.trans he8).nil)) (by omega)
theorem mOpenP_ok {iss : Int} {hd : Hd} {db : Option Addr} {dl dc : Nat} {R : Option Addr → Nat → Nat → Int → World → Prop} (h : MM w m X C) (hR : OutM w m X (openPF iss hd C).C (openPF iss hd C).G fun b l c w' => R b l c (openPF iss hd C).e w') : connm_Conn_OpenPassive.Call (some ⟨m, 0, none⟩) iss hd.sp hd.dp hd.sq hd.ak hd.fl hd.wn db dl dc w R := by
  apply connm_Conn_OpenPassive.sound
  unfold connm_Conn_OpenPassive.B0
  have e := h.rel
  unfold openPF at hR
  refine New.mk fun sy w0 hsy hs0 o0 he0 => ?_
  have h0 := h.ext0 he0
  refine Pn.mk (h0.own.ldSt ?_)
  rw [e.st]
  refine Bm.mk (fun e0 => ?_) fun e0 => LdI.mk o0 rfl (Bm.mk (fun ef => ?_) fun ef => seqAdd_ok (LdI.mk o0 rfl (seqAdd_ok (LdI.mk o0 rfl (mWnd_ok (mWipe_ok h0.own fun X1 w1 h1 hb1 he1 => Pn.mk (h1.own.stSt fun w2 _ g2 e2 => Pn.mk (g2.stIss fun w3 _ g3 e3 => Pn.mk (g3.stUna fun w4 _ g4 e4 => Pn.mk (g4.stCr fun w5 _ g5 e5 => Pn.mk (g5.stTm fun w6 _ g6 e6 => Pn.mk (g6.stRnxt fun w7 _ g7 e7 => Pn.mk (g7.stPw fun w8 _ g8 e8 => ?_)))))))))))))
  · rw [if_pos (by simpa using e0)] at hR
    exact OutM.nil hR h0 (fun k hk => .inl hk) he0.nil
  · rw [if_neg (by simpa using e0), if_pos (bne_iff_ne.1 ef)] at hR
    exact OutM.nil hR h0 (fun k hk => .inl hk) he0.nil
  · rw [if_neg (by simpa using e0), if_neg (fun q => q (bne_eq_false_iff_eq.1 ef))] at hR
    have f := h1.rel
    have E18 := e2.trans (e3.trans (e4.trans (e5.trans (e6.trans (e7.trans e8)))))
    have hi := sqAdd_bd iss 0
    have hj := sqAdd_bd hd.sq 1
    have h8 : MM w8 m _ { beginF 2 iss with B := resetR (sqAdd hd.sq 1), pw := windowF hd.wn } := h1.turn g8 E18 ⟨rfl, rfl, rfl⟩ ⟨rfl, rfl, rfl⟩ rfl rfl ⟨rfl, f.why, f.wc, f.fs, f.fa, f.pf, rfl, (sqAdd_low hi).symm, f.sent, (sqAdd_low hj).symm, rfl, rfl, f.rt, rfl, f.qt, f.has, fun d x hx => (by cases hx)⟩
    refine mAgain_ok h8 (resetS_ok _) (resetR_ok _) rfl fun k w9 hk hb9 he9 => ?_
    have hz0 := he0.size
    have hz1 := he1.size
    have hz18 := E18.size
    exact newSL1 (g := againF { beginF 2 iss with B := resetR (sqAdd hd.sq 1), pw := windowF hd.wn }) (lo := w.heap.size) hb9 (by omega) fun nb w10 sl he10 => hR _ 1 1 _ _ w10 sl rfl (h8.ext0 (he9.trans he10)) (fun k hk => by have hk' : k ∈ X1.blks := hk; rw [hb1] at hk'; cases hk') (he0.nil.trans (he1.trans (E18.trans (he9.trans he10).nil))) (by omega)
end
end Go.Proofs.Qxb6500422aGreat
