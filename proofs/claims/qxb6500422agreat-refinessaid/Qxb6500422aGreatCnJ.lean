/-
  conn: the model's wipe and pump.
-/
import Derived.Test.Qxb6500422aGreatCnI
set_option linter.unusedVariables false
set_option linter.unusedSimpArgs false
open Go.Vc
namespace Go.Proofs.Qxb6500422aGreat
/-- What a call of the model answers. -/
abbrev OutM (w : World) (m : Nat) (X : MC) (C' : CS) (G : List SegV) (R : Option Addr → Nat → Nat → World → Prop) : Prop :=
  ∀ b l c E X' w', SL w' b l c w.heap.size E → E.map (·.1) = G → MM w' m X' C' → (∀ k ∈ X'.blks, k ∈ X.blks ∨ w.heap.size ≤ k) → Ext [m] w w' → l ≤ 10 → R b l c w'
section
variable {w w' : World} {m : Nat} {X : MC} {C : CS}
theorem OutM.nil {C' : CS} {X' : MC} {R : Option Addr → Nat → Nat → World → Prop} (hR : OutM w m X C' [] R) (h : MM w' m X' C') (hb : ∀ k ∈ X'.blks, k ∈ X.blks ∨ w.heap.size ≤ k) (he : Ext [m] w w') : R none 0 0 w' := hR none 0 0 [] X' w' (SL.nil _ _) rfl h hb he (by omega)
theorem OutM.pre {w1 : World} {C' : CS} {G : List SegV} {R : Option Addr → Nat → Nat → World → Prop} (hR : OutM w m X C' G R) (he : Ext [] w w1) : OutM w1 m X C' G R := fun b l c E X' w' sl hE h hb he' hl =>
  hR b l c E X' w' ⟨sl.row, sl.dat, sl.asc, fun e hm => (by have := sl.ge e hm; have := he.size; omega), fun y hy => (by have := sl.blk y hy; have := he.size; omega), sl.cap⟩ hE h (fun k hk => (hb k hk).imp id (fun z => by have := he.size; omega)) (he.nil.trans he') hl
def Z0 (hf : Nat → Bool) (vf : Nat → Int) (a b c d e : Int) : MC := ⟨0, 0, false, false, false, false, 0, 0, none, 0, 0, 0, 0, none, 0, 0, hf, vf, a, b, c, d, e⟩
theorem mWipe_ok {R : World → Prop} (h : CmAt w m X) (hR : ∀ X' w', MM w' m X' C0 → X'.blks = [] → Ext [m] w w' → R w') : connm_Conn_wipe.Call (some ⟨m, 0, none⟩) w R := by
  apply connm_Conn_wipe.sound
  unfold connm_Conn_wipe.B0
  refine Pn.mk (h.stSt fun w1 _ g1 e1 => Pn.mk (g1.stWhy fun w2 _ g2 e2 => Pn.mk (g2.stWc fun w3 _ g3 e3 => Pn.mk (g3.stFs fun w4 _ g4 e4 => Pn.mk (g4.stFa fun w5 _ g5 e5 => Pn.mk (g5.stPf fun w6 _ g6 e6 => Pn.mk (g6.stIss fun w7 _ g7 e7 => Pn.mk (g7.stUna fun w8 _ g8 e8 => Pn.mk (g8.stSent fun w9 _ g9 e9 => Pn.mk (g9.stRnxt fun w10 _ g10 e10 => Pn.mk (g10.stQ fun w11 _ g11 e11 => Pn.mk (g11.stR fun w12 _ g12 e12 => ?_))))))))))))
  have E12 : Ext [m] w w12 := e1.trans (e2.trans (e3.trans (e4.trans (e5.trans (e6.trans (e7.trans (e8.trans (e9.trans (e10.trans (e11.trans e12))))))))))
  have g12' : CmAt w12 m (Z0 X.hf X.vf X.pw X.tm X.rt X.cr X.qt) := g12
  unfold connm_Conn_wipe.L1
  refine ⟨fun mm c' i w' => ∃ (k : Nat) (hf : Nat → Bool) (vf : Nat → Int), k ≤ 16 ∧ mm = 16 - k ∧ some ⟨m, 0, none⟩ = c' ∧ i = (k : Int) ∧ CmAt w' m (Z0 hf vf X.pw X.tm X.rt X.cr X.qt) ∧ (∀ d, d < k → hf d = false) ∧ Ext [m] w w', _, ⟨0, _, _, by omega, rfl, rfl, rfl, g12', fun d hd => by omega, E12⟩, ?_⟩
  rintro mm c' i w' ⟨k, hf, vf, hk, rfl, rfl, rfl, g, hz, he⟩
  unfold connm_Conn_wipe.L1b
  refine Bm.ite (fun hc => Pn.mk ⟨⟨by omega, by omega⟩, Pn.mk ?_⟩) fun hc => ?_
  · rw [adrH]
    refine CmAt.stH (w := w'.drew) g (by omega) fun w2 hs2 g2 he2 => ⟨⟨by omega, by omega⟩, ?_⟩
    rw [adrV]
    refine g2.stV (by omega) fun w3 hs3 g3 he3 => ⟨16 - (k + 1), by omega, k + 1, _, _, by omega, rfl, rfl, by rw [w64 (by omega) (by omega)]; omega, g3, fun d hd => ?_, he.trans ((Ext.drew _ _).trans (he2.trans he3))⟩
    show setB hf k false d = false
    unfold setB
    by_cases e : d = k
    · rw [if_pos e]
    · rw [if_neg e]; exact hz d (by omega)
  · have ek : k = 16 := by omega
    subst ek
    refine Pn.mk (g.stPw fun w3 _ g3 e3 => Pn.mk (g3.stTm fun w4 _ g4 e4 => Pn.mk (g4.stRt fun w5 _ g5 e5 => Pn.mk (g5.stCr fun w6 _ g6 e6 => Pn.mk (g6.stQt fun w7 _ g7 e7 => hR (Z0 hf vf 0 0 0 0 0) w7 ⟨g7, Row.nil _ _ _, Row.nil _ _ _, ⟨rfl, rfl, rfl, rfl, rfl, rfl, rfl, rfl, rfl, rfl, rfl, rfl, rfl, rfl, rfl, fun d hd => hz d hd, fun d x hx => (by cases hx)⟩⟩ rfl (he.trans (e3.trans (e4.trans (e5.trans (e6.trans e7))))))))))
theorem mFail_ok {why : Int} {R : World → Prop} (h : CmAt w m X) (hR : ∀ X' w', MM w' m X' (failF why) → X'.blks = [] → Ext [m] w w' → R w') : connm_Conn_fail.Call (some ⟨m, 0, none⟩) why w R := by
  apply connm_Conn_fail.sound
  unfold connm_Conn_fail.B0
  refine mWipe_ok h fun X1 w1 h1 hb1 he1 => Pn.mk (h1.own.stSt fun w2 _ g2 e2 => Pn.mk (g2.stWhy fun w3 _ g3 e3 => Pn.mk (g3.stQt fun w4 _ g4 e4 => ?_)))
  have e := h1.rel
  have E4 := e2.trans (e3.trans e4)
  exact hR _ w4 (h1.turn g4 E4 ⟨rfl, rfl, rfl⟩ ⟨rfl, rfl, rfl⟩ rfl rfl ⟨rfl, rfl, e.wc, e.fs, e.fa, e.pf, e.iss, e.una, e.sent, e.rnxt, e.pw, e.tm, e.rt, e.cr, rfl, e.has, e.val⟩) hb1 (he1.trans E4)
theorem mPumpHead {ob : Option Addr} {ol oc : Nat} {N1 : Option Addr → Option Addr → Nat → Nat → World → Prop} {R : Option Addr → Nat → Nat → World → Prop} (h : MM w m X C) (hC : CsW C) (hK : ∀ w', Ext [] w w' → connm_Conn_pump.B4 (some ⟨m, 0, none⟩) ob ol oc (nOf C) w' N1 R) : connm_Conn_pump.L1b (some ⟨m, 0, none⟩) ob ol oc w N1 R := by
  unfold connm_Conn_pump.L1b
  have hs := hC.sent
  have hpw := hC.pw
  have hcr := hC.cr
  have e := h.rel
  have hql := h.ql
  have b4 : ∀ n w', Ext [] w w' → n = nOf C → connm_Conn_pump.B4 (some ⟨m, 0, none⟩) ob ol oc n w' N1 R := fun n w' he e => by rw [e]; exact hK w' he
  have b3 : ∀ n w', Ext [] w w' → min n C.cr = nOf C → connm_Conn_pump.B3 (some ⟨m, 0, none⟩) ob ol oc n w' N1 R := fun n w' he en => by
    unfold connm_Conn_pump.B3
    have g := (h.ext0 he).own
    have ecr := e.cr
    exact Pn.mk (g.ldI (o := 47) (by omega) rfl (Bm.ite (fun c => Pn.mk (g.ldI (o := 47) (by omega) rfl (b4 _ w' he (by omega)))) fun c => b4 _ w' he (by omega)))
  have b2 : ∀ n w', Ext [] w w' → min (min n 12) C.cr = nOf C → connm_Conn_pump.B2 (some ⟨m, 0, none⟩) ob ol oc n w' N1 R := fun n w' he e => by
    unfold connm_Conn_pump.B2
    exact Bm.ite (fun c => b3 _ w' he (by omega)) fun c => b3 _ w' he (by omega)
  have b1 : ∀ rm, rm = room C → connm_Conn_pump.B1 (some ⟨m, 0, none⟩) ob ol oc rm w N1 R := fun rm er => by
    unfold connm_Conn_pump.B1
    have hrm : 0 ≤ rm ∧ rm ≤ 255 := by rw [er]; unfold room; split <;> omega
    have g := h.drew.own
    have esn := e.sent
    refine Pn.mk (g.ldQ (Pn.mk (g.ldI (o := 9) (by omega) rfl (Pn.mk (g.ldI (o := 9) (by omega) rfl ?_)))))
    rw [w64 (x := ((X.ql : Nat) : Int) - X.sent) (by omega) (by omega), w64 (x := rm - X.sent) (by omega) (by omega)]
    have hn : nOf C = min (min (min ((C.S.D.length : Int) - (C.S.sent : Int)) (rm - (C.S.sent : Int))) 12) C.cr := by rw [er]; rfl
    refine Bm.ite (fun c => Pn.mk (g.ldI (o := 9) (by omega) rfl ?_)) fun c => b2 _ _ (Ext.drew _ _) (by omega)
    rw [w64 (x := rm - X.sent) (by omega) (by omega)]
    exact b2 _ _ (Ext.drew _ _) (by omega)
  refine Pn.mk (h.own.ldI (o := 44) (by omega) rfl ?_)
  rw [e.pw]
  refine Bm.mk (fun c => b1 1 ?_) fun c => b1 C.pw ?_
  · unfold room; rw [if_pos (by simpa using c)]
  · unfold room; rw [if_neg (by simpa using c)]
theorem mPumpFin {ob : Option Addr} {ol oc lo : Nat} {n : Int} {E : List (SegV × Nat)} {N1 : Option Addr → Option Addr → Nat → Nat → World → Prop} {R : Option Addr → Nat → Nat → World → Prop} (h : MM w m X C) (hC : CsW C) (h3 : C.st = 3) (hn : n ≤ 0) (sl : SL w ob ol oc lo E) (hlo : lo ≤ w.heap.size) (hm : m < lo) (hbl : ∀ k ∈ X.blks, k < lo) (hol : ol ≤ 50)
    (hR : ∀ b l c E' X' w', SL w' b l c lo E' → E'.map (·.1) = E.map (·.1) ++ (pump2 C).2 → MM w' m X' (pump2 C).1 → X'.blks = X.blks → Ext (m :: rowBlk ob) w w' → l ≤ ol + 1 → R b l c w') : connm_Conn_pump.B4 (some ⟨m, 0, none⟩) ob ol oc n w N1 R := by
  unfold connm_Conn_pump.B4
  have hs := hC.sent
  have hcr := hC.cr
  have e := h.rel
  have hql := h.ql
  unfold pump2 at hR
  refine Bm.pos (decide_eq_true hn) ?_
  have hd := h.drew
  have g := hd.own
  have b5f : ¬ (C.wc = true ∧ C.fs = false ∧ 0 < C.cr ∧ C.S.D.length = C.S.sent) → connm_Conn_pump.B5 (some ⟨m, 0, none⟩) ob ol oc false w.drew R := fun hno => by
    unfold connm_Conn_pump.B5
    rw [if_neg hno] at hR
    exact Bm.neg rfl (hR ob ol oc E X _ (sl.ext0 (Ext.drew _ _)) (by simp) hd rfl (Ext.drew _ _) (by omega))
  refine Pn.mk (g.ldB (o := 2) (by omega) rfl ?_)
  rw [e.wc]
  refine Bm.mk (fun c1 => Pn.mk (g.ldB (o := 3) (by omega) rfl ?_)) fun c1 => b5f fun q => by rw [q.1] at c1; cases c1
  rw [e.fs]
  refine Bm.mk (fun c2 => Pn.mk (g.ldI (o := 9) (by omega) rfl (Pn.mk (g.ldQ ?_)))) fun c2 => b5f fun q => by rw [q.2.1] at c2; cases c2
  have c2' : C.fs = false := by simpa using c2
  rw [e.sent]
  refine Bm.mk (fun c4 => Pn.mk (g.ldI (o := 47) (by omega) rfl ?_)) fun c4 => b5f fun q => ?_
  rotate_left
  · have : ((C.S.sent : Nat) : Int) ≠ (X.ql : Int) := by simpa using c4
    omega
  have c4' : C.S.D.length = C.S.sent := by
    have : ((C.S.sent : Nat) : Int) = (X.ql : Int) := by simpa using c4
    omega
  rw [e.cr]
  by_cases c3 : C.cr > 0
  rotate_left
  · rw [decide_eq_false c3]
    exact b5f fun q => c3 q.2.2.1
  rw [decide_eq_true c3]
  rw [if_pos ⟨c1, c2', c3, c4'⟩] at hR
  obtain ⟨o1, o2, o3, o4⟩ := hC.openn h3
  have hfa : C.fa = false := by
    cases q : C.fa with
    | false => rfl
    | true => have := o1 q; rw [c2'] at this; cases this
  have eu : sndUna C = C.S.una := by unfold sndUna; rw [if_neg (by rw [hfa]; simp)]
  unfold connm_Conn_pump.B5
  have hdd := hd.drew
  have gd := hdd.own
  refine Bm.pos rfl (Pn.mk (gd.ldI (o := 7) (by omega) rfl (Pn.mk (gd.ldI (o := 9) (by omega) rfl (seqAdd_ok ?_)))))
  rw [e.una, e.sent, eu]
  have enx : sqAdd C.S.una (C.S.sent : Int) = nxtS C.S := rfl
  rw [enx]
  have Edd : Ext [] w w.drew.drew := (Ext.drew _ _).trans (Ext.drew _ _)
  have hzd : w.drew.drew.heap.size = w.heap.size := rfl
  refine mMk_ok hdd hC.B (Rd.nil _ _) rfl (by omega) fun k w3 hk hb3 he3 => NewSet.mk rfl rfl fun s w5 hs5 hz5 o5 he5 => ?_
  have E5 := (Edd.trans he3).trans he5
  have hz3 := he3.size
  refine push1_ok (g := mkF C 6 (nxtS C.S) []) (sl.ext0 E5) o5 (hb3.ext0 he5) (by omega) (by omega) (fun e he => by have := (sl.dat e he).lt; omega) (by omega) fun b' c' w6 sl6 he6 => ?_
  have hrb : ∀ y ∈ rowBlk ob, lo ≤ y := sl.blk
  have h6 := (h.ext0 E5).ext he6 (fun q => by have := hrb _ q; omega) (fun k hk q => by have := hrb _ q; have := hbl k hk; omega)
  refine Pn.mk (h6.own.stFs fun w7 hs7 g7 he7 => Pn.mk (g7.ldI (o := 47) (by omega) rfl (Pn.mk ?_)))
  have ecr := e.cr
  rw [w64 (by show -9223372036854775808 ≤ X.cr - 1; omega) (by show X.cr - 1 ≤ _; omega)]
  refine g7.stCr fun w8 hs8 g8 he8 => ?_
  have h8 : MM w8 m _ { C with fs := true, cr := C.cr - 1 } := h6.turn g8 (he7.trans he8) ⟨rfl, rfl, rfl⟩ ⟨rfl, rfl, rfl⟩ rfl rfl ⟨e.st, e.why, e.wc, rfl, e.fa, e.pf, e.iss, e.una, e.sent, e.rnxt, e.pw, e.tm, e.rt, by show X.cr - 1 = C.cr - 1; rw [ecr], e.qt, e.has, e.val⟩
  refine mArm_ok h8 hC.rt fun w9 t hs9 h9 he9 => ?_
  have e79 : Ext [m] w6 w9 := (he7.trans he8).trans he9
  refine hR b' (ol + 1) c' _ _ w9 (sl6.keep e79 (fun y hy => by simp at hy; omega)) (by simp) h9 rfl ?_ (by omega)
  exact E5.nil.trans ((he6.mono (fun y hy _ => List.mem_cons_of_mem _ hy)).trans (e79.mono (fun y hy _ => by simp at hy; simp [hy])))
theorem mPump_ok {R : Option Addr → Nat → Nat → World → Prop} (h : MM w m X C) (hC : CsW C)
    (hR : ∀ b l c E X' w', SL w' b l c w.heap.size E → E.map (·.1) = (pumpF C).2 → MM w' m X' (pumpF C).1 → X'.blks = X.blks → Ext [m] w w' → l ≤ 2 → R b l c w') : connm_Conn_pump.Call (some ⟨m, 0, none⟩) w R := by
  apply connm_Conn_pump.sound
  unfold connm_Conn_pump.B0
  have hml := h.lt
  have hbl : ∀ k ∈ X.blks, k < w.heap.size := fun k hk => by
    rcases List.mem_append.1 hk with q | q
    · exact h.q.lt k q
    · exact h.a.lt k q
  unfold pumpF at hR
  refine New.mk fun nb w1 hnb hs1 o1 he1 => ?_
  have h1 := h.ext0 he1
  have sl1 : SL w1 (some ⟨nb, 0, none⟩) 0 0 w.heap.size [] := SL.new o1 (by omega)
  refine Pn.mk (h1.own.ldSt ?_)
  rw [h.rel.st]
  refine Bm.mk (fun e => ?_) fun e => ?_
  · rw [if_neg (by simpa using e)] at hR
    exact hR _ 0 0 [] X w1 sl1 rfl h1 rfl he1.nil (by omega)
  have h3 : C.st = 3 := by simpa using e
  rw [if_pos h3] at hR
  unfold connm_Conn_pump.L1
  refine ⟨fun mm c' ob ol oc w' => ∃ (Cj : CS) (E : List (SegV × Nat)) (Xj : MC), ((1 = mm ∧ C = Cj ∧ [] = E ∧ 0 = ol) ∨ (0 = mm ∧ 0 < nOf C ∧ (pump1 C).1 = Cj ∧ E.map (·.1) = (pump1 C).2 ∧ 1 = ol)) ∧ some ⟨m, 0, none⟩ = c' ∧ MM w' m Xj Cj ∧ Xj.blks = X.blks ∧ SL w' ob ol oc w.heap.size E ∧ Ext [m] w w', 1, ⟨C, [], X, .inl ⟨rfl, rfl, rfl, rfl⟩, rfl, h1, rfl, sl1, he1.nil⟩, ?_⟩
  rintro mm c' ob ol oc w2 ⟨Cj, E, Xj, hst, rfl, h2, hXb, sl2, he2⟩
  have hCj : CsW Cj ∧ Cj.st = 3 := by
    rcases hst with ⟨_, rfl, _⟩ | ⟨_, _, rfl, _⟩
    · exact ⟨hC, h3⟩
    · exact ⟨(pump1_w hC h3).1, (pump1_w hC h3).2.1⟩
  have hz2 := he2.size
  refine mPumpHead h2 hCj.1 fun w3 he3 => ?_
  have h3' := h2.ext0 he3
  have sl3 := sl2.ext0 he3
  have hz3 := he3.size
  have hrb : ∀ y ∈ rowBlk ob, w.heap.size ≤ y := sl2.blk
  by_cases hn : nOf Cj ≤ 0
  · refine mPumpFin h3' hCj.1 hCj.2 hn sl3 (by omega) hml (by rw [hXb]; exact hbl) (by rcases hst with ⟨_, _, _, q⟩ | ⟨_, _, _, _, q⟩ <;> omega) fun b l c E' X' w4 sl4 hE' h4 hX4 he4 hl4 => ?_
    have hex : Ext [m] w w4 := (he2.trans he3.nil).trans' he4 (fun y hy hlt => by
      rcases List.mem_cons.1 hy with q | q
      · simp [q]
      · have := hrb y q
        omega)
    rcases hst with ⟨_, rfl, rfl, q⟩ | ⟨_, hp, rfl, hE, q⟩
    · have e1 : pump1 C = (C, []) := by unfold pump1; rw [if_neg (by omega)]
      rw [e1] at hR
      exact hR b l c E' X' w4 sl4 (by simpa using hE') h4 (by rw [hX4, hXb]) hex (by omega)
    · exact hR b l c E' X' w4 sl4 (by rw [hE', hE]) h4 (by rw [hX4, hXb]) hex (by omega)
  · rcases hst with ⟨rfl, rfl, rfl, rfl⟩ | ⟨_, hp, rfl, hE, q⟩
    rotate_left
    · exact absurd (pump_twice hC hp) hn
    have hn' : 0 < nOf C := by omega
    have hle := nOf_le C
    have hln := least_n hn'
    have hcr := hC.cr
    have hs := hC.sent
    have e := h3'.rel
    have hql := h3'.ql
    have hqc := h3'.q.2.1
    obtain ⟨o1', o2', o3', o4'⟩ := hC.openn h3
    have hfs : C.fs = false := by
      cases q : C.fs with
      | false => rfl
      | true => have := o3' q; omega
    have hfa : C.fa = false := by
      cases q : C.fa with
      | false => rfl
      | true => have := o1' q; rw [hfs] at this; cases this
    have eu : sndUna C = C.S.una := by unfold sndUna; rw [if_neg (by rw [hfa]; simp)]
    unfold connm_Conn_pump.B4
    have hd := h3'.drew
    have hdd := hd.drew
    have gd := hd.own
    have gdd := hdd.own
    refine Bm.neg (decide_eq_false hn) (Pn.mk (gd.ldI (o := 7) (by omega) rfl (Pn.mk (gd.ldI (o := 9) (by omega) rfl (seqAdd_ok (Pn.mk (gdd.ldQ (Pn.mk (gdd.ldI (o := 9) (by omega) rfl (Pn.mk (gdd.ldI (o := 9) (by omega) rfl ?_))))))))))) 
    rw [e.una, e.sent, eu, w64 (x := (C.S.sent : Int) + nOf C) (by omega) (by omega)]
    refine ⟨⟨by omega, by omega⟩, ⟨by omega, by omega⟩, ?_⟩
    have enx : sqAdd C.S.una (C.S.sent : Int) = nxtS C.S := rfl
    rw [enx]
    have elen : ((C.S.sent : Int) + nOf C).toNat - (C.S.sent : Int).toNat = (nOf C).toNat := by omega
    rw [elen]
    have Edd : Ext [] w3 w3.drew.drew := (Ext.drew _ _).trans (Ext.drew _ _)
    have hzd : w3.drew.drew.heap.size = w3.heap.size := rfl
    have hrd : ∀ {wx : World}, MM wx m Xj C → Rd wx (slBase Xj.qb ((C.S.sent : Nat) : Int) ((Xj.qc : Nat) : Int) 1) ((C.S.D.drop C.S.sent).take (nOf C).toNat) := fun {wx} hx => ((hx.qrd hC.S).drop C.S.sent (by omega)).take _
    have hlen : ((C.S.D.drop C.S.sent).take (nOf C).toNat).length = (nOf C).toNat := by simp; omega
    have eseg : pump1 C = (armF { C with S := nextA (nOf C) C.S, cr := C.cr - nOf C }, [mkF C 2 (nxtS C.S) ((C.S.D.drop C.S.sent).take (nOf C).toNat)]) := by unfold pump1; rw [if_pos hn']
    have b6 : ∀ (k s : Nat) (wa : World), w.heap.size ≤ k → Ext [] w3 wa → Bf wa k ((C.S.D.drop C.S.sent).take (nOf C).toNat) → Own wa s (segC (mkF C 2 (nxtS C.S) ((C.S.D.drop C.S.sent).take (nOf C).toNat), k)).toArray T_api_Segment → connm_Conn_pump.B6 (some ⟨m, 0, none⟩) ob 0 oc (nOf C) s wa (fun c' ob ol oc w' => ∃ m', m' < 1 ∧ ∃ (Cj : CS) (E : List (SegV × Nat)) (Xj : MC), ((1 = m' ∧ C = Cj ∧ [] = E ∧ 0 = ol) ∨ (0 = m' ∧ 0 < nOf C ∧ (pump1 C).1 = Cj ∧ E.map (·.1) = (pump1 C).2 ∧ 1 = ol)) ∧ some ⟨m, 0, none⟩ = c' ∧ MM w' m Xj Cj ∧ Xj.blks = X.blks ∧ SL w' ob ol oc w.heap.size E ∧ Ext [m] w w') R := by
      intro k s wa hk hxa hb os
      unfold connm_Conn_pump.B6
      have hza := hxa.size
      refine push1_ok (g := mkF C 2 (nxtS C.S) ((C.S.D.drop C.S.sent).take (nOf C).toNat)) (sl3.ext0 hxa) os hb hk (by omega) (fun e he => (by cases he)) (by omega) fun b' c' w8 sl8 he8 => ?_
      have h8 := (h3'.ext0 hxa).ext he8 (fun q => by have := hrb _ q; omega) (fun k hk q => by have := hrb _ q; rw [hXb] at hk; have := hbl k hk; omega)
      have esn := e.sent
      have ecr := e.cr
      refine Pn.mk (h8.own.ldI (o := 9) (by omega) rfl (Pn.mk ?_))
      rw [w64 (by omega) (by omega)]
      refine h8.own.stSent fun w9 hs9 g9 he9 => Pn.mk (g9.ldI (o := 47) (by omega) rfl (Pn.mk ?_))
      rw [w64 (by show -9223372036854775808 ≤ Xj.cr - nOf C; omega) (by show Xj.cr - nOf C ≤ _; omega)]
      refine g9.stCr fun w10 hs10 g10 he10 => ?_
      have h10 : MM w10 m _ { C with S := nextA (nOf C) C.S, cr := C.cr - nOf C } := h8.turn g10 (he9.trans he10) ⟨rfl, rfl, rfl⟩ ⟨rfl, rfl, rfl⟩ rfl rfl ⟨e.st, e.why, e.wc, e.fs, e.fa, e.pf, e.iss, e.una, by
        show Xj.sent + nOf C = ((C.S.sent + leastN (nOf C) (C.S.D.length - C.S.sent) : Nat) : Int)
        omega, e.rnxt, e.pw, e.tm, e.rt, by show Xj.cr - nOf C = C.cr - nOf C; rw [ecr], e.qt, e.has, e.val⟩
      refine mArm_ok h10 hC.rt fun w11 t hs11 h11 he11 => ?_
      have e811 : Ext [m] w8 w11 := (he9.trans he10).trans he11
      have ep : armF { C with S := nextA (nOf C) C.S, cr := C.cr - nOf C } = (pump1 C).1 := by rw [eseg]
      rw [ep] at h11
      refine ⟨0, by omega, (pump1 C).1, _, _, .inr ⟨rfl, hn', rfl, ?_, rfl⟩, rfl, h11, hXb, sl8.keep e811 (fun y hy => by simp at hy; omega), ?_⟩
      · rw [eseg]; rfl
      · exact (((he2.trans he3.nil).trans hxa.nil).trans' he8 (fun y hy hlt => by have := hrb y hy; omega)).trans e811
    refine ⟨?_, ?_⟩
    · refine mMk_ok hdd hC.B (hrd hdd) hlen (by omega) fun k w4 hk hb4 he4 => NewSet.mk rfl rfl fun s w6 hs6 hz6 o6 he6 => ?_
      exact b6 k s w6 (by omega) ((Edd.trans he4).trans he6) (hb4.ext0 he6) o6
    · refine New.mk fun s w5 hs5 hz5 o5 he5 => ⟨(hdd.ext0 he5).own.cellI (by omega) (by show Value.int .i64 Xj.sent = _; rw [e.sent]), (hdd.ext0 he5).own.cellI (by omega) (by show Value.int .i64 Xj.sent = _; rw [e.sent]), (hdd.ext0 he5).own.cellI (by omega) rfl, ?_⟩
      refine mMk_ok (hdd.ext0 he5) hC.B (hrd (hdd.ext0 he5)) hlen (by omega) fun k w6 hk hb6 he6 => Sts.full (he6.own o5 (by simp)) rfl rfl fun w7 hs7 o7 he7 => ?_
      have hz5' := he5.size
      refine b6 k s w7 (by omega) (((Edd.trans he5).trans he6).trans' he7 (fun y hy hlt => by simp at hy; omega)) (hb6.ext he7 (by simp; omega)) o7
end
end Go.Proofs.Qxb6500422aGreat
