/-
  conn: the model's Input, Info, Peek.
-/
import Derived.Test.Qxb6500422aGreatCnL
set_option linter.unusedVariables false
set_option linter.unusedSimpArgs false
open Go.Vc
namespace Go.Proofs.Qxb6500422aGreat
section
variable {w w' : World} {m : Nat} {X : MC} {C : CS}
theorem mEnd_ok {b : Option Addr} {l c : Nat} {R : Option Addr → Nat → Nat → World → Prop} (h : MM w m X C) (hw : C.why = 0)
    (hR : ∀ X' w', MM w' m X' (endF C) → X'.blks = X.blks → Ext [m] w w' → R b l c w') :
    Pn (some ⟨m, 0, none⟩) fun a => LdB (a.add 4) w fun f1 => Bm f1 (Pn (some ⟨m, 0, none⟩) fun a1 => LdB (a1.add 5) w fun f2 => connm_Conn_Input.B12 (some ⟨m, 0, none⟩) b l c f2 w R) (connm_Conn_Input.B12 (some ⟨m, 0, none⟩) b l c false w R) := by
  have e := h.rel
  have no : ¬ (C.fa = true ∧ C.pf = true) → connm_Conn_Input.B12 (some ⟨m, 0, none⟩) b l c false w R := fun hc => by
    unfold connm_Conn_Input.B12
    have : endF C = C := by unfold endF; rw [if_neg hc]
    rw [this] at hR
    exact Bm.neg rfl (hR X w h rfl (Ext.refl _ _))
  refine Pn.mk (h.own.ldB (o := 4) (by omega) rfl ?_)
  rw [e.fa]
  refine Bm.mk (fun f1 => Pn.mk (h.own.ldB (o := 5) (by omega) rfl ?_)) fun f1 => no fun q => by rw [q.1] at f1; cases f1
  rw [e.pf]
  cases f2 : C.pf with
  | false => exact no fun q => by rw [f2] at q; cases q.2
  | true =>
    unfold connm_Conn_Input.B12
    have ee : endF C = { C with st := 4, qt := 10, tm := 0, rt := 0, cr := 0, pw := 0 } := by unfold endF; rw [if_pos ⟨f1, f2⟩]
    rw [ee] at hR
    refine Bm.pos rfl (Pn.mk (h.own.stSt fun w1 _ g1 e1 => Pn.mk (g1.stWhy fun w2 _ g2 e2 => Pn.mk (g2.stQt fun w3 _ g3 e3 => Pn.mk (g3.stTm fun w4 _ g4 e4 => Pn.mk (g4.stRt fun w5 _ g5 e5 => Pn.mk (g5.stCr fun w6 _ g6 e6 => Pn.mk (g6.stPw fun w7 _ g7 e7 => ?_))))))))
    have E7 := e1.trans (e2.trans (e3.trans (e4.trans (e5.trans (e6.trans e7)))))
    exact hR _ w7 (h.turn g7 E7 ⟨rfl, rfl, rfl⟩ ⟨rfl, rfl, rfl⟩ rfl rfl ⟨rfl, hw.symm, e.wc, e.fs, e.fa, e.pf, e.iss, e.una, e.sent, e.rnxt, rfl, rfl, rfl, rfl, rfl, e.has, e.val⟩) rfl E7
/-- The rest of the way, behind the acknowledgement. -/
theorem mGoon_ok {w0 : World} {X0 : MC} {s0 s1 s2 s3 s4 s5 sq f : Int} {s k nb : Nat} {D : List Int} {R : Option Addr → Nat → Nat → World → Prop} (h : MM w m X C) (hC : CsW C) (h3 : C.st = 3) (os : Own w s #[.int .i64 s0, .int .i64 s1, .int .i64 s2, .int .i64 s3, .int .i64 s4, .int .i64 s5, .slice (some ⟨k, 0, none⟩) D.length D.length] T_api_Segment) (hk : Bf w k D) (hl : D.length ≤ 281474976710656) (sl : SL w (some ⟨nb, 0, none⟩) 0 0 w0.heap.size []) (E0 : Ext [m] w0 w) (hm : m < w0.heap.size) (hb0 : ∀ k ∈ X.blks, k ∈ X0.blks ∨ w0.heap.size ≤ k) (hnb : ∀ k ∈ X.blks, k ≠ nb)
    (hR : OutM w0 m X0 (goonF sq f D C).1 (goonF sq f D C).2 R) : connm_Conn_Input.B8 (some ⟨m, 0, none⟩) s sq f (some ⟨nb, 0, none⟩) 0 0 w R := by
  unfold connm_Conn_Input.B8
  unfold goonF at hR
  have e := h.rel
  have hlo := E0.size
  have hX := Tys.one h.own
  have hnbl : ∀ y ∈ rowBlk (some ⟨nb, 0, none⟩), nb = y := fun y hy => by simp [rowBlk] at hy; exact hy.symm
  have hnb0 : w0.heap.size ≤ nb := sl.blk nb (by simp [rowBlk])
  -- the ack, the pump, the end
  have b11 : ∀ (w1 : World) (X1 : MC) (C1 : CS), takeF sq f D C = C1 → CsW C1 → C1.st = 3 → MM w1 m X1 C1 → (∀ k ∈ X1.blks, k ∈ X0.blks ∨ w0.heap.size ≤ k) → (∀ k ∈ X1.blks, k ≠ nb) → Ext [m] w w1 → SL w1 (some ⟨nb, 0, none⟩) 0 0 w0.heap.size [] → (0 < D.length ∨ fAnd f 4 ≠ 0) → connm_Conn_Input.B11 (some ⟨m, 0, none⟩) (some ⟨nb, 0, none⟩) 0 0 w1 R := by
    intro w1 X1 C1 hC1 cw c3 h1 hb1 hn1 he1 sl1 hc
    rw [if_pos hc, hC1] at hR
    unfold connm_Conn_Input.B11
    have hz1 := he1.size
    refine mAck_ok h1 cw.S cw.B fun ka w2 hka hb2 he2 => ?_
    have hz2 := he2.size
    refine push2_ok (g := ackF C1) (sl1.ext0 he2) hb2 (by omega) (by omega) (fun e he => (by cases he)) (by omega) fun b' c' w3 sl3 he3 => ?_
    have h3' := (h1.ext0 he2).ext he3 (fun q => by have := hnbl _ q; omega) (fun y hy q => hn1 y hy (hnbl _ q).symm)
    have E3 : Ext [m] w0 w3 := (E0.trans (he1.trans he2.nil)).trans' he3 (fun y hy hlt => by have := hnbl y hy; omega)
    have hz3 := E3.size
    have hz23 := he3.size
    refine mPump_ok h3' cw fun rb rl rc E2 X4 w4 sl4 hE4 h4 hX4 he4 hl4 => ?_
    have hz4 := he4.size
    have sl3' := sl3.keep he4 (fun y hy => by simp at hy; omega)
    refine SL.cat sl3' sl4 (by omega) (by omega) (fun e he => (sl3.dat e he).lt) (fun k hk => sl3.row.lt k hk) (by omega) (by omega) fun b5 c5 w5 sl5 he5 => ?_
    have hb' := sl3.blk
    have hX1b : ∀ y ∈ X1.blks, y ∉ rowBlk b' := fun y hy q => by
      -- the list's block is of segments, the data's of bytes
      obtain ⟨cs, ho⟩ := sl3.row.ty q
      rcases List.mem_append.1 hy with z | z
      · obtain ⟨cs2, ho2⟩ := h3'.q.ty z
        exact Own.ne_type ho ho2 (by decide) rfl
      · obtain ⟨cs2, ho2⟩ := h3'.a.ty z
        exact Own.ne_type ho ho2 (by decide) rfl
    have h5 := h4.ext he5 (fun q => by have := hb' _ q; omega) (fun y hy => by rw [hX4] at hy; exact hX1b y hy)
    have hw5 : (pumpF C1).1.why = 0 := by
      obtain ⟨pw, p2, _⟩ := pumpF_w cw
      exact (pw.live (by omega)).1
    refine mEnd_ok h5 hw5 fun X6 w6 h6 hX6 he6 => hR b5 (0 + 1 + rl) c5 _ X6 w6 (sl5.keep he6 (fun y hy => by simp at hy; omega)) ?_ h6 (fun y hy => hb1 y (by rw [hX6, hX4] at hy; exact hy)) ?_ (by omega)
    · simp [hE4]
    · exact ((E3.trans he4).trans' he5 (fun y hy hlt => by have := hb' y hy; omega)).trans he6
  have b9t : (0 < D.length ∨ fAnd f 4 ≠ 0) → connm_Conn_Input.B9 (some ⟨m, 0, none⟩) s sq f (some ⟨nb, 0, none⟩) 0 0 true w R := fun hc => by
    unfold connm_Conn_Input.B9
    refine Bm.pos rfl (Pn.mk (h.own.ldB (o := 5) (by omega) rfl ?_))
    rw [e.pf]
    obtain ⟨tw, t3⟩ := takeF_w (sq := sq) (f := f) hC h3 hk.2
    cases hpf : C.pf with
    | true =>
      exact Bm.neg rfl (b11 w X C (by unfold takeF; rw [if_pos hpf]) hC h3 h hb0 hnb (Ext.refl _ _) sl hc)
    | false =>
      refine Bm.pos rfl (LdL.mk os rfl (mInsert_ok h hC.B.toRbW hpf (fun w' he => Bf.rd0 ⟨ownT he hX hk.1 (by decide), hk.2⟩) rfl hl fun X1 w1 h1 hb1 he1 => ?_))
      have hz1 := he1.size
      have os1 := ownT he1 hX os (by decide)
      have sl1 := sl.keep he1 (fun y hy => by simp at hy; omega)
      have hb1' : ∀ k ∈ X1.blks, k ∈ X0.blks ∨ w0.heap.size ≤ k := fun y hy => by
        rcases hb1 y hy with z | z
        · exact hb0 y z
        · exact .inr (by omega)
      have hnbl' : nb < w.heap.size := sl.row.lt nb (by simp [rowBlk])
      have hn1 : ∀ k ∈ X1.blks, k ≠ nb := fun y hy => by
        rcases hb1 y hy with z | z
        · exact hnb y z
        · omega
      have et0 : ¬ C.pf = true := by rw [hpf]; simp
      have b10f : takeF sq f D C = { C with B := (insA sq D C.B).2 } → ∀ w2, Ext [] w1 w2 → connm_Conn_Input.B10 (some ⟨m, 0, none⟩) (some ⟨nb, 0, none⟩) 0 0 false w2 R := fun ht w2 he2 => by
        unfold connm_Conn_Input.B10
        exact Bm.neg rfl (b11 w2 X1 _ ht (ht ▸ tw) (ht ▸ t3) (h1.ext0 he2) hb1' hn1 (he1.trans he2.nil) (sl1.ext0 he2) hc)
      refine Bm.mk (fun q4 => LdL.mk (Own.drew os1) rfl ⟨by decide, Pn.mk (h1.drew.own.ldI (o := 10) (by omega) rfl (seqAdd_ok ⟨h1.drew.own.cellI (by omega) rfl, ?_⟩))⟩) fun q4 => b10f ?_ _ (Ext.drew _ _)
      · have q4' : fAnd f 4 ≠ 0 := bne_iff_ne.1 q4
        have ern : X1.rnxt = (insA sq D C.B).2.nxt := by
          rw [h1.rel.rnxt]
          show (if C.pf = true then _ else _) = _
          rw [if_neg et0]
        rw [ern]
        by_cases h16 : D.length ≤ 16
        · have em : ((D.length : Nat) : Int).tmod 256 = (D.length : Int) := by rw [tmod_pos _ (by omega)]; omega
          rw [em]
          refine Bm.mk (fun qe => LdL.mk (Own.drew os1) rfl ?_) fun qe => b10f ?_ _ (Ext.drew _ _)
          · rw [decide_eq_true (show ((D.length : Nat) : Int) ≤ 16 by omega)]
            have qe' : sqAdd sq (D.length : Int) = (insA sq D C.B).2.nxt := beq_iff_eq.1 qe
            have ht : takeF sq f D C = { C with B := (insA sq D C.B).2, pf := true } := by unfold takeF; rw [if_neg et0, if_neg (fun z => z.elim q4' (by omega)), if_pos qe']
            unfold connm_Conn_Input.B10
            have f1 := h1.rel
            refine Bm.pos rfl (Pn.mk (h1.drew.own.stPf fun w2 _ g2 e2 => Pn.mk (g2.ldI (o := 10) (v := X1.rnxt) (by omega) rfl (seqAdd_ok (Pn.mk ?_)))))
            rw [ern]
            refine g2.stRnxt fun w3 _ g3 e3 => ?_
            have e23 := e2.trans e3
            have h3' : MM w3 m { X1 with pf := true, rnxt := sqAdd (insA sq D C.B).2.nxt 1 } { C with B := (insA sq D C.B).2, pf := true } := h1.drew.turn g3 e23 ⟨rfl, rfl, rfl⟩ ⟨rfl, rfl, rfl⟩ rfl rfl ⟨f1.st, f1.why, f1.wc, f1.fs, f1.fa, rfl, f1.iss, f1.una, f1.sent, rfl, f1.pw, f1.tm, f1.rt, f1.cr, f1.qt, f1.has, f1.val⟩
            exact b11 w3 _ _ ht (ht ▸ tw) (ht ▸ t3) h3' hb1' hn1 (he1.trans ((Ext.drew _ _).trans e23)) ((sl1.ext0 (Ext.drew _ _)).keep e23 (fun y hy => by simp at hy; omega)) hc
          · have qe' : sqAdd sq (D.length : Int) ≠ (insA sq D C.B).2.nxt := beq_eq_false_iff_ne.1 qe
            unfold takeF
            rw [if_neg et0, if_neg (fun z => z.elim q4' (by omega)), if_neg qe']
        · have ht : takeF sq f D C = { C with B := (insA sq D C.B).2 } := by unfold takeF; rw [if_neg et0, if_pos (.inr (by omega))]
          refine Bm.mk (fun qe => LdL.mk (Own.drew os1) rfl ?_) fun qe => b10f ht _ (Ext.drew _ _)
          rw [decide_eq_false (show ¬ ((D.length : Nat) : Int) ≤ 16 by omega)]
          exact b10f ht _ (Ext.drew _ _)
      · unfold takeF
        rw [if_neg et0, if_pos (.inl (bne_eq_false_iff_eq.1 q4))]
  have b9f : ¬ (0 < D.length ∨ fAnd f 4 ≠ 0) → connm_Conn_Input.B9 (some ⟨m, 0, none⟩) s sq f (some ⟨nb, 0, none⟩) 0 0 false w R := fun hc => by
    unfold connm_Conn_Input.B9
    rw [if_neg hc] at hR
    refine Bm.neg rfl (mPump_ok h hC fun rb rl rc E2 X4 w4 sl4 hE4 h4 hX4 he4 hl4 => ?_)
    have hz4 := he4.size
    have sl' := sl.keep he4 (fun y hy => by simp at hy; omega)
    refine SL.cat sl' sl4 (by omega) (by omega) (fun e he => (by cases he)) (fun k hk => sl.row.lt k hk) (by omega) (by omega) fun b5 c5 w5 sl5 he5 => ?_
    have h5 := h4.ext he5 (fun q => by have := hnbl _ q; omega) (fun y hy q => by rw [hX4] at hy; exact hnb y hy (hnbl _ q).symm)
    have hw5 : (pumpF C).1.why = 0 := by
      obtain ⟨pw, p2, _⟩ := pumpF_w hC
      exact (pw.live (by omega)).1
    refine mEnd_ok h5 hw5 fun X6 w6 h6 hX6 he6 => hR b5 (0 + rl) c5 _ X6 w6 (sl5.keep he6 (fun y hy => by simp at hy; omega)) (by simpa using hE4) h6 (fun y hy => hb0 y (by rw [hX6, hX4] at hy; exact hy)) ?_ (by omega)
    exact ((E0.trans he4).trans' he5 (fun y hy hlt => by have := hnbl y hy; omega)).trans he6
  refine LdL.mk os rfl (Bm.ite (fun q => b9t (.inl (by omega))) fun q => ?_)
  by_cases q4 : fAnd f 4 = 0
  · rw [show (fAnd f 4 != 0) = false from bne_eq_false_iff_eq.2 q4]
    exact b9f fun z => z.elim (by omega) (fun z => z q4)
  · rw [show (fAnd f 4 != 0) = true from bne_iff_ne.2 q4]
    exact b9t (.inr q4)
theorem ack_una {ak wn : Int} (h : CsW C) (h3 : C.st = 3) (hd : 0 < ackD ak C) (hf : ackD ak C ≤ flying C) : sqAdd (sndUna C) (ackD ak C) = sndUna (ackC ak wn C) := by
  obtain ⟨k, ek, hk, k1, k2⟩ := ackK_bd h hd
  obtain ⟨hfa, hnew⟩ := acked_fly h h3 hd hf
  have hS' := ackA_eq h.S hk
  have eS : (ackC ak wn C).S.una = (C.S.una + (k : Int)) % 256 := by
    show (ackA (sqAdd C.S.una (ackK ak C)) C.S).2.una = _
    rw [ek, hS']
  have eu : sndUna C = C.S.una := by unfold sndUna; rw [if_neg (by rw [hfa]; simp)]
  rw [eu]
  unfold sndUna
  rw [eS]
  by_cases c : (C.S.sent : Int) < ackD ak C
  · have efa : (ackC ak wn C).fa = true := by show (if _ then true else C.fa) = true; rw [if_pos c]
    rw [if_pos efa, (hnew c).2, k1 c]
    unfold sqAdd
    omega
  · have efa : (ackC ak wn C).fa = false := by show (if _ then true else C.fa) = false; rw [if_neg c]; exact hfa
    rw [if_neg (by rw [efa]; simp), ← k2 c]
    rfl
theorem mOpen_ok {w0 : World} {X0 : MC} {s0 s1 s2 s3 s4 sq ak f wn : Int} {s k nb : Nat} {D : List Int} {R : Option Addr → Nat → Nat → World → Prop} (h : MM w m X C) (hC : CsOk C) (h3 : C.st = 3) (os : Own w s #[.int .i64 s0, .int .i64 s1, .int .i64 s2, .int .i64 s3, .int .i64 s4, .int .i64 wn, .slice (some ⟨k, 0, none⟩) D.length D.length] T_api_Segment) (hk : Bf w k D) (hl : D.length ≤ 281474976710656) (sl : SL w (some ⟨nb, 0, none⟩) 0 0 w0.heap.size []) (E0 : Ext [m] w0 w) (hm : m < w0.heap.size) (hb0 : ∀ k ∈ X.blks, k ∈ X0.blks ∨ w0.heap.size ≤ k) (hnb : ∀ k ∈ X.blks, k ≠ nb)
    (hR : OutM w0 m X0 (openF ak wn sq f D C).1 (openF ak wn sq f D C).2 R) : connm_Conn_Input.B4 (some ⟨m, 0, none⟩) s sq ak f (some ⟨nb, 0, none⟩) 0 0 w R := by
  unfold connm_Conn_Input.B4
  unfold openF at hR
  have e := h.rel
  have hlo := E0.size
  have hX := Tys.one h.own
  have hbd := sqDiff_bd ak (sndUna C)
  have hsb := hC.S.sent
  have hsl := hC.S.len
  have hnbl' : nb < w.heap.size := sl.row.lt nb (by simp [rowBlk])
  refine Pn.mk (h.own.ldI (o := 7) (by omega) rfl (seqDiff_ok (mOut_ok h hC.S ?_)))
  rw [e.una]
  have eD : sqDiff ak (sndUna C) = ackD ak C := rfl
  rw [eD] at hbd ⊢
  refine Bm.ite (fun c => mAck_ok h hC.S hC.B fun ka w2 hka hb2 he2 => ?_) fun c => Bm.ite (fun c2 => ?_) fun c2 => ?_
  · have ea : ackedF ak wn C = (false, C) := by unfold ackedF; rw [if_pos c]
    rw [ea, if_neg (by simp)] at hR
    exact newSL1 (g := ackF C) (lo := w0.heap.size) hb2 (by omega) fun nb' w3 sl3 he3 => hR _ 1 1 _ X w3 sl3 rfl (h.ext0 (he2.trans he3)) hb0 (E0.trans (he2.trans he3).nil) (by omega)
  · refine LdI.mk os rfl (mWnd_ok (Pn.mk (h.own.stPw fun w1 hs1 g1 e1 => Pn.mk (g1.stRt fun w2 hs2 g2 e2 => ?_))))
    have E2 := e1.trans e2
    have h2 : MM w2 m { X with pw := windowF wn, rt := 0 } { C with pw := windowF wn, rt := 0 } := h.turn g2 E2 ⟨rfl, rfl, rfl⟩ ⟨rfl, rfl, rfl⟩ rfl rfl ⟨e.st, e.why, e.wc, e.fs, e.fa, e.pf, e.iss, e.una, e.sent, e.rnxt, rfl, e.tm, rfl, e.cr, e.qt, e.has, e.val⟩
    have os2 := ownT E2 hX os (by decide)
    have hk2 : Bf w2 k D := ⟨ownT E2 hX hk.1 (by decide), hk.2⟩
    have sl2 := sl.keep E2 (fun y hy => by simp at hy; omega)
    unfold connm_Conn_Input.B6
    by_cases c3 : ackD ak C = 0
    · have ea : ackedF ak wn C = (true, { C with pw := windowF wn, rt := 0 }) := by unfold ackedF; rw [if_neg c, if_neg (by omega), if_pos c3]
      rw [ea, if_pos rfl] at hR
      have hw : CsW { C with pw := windowF wn, rt := 0 } := by
        have := ackedF_w (ak := ak) (wn := wn) hC.toCsW h3
        unfold ackedF at this
        rw [if_neg c, if_neg (by omega), if_pos c3] at this
        exact this.1
      exact Bm.neg (decide_eq_false (by omega)) (mGoon_ok h2 hw h3 os2 hk2 hl sl2 (E0.trans E2) hm hb0 hnb hR)
    · have ea : ackedF ak wn C = (true, if 0 < flying (ackC ak wn C) then armF (ackC ak wn C) else ackC ak wn C) := by unfold ackedF; rw [if_neg c, if_neg (by omega), if_neg c3]
      rw [ea, if_pos rfl] at hR
      have hd : 0 < ackD ak C := by omega
      have hfl : ackD ak C ≤ flying C := by omega
      obtain ⟨aw, a3⟩ := ackC_w (wn := wn) hC.toCsW h3 hd hfl
      obtain ⟨kk, ek, hkk, k1, k2⟩ := ackK_bd hC.toCsW hd
      have hS' := ackA_eq hC.S hkk
      have eS : (ackC ak wn C).S = ⟨(C.S.una + (kk : Int)) % 256, C.S.D.drop kk, C.S.sent - kk⟩ := by
        show (ackA (sqAdd C.S.una (ackK ak C)) C.S).2 = _
        rw [ek, hS']
      have b7 : ∀ (w3 : World) (fa' : Bool), MM w3 m { X with pw := windowF wn, rt := 0, fa := fa' } { C with pw := windowF wn, rt := 0 } ∨ CmAt w3 m { X with pw := windowF wn, rt := 0, fa := fa' } → CmAt w3 m { X with pw := windowF wn, rt := 0, fa := fa' } → Ext [m] w w3 → (fa' = if (C.S.sent : Int) < ackD ak C then true else C.fa) → connm_Conn_Input.B7 (some ⟨m, 0, none⟩) s sq f (some ⟨nb, 0, none⟩) 0 0 (ackD ak C) (kk : Int) w3 R := by
        intro w3 fa' _ g3 e3 efa
        unfold connm_Conn_Input.B7
        have hq3 : Row w3 X.qb X.ql X.qc 1 T_uint8 (U8 C.S.D) := rowT h.q e3 hX (by decide)
        have ha3 : Row w3 X.rb X.rl X.rc 1 T_uint8 (U8 C.B.A) := rowT h.a e3 hX (by decide)
        have hql := h.ql
        have hqc := h.q.2.1
        refine Pn.mk (g3.ldQ ⟨⟨by omega, by show (kk : Int) ≤ ((X.ql : Nat) : Int); omega⟩, ?_⟩)
        refine copyBytes_ok (v := C.S.D.drop kk) ((row_rd hq3 hC.S.isB).drop kk (by show (C.S.D.length : Int) ≤ ((X.qc : Nat) : Int); omega)) (by rw [List.length_drop]; show _ = X.ql - kk; omega) (by show X.ql - kk ≤ _; omega) fun kq w4 hkq hs4 hb4 he4 => Pn.mk ?_
        have g4 : CmAt w4 m _ := he4.own g3 (by simp)
        have hrow4 := hb4.row
        have hlen4 : (C.S.D.drop kk).length = X.ql - kk := by rw [List.length_drop]; omega
        rw [hlen4] at hrow4
        have z3 := e3.size
        refine CmAt.stQ g4 fun w5 _ g5 e5 => Pn.mk (CmAt.ldI (o := 9) (v := X.sent) g5 (by omega) rfl (Pn.mk ?_))
        have esn := e.sent
        rw [w64 (by omega) (by omega)]
        refine g5.stSent fun w6 _ g6 e6 => Pn.mk (g6.ldI (o := 7) (v := X.una) (by omega) rfl (seqAdd_ok (Pn.mk ?_)))
        refine g6.stUna fun w7 _ g7 e7 => Pn.mk (g7.stTm fun w8 _ g8 e8 => ?_)
        have E58 : Ext [m] w4 w8 := e5.trans (e6.trans (e7.trans e8))
        have hX4 := Tys.one g4
        have E8 : Ext [m] w w8 := (e3.trans he4.nil).trans E58
        have h8 : MM w8 m { X with pw := windowF wn, rt := 0, fa := fa', qb := some ⟨kq, 0, none⟩, ql := X.ql - kk, qc := X.ql - kk, sent := X.sent - (kk : Int), una := sqAdd X.una (ackD ak C), tm := 0 } (ackC ak wn C) := by
          refine ⟨g8, ?_, rowT ((ha3.ext he4 (by simp))) E58 hX4 (by decide), ⟨e.st, e.why, e.wc, e.fs, efa, e.pf, e.iss, ?_, ?_, e.rnxt, rfl, rfl, rfl, e.cr, e.qt, e.has, e.val⟩⟩
          · rw [eS]; exact rowT hrow4 E58 hX4 (by decide)
          · show sqAdd X.una (ackD ak C) = _
            rw [e.una]
            exact ack_una hC.toCsW h3 hd hfl
          · rw [eS]
            show X.sent - (kk : Int) = ((C.S.sent - kk : Nat) : Int)
            omega
        have okS : SbOk (ackC ak wn C).S := ackA_ok hC.S _
        have os8 := ownT E58 hX4 (he4.own (ownT e3 hX os (by decide)) (by simp)) (by decide)
        have hk8 : Bf w8 k D := ⟨ownT E58 hX4 (he4.own (ownT e3 hX hk.1 (by decide)) (by simp)) (by decide), hk.2⟩
        have sl8 := ((sl.keep e3 (fun y hy => by simp at hy; omega)).ext0 he4).keep E58 (fun y hy => by simp at hy; omega)
        have hb8 : ∀ y ∈ ({ X with pw := windowF wn, rt := 0, fa := fa', qb := some ⟨kq, 0, none⟩, ql := X.ql - kk, qc := X.ql - kk, sent := X.sent - (kk : Int), una := sqAdd X.una (ackD ak C), tm := 0 } : MC).blks, (y ∈ X0.blks ∨ w0.heap.size ≤ y) ∧ y ≠ nb := fun y hy => by
          rcases List.mem_append.1 hy with q | q
          · simp [rowBlk] at q
            exact ⟨.inr (by omega), by omega⟩
          · have hy' := List.mem_append.2 (.inr q : y ∈ rowBlk X.qb ∨ y ∈ rowBlk X.rb)
            exact ⟨hb0 y hy', hnb y hy'⟩
        refine mOut_ok h8 okS (Bm.ite (fun q => mArm_ok h8 (by show (0 : Int) ≤ 0 ∧ (0 : Int) ≤ 3; omega) fun w9 t hs9 h9 he9 => ?_) fun q => ?_)
        · rw [if_pos q] at aw hR
          have hX8 := Tys.one h8.own
          have a3' : (armF (ackC ak wn C)).st = 3 := by rw [armF_eq]; exact a3
          exact mGoon_ok h9 aw a3' (ownT he9 hX8 os8 (by decide)) ⟨ownT he9 hX8 hk8.1 (by decide), hk.2⟩ hl (sl8.keep he9 (fun y hy => by simp at hy; omega)) (E0.trans (E8.trans he9)) hm (fun y hy => (hb8 y hy).1) (fun y hy => (hb8 y hy).2) hR
        · rw [if_neg q] at aw hR
          exact mGoon_ok h8 aw a3 os8 hk8 hl sl8 (E0.trans E8) hm (fun y hy => (hb8 y hy).1) (fun y hy => (hb8 y hy).2) hR
      have esn := e.sent
      refine Bm.pos (decide_eq_true hd) (Pn.mk (CmAt.ldI (o := 9) (v := X.sent) g2 (by omega) rfl ?_))
      rw [esn]
      refine Bm.ite (fun c4 => Pn.mk (CmAt.ldI (o := 9) (v := X.sent) g2 (by omega) rfl (Pn.mk (g2.stFa fun w3 _ g3 e3 => ?_)))) fun c4 => ?_
      · have := b7 w3 true (.inr g3) g3 (E2.trans e3) (by rw [if_pos c4])
        rw [esn, ← k1 c4]
        exact this
      · have := b7 w2 C.fa (.inr (e.fa ▸ g2)) (e.fa ▸ g2) E2 (by rw [if_neg c4])
        rw [k2 c4] at this
        exact this
  · have ea : ackedF ak wn C = (true, C) := by unfold ackedF; rw [if_neg c, if_pos (by omega)]
    rw [ea, if_pos rfl] at hR
    unfold connm_Conn_Input.B6
    exact Bm.neg (decide_eq_false (by omega)) (mGoon_ok h hC.toCsW h3 os hk hl sl E0 hm hb0 hnb hR)
end
end Go.Proofs.Qxb6500422aGreat
