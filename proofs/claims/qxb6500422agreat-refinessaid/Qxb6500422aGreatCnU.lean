/-
  connlaw: Play, Step, NewWorld, the walk.
-/
import Derived.Test.Qxb6500422aGreatCnT
set_option linter.unusedVariables false
set_option linter.unusedSimpArgs false
open Go.Vc
namespace Go.Proofs.Qxb6500422aGreat
section
variable {w0 w : World} {a : Nat} {D : DS} {K : KS} {dr : Hd} {qu : Bool} {N c : Nat}
theorem playB1_ok {o : OpV} {ob : Nat} {R : Bool → World → Prop} (hc : c < 2) (h : LX w0 w a D K dr qu N) (hN : N ≤ 999999800) (oo : Own w ob (opArr o) T_api_Op) (hwf : o.Wf)
    (hR : ∀ D' K' w', LX w0 w' a D' K' dr qu (N + 22) → R true w') : connlaw_World_Play.B1 (some ⟨a, 0, none⟩) ob (c : Int) false w R := by
  unfold connlaw_World_Play.B1
  have R0 : ∀ {w' : World}, LX w0 w' a D K dr qu N → R true w' := fun h' => hR D K _ (h'.mono (by omega))
  have R21 : ∀ D' K' w', LX w0 w' a D' K' dr qu (N + 21) → R true w' := fun D' K' w' h' => hR D' K' w' (h'.mono (by omega))
  have hd := h.drew
  have ood : Own w.drew ob (opArr o) T_api_Op := oo
  have ok := h.duo.ok c hc
  have hss := hwf.s
  have sl := strB_length o.s
  have hN' : N ≤ 999999900 := by omega
  have ix : (0 : Int) ≤ (c : Int) ∧ (c : Int) < ((2 : Nat) : Int) := ⟨by omega, by omega⟩
  refine Bm.neg rfl (LdI.mk oo rfl ?_)
  -- Input(draft)
  refine Bm.mk (fun _ => ?_) fun _ => ?_
  · refine draftSeg h oo rfl fun s k cc z w1 os bf he1 => LdI.mk os rfl (LdI.mk os rfl (LdI.mk os rfl (LdI.mk os rfl (LdI.mk os rfl (LdI.mk os rfl (LdL.mk os rfl ?_))))))
    exact feed_ok (H := { dr with fl := o.a }) hc (h.ext0 he1) hN' bf.rd sl (by omega) R21
  -- Input(pool)
  refine Bm.mk (fun _ => LdI.mk ood rfl (Bm.ite (fun hlt => ?_) fun hge => LdI.mk ood rfl (Pn.mk (hd.ldL (b := K.pb) (l := K.pl) (c := K.pc) rfl ?_)))) fun _ => ?_
  · unfold connlaw_World_Play.B2
    exact Bm.pos rfl (R0 hd)
  · obtain ⟨i, hi⟩ := Int.eq_ofNat_of_zero_le (a := o.a) (by omega)
    rw [hi]
    unfold connlaw_World_Play.B2
    refine Bm.ite (fun _ => R0 hd) fun hlt => Pn.mk (hd.drew.ldL (b := K.pb) (l := K.pl) (c := K.pc) rfl ?_)
    have oodd : Own w.drew.drew ob (opArr o) T_api_Op := oo
    have pl := poolLen h
    obtain ⟨e, he⟩ := get_lt (L := K.P) (n := i) (by omega)
    refine LdI.mk (n := (i : Int)) oodd (by rw [← hi]; rfl) (poolLd hd.drew he ?_)
    have pd := hd.drew.kps.pdat e (List.mem_of_getElem? he)
    exact feed_ok (H := e.1.1) hc hd.drew hN' pd.1.rd0 rfl (by have := pd.2; omega) R21
  -- OpenActive
  refine Bm.mk (fun _ => Pn.mk ⟨ix, hd.ldX hc (LdI.mk ood rfl (cOpenA_ok (hd.duo.cr c hc) fun ab al ac A w2 sa hA cr he2 hal => ?_))⟩) fun _ => ?_
  · obtain ⟨oa2, mm2, up2⟩ := mid hc hd he2
    have hdr : Ext [] w2 w2.drew := Ext.drew _ _
    refine Pn.mk ⟨ix, ownM hc (hdr.own oa2 (by simp)) (LdI.mk (hdr.own (up2 ood (by decide)) (by simp)) rfl (mOpenA_ok (mm2.ext0 hdr) fun bb bl bc B X' w3 sb hB mm hbk he3 hbl => Bm.neg (by simp) ?_))⟩
    exact (both_mk hc hd (openAF_ok ok) openA_short sa hA cr he2 hal hdr sb hB mm hbk he3).1.out hN' R21
  -- OpenPassive(pool)
  refine Bm.mk (fun _ => LdI.mk ood rfl (Bm.ite (fun hlt => ?_) fun hge => LdI.mk ood rfl (Pn.mk (hd.ldL (b := K.pb) (l := K.pl) (c := K.pc) rfl ?_)))) fun _ => ?_
  · unfold connlaw_World_Play.B3
    exact Bm.pos rfl (R0 hd)
  · obtain ⟨i, hi⟩ := Int.eq_ofNat_of_zero_le (a := o.b) (by omega)
    rw [hi]
    unfold connlaw_World_Play.B3
    have oodd : Own w.drew.drew ob (opArr o) T_api_Op := oo
    refine Bm.ite (fun _ => R0 hd) fun hlt => LdI.mk oodd rfl (Pn.mk (hd.drew.ldL (b := K.pb) (l := K.pl) (c := K.pc) rfl ?_))
    have pl := poolLen h
    obtain ⟨e, he⟩ := get_lt (L := K.P) (n := i) (by omega)
    refine LdI.mk (n := (i : Int)) oodd (by rw [← hi]; rfl) (poolLd hd.drew he ?_)
    have pd := hd.drew.kps.pdat e (List.mem_of_getElem? he)
    exact passive_ok (H := e.1.1) hc hd.drew hN' pd.1.rd0 rfl (by have := pd.2; omega) R21
  -- OpenPassive(draft)
  refine Bm.mk (fun _ => ?_) fun _ => ?_
  · refine draftSeg h oo rfl fun s k cc z w1 os bf he1 => LdI.mk (he1.own oo (by simp)) rfl (LdI.mk os rfl (LdI.mk os rfl (LdI.mk os rfl (LdI.mk os rfl (LdI.mk os rfl (LdI.mk os rfl (LdL.mk os rfl ?_)))))))
    exact passive_ok (H := { dr with fl := o.b }) hc (h.ext0 he1) hN' bf.rd sl (by omega) R21
  -- Tick
  refine Bm.mk (fun _ => Pn.mk ⟨ix, h.ldX hc (cTick_ok (h.duo.cr c hc) ok fun ab al ac A w2 sa hA cr he2 hal => ?_)⟩) fun _ => ?_
  · obtain ⟨oa2, mm2, up2⟩ := mid hc h he2
    refine Pn.mk ⟨ix, ownM hc oa2 (mTick_ok mm2 ok fun bb bl bc B X' w3 sb hB mm hbk he3 hbl => ?_)⟩
    exact (both_mk hc h (tickF_ok ok) (tick_short ok) sa hA cr he2 hal (Ext.refl [] w2) sb hB mm hbk he3).1.out hN' R21
  -- Close
  refine Bm.mk (fun _ => Pn.mk ⟨ix, h.ldX hc (cClose_ok (h.duo.cr c hc) ok fun ab al ac A w2 sa hA cr he2 hal => ?_)⟩) fun _ => ?_
  · obtain ⟨oa2, mm2, up2⟩ := mid hc h he2
    refine Pn.mk ⟨ix, ownM hc oa2 (mClose_ok mm2 ok fun bb bl bc B X' w3 sb hB mm hbk he3 hbl => Bm.neg (by simp) ?_)⟩
    exact (both_mk hc h (closeF_ok ok) (close_short ok) sa hA cr he2 hal (Ext.refl [] w2) sb hB mm hbk he3).1.out hN' R21
  -- Send
  refine Bm.mk (fun _ => LdS.mk oo rfl (toBytes_ok fun k1 c1 w1 z1 hc1 hk1 hs1 b1 he1 => LdS.mk (he1.own oo (by simp)) rfl (toBytes_ok fun k2 c2 w2 z2 hc2 hk2 hs2 b2 he2 => ?_))) fun _ => ?_
  · have h2 := h.ext0 (he1.trans he2)
    have b12 := b1.ext0 he2
    rw [← sl]
    refine Pn.mk ⟨ix, h2.ldX hc (cSend_ok (h2.duo.cr c hc) ok b12 (by omega) (by omega) fun ab al ac A w3 sa hA cr he3 hal b13 => ?_)⟩
    obtain ⟨oa3, mm3, up3⟩ := mid hc h2 he3
    have b23 : Bf w3 k2 (strB o.s ++ z2) := ⟨up3 b2.1 (by decide), b2.2⟩
    refine Pn.mk ⟨ix, ownM hc oa3 (mSend_ok mm3 ok b23.rd (by omega) fun bb bl bc B X' w4 sb hB mm hbk he4 hbl => ?_)⟩
    obtain ⟨q, g⟩ := both_mk hc h2 (sendF_ok ok (strB_isB o.s)) (send_short ok) sa hA cr he3 hal (Ext.refl [] w3) sb hB mm hbk he4
    have tm : Tys w3 [D.m c] [T_connm_Conn] := Tys.one mm3.own
    have b14 : Bf w4 k1 (strB o.s ++ z1) := ⟨ownT he4 tm b13.1 (by decide), b13.2⟩
    refine scribble_ok b14 (by simp) (by omega) fun w5 hs5 _ he5 => Bm.neg (by simp) ?_
    unfold connlaw_World_Play.B4
    have k1lt := b12.lt
    have z3 := he3.size
    have zz := h.sz
    refine Bm.neg (by simp) ((q.keep he5 (by omega) k1lt (fun z => ?_)).out hN' R21)
    rcases g _ z with z | z
    · exact h.fresh (by omega) z
    · omega
  -- Recv
  refine Bm.mk (fun _ => Pn.mk ⟨ix, hd.ldX hc (LdI.mk ood rfl (cRecv_ok (hd.duo.cr c hc) ok fun gb gl gc ab al ac A w2 sa hA cr he2 hal hg => ?_))⟩) fun _ => ?_
  · obtain ⟨oa2, mm2, up2⟩ := mid hc hd he2
    have hdr : Ext [] w2 w2.drew := Ext.drew _ _
    refine Pn.mk ⟨ix, ownM hc (hdr.own oa2 (by simp)) (LdI.mk (hdr.own (up2 ood (by decide)) (by simp)) rfl (mRecv_ok (mm2.ext0 hdr) ok fun hb hl hcc bb bl bc B X' w3 sb hB mm hbk he3 hbl rdh hhl => Bm.neg (by simp) ?_))⟩
    obtain ⟨q, g⟩ := both_mk hc hd (recvF_ok ok) recv_short sa hA cr he2 hal hdr sb hB mm hbk he3
    have tm : Tys w2.drew [D.m c] [T_connm_Conn] := Tys.one (mm2.ext0 hdr).own
    have zd : w2.drew.heap.size = w2.heap.size := rfl
    have zz := h.sz
    have zd1 : w.drew.heap.size = w.heap.size := rfl
    refine recvEnd q (by omega) (recv_got ok) (by rw [hA]; exact recv_data) ?_ rdh hhl hR
    rcases hg with z | ⟨k, e1, e2, e3, hk, bk⟩
    · exact .inl z
    · refine .inr ⟨k, e1, e2, e3, by omega, by have := bk.lt; omega, fun z => ?_, ⟨ownT he3 tm (hdr.own bk.1 (by simp)) (by decide), bk.2⟩⟩
      rcases g _ z with z | z
      · exact h.fresh (by omega) z
      · have := bk.lt
        omega
  -- Abort
  refine Bm.mk (fun _ => Pn.mk ⟨ix, h.ldX hc (cAbort_ok (h.duo.cr c hc) ok fun ab al ac A w2 sa hA cr he2 hal => ?_)⟩) fun _ => ?_
  · obtain ⟨oa2, mm2, up2⟩ := mid hc h he2
    refine Pn.mk ⟨ix, ownM hc oa2 (mAbort_ok mm2 ok fun bb bl bc B X' w3 sb hB mm hbk he3 hbl => Bm.neg (by simp) ?_)⟩
    exact (both_mk hc h (abortF_ok ok) abort_short sa hA cr he2 hal (Ext.refl [] w2) sb hB mm hbk he3).1.out hN' R21
  -- the observers
  refine Bm.mk (fun _ => likeInfo_ok hc h fun w1 he1 => R0 (h.ext0 he1)) fun _ => ?_
  refine Bm.mk (fun _ => likePeek_ok hc h hN' fun K' w1 h1 => hR D K' w1 (h1.mono (by omega))) fun _ => ?_
  exact Bm.mk (fun _ => Pn.mk ⟨ix, h.ldX hc (cCheck_ok (h.duo.cr c hc) ok fun w1 he1 => R0 (h.ext0 he1))⟩) fun _ => R0 h
theorem play_ok {o : OpV} {R : Bool → World → Prop} (h : LX w0 w a D K dr qu N) (hN : N ≤ 999999800) (hwf : o.Wf) (hR : ∀ D' K' dr' w', LX w0 w' a D' K' dr' qu (N + 22) → R true w') : connlaw_World_Play.Call (some ⟨a, 0, none⟩) o.k o.a o.b o.c o.s o.t w R := by
  apply connlaw_World_Play.sound
  unfold connlaw_World_Play.B0
  refine New.mk fun ob w1 e1 s1 o1 he1 => ?_
  have oo : Own w1 ob (opArr o) T_api_Op := o1
  have h1 := h.ext0 he1
  obtain ⟨p1, p2⟩ := playNums_ok (R := R) (ob := ob) h1.drew oo fun dr' w' h' => hR D K dr' w' (h'.mono (by omega))
  refine LdI.mk oo rfl (Bm.mk (fun _ => p1) fun _ => Bm.mk (fun _ => p2) fun _ => LdI.mk oo rfl ?_)
  have out : connlaw_World_Play.B1 (some ⟨a, 0, none⟩) ob o.c true w1 R := by
    unfold connlaw_World_Play.B1
    exact Bm.pos rfl (hR D K dr w1 (h1.mono (by omega)))
  refine Bm.ite (fun _ => out) fun hge => ?_
  by_cases hgt : o.c > 1
  · rw [decide_eq_true hgt]; exact out
  · rw [decide_eq_false hgt]
    obtain ⟨c, hc⟩ := Int.eq_ofNat_of_zero_le (a := o.c) (by omega)
    rw [hc]
    exact playB1_ok (by omega) h1 hN oo hwf fun D' K' w' h' => hR D' K' dr w' h'
theorem step_ok {o : OpV} {R : Bool → World → Prop} (h : LX w0 w a D K dr qu N) (hN : N ≤ 900000000) (hwf : o.Wf) (hR : ∀ D' K' dr' w', LX w0 w' a D' K' dr' qu (N + 30) → R true w') : connlaw_World_Step.Call (some ⟨a, 0, none⟩) o.k o.a o.b o.c o.s o.t w R := by
  apply connlaw_World_Step.sound
  unfold connlaw_World_Step.B0
  refine New.mk fun ob w1 e1 s1 o1 he1 => ?_
  have oo : Own w1 ob (opArr o) T_api_Op := o1
  refine LdI.mk oo rfl (LdI.mk oo rfl (LdI.mk oo rfl (LdI.mk oo rfl (LdS.mk oo rfl (LdS.mk oo rfl (play_ok (h.ext0 he1) (by omega) hwf fun D2 K2 dr2 w2 h2 => Bm.neg rfl ?_))))))
  unfold connlaw_World_Step.L1
  refine ⟨fun m a' c' w' => ∃ n : Nat, n ≤ 2 ∧ m = 2 - n ∧ some ⟨a, 0, none⟩ = a' ∧ c' = (n : Int) ∧ LX w0 w' a D2 K2 dr2 qu (N + 22), _, ⟨0, by omega, rfl, rfl, rfl, h2⟩, ?_⟩
  rintro m a' c' w' ⟨n, hn, rfl, rfl, rfl, h'⟩
  unfold connlaw_World_Step.L1b
  refine Bm.ite (fun hlt => seam_ok (by omega) h' fun w3 he3 => Bm.neg rfl ⟨2 - (n + 1), by omega, n + 1, by omega, rfl, rfl, by rw [w64 (by omega) (by omega)]; omega, h'.ext0 he3⟩) fun hge => Pn.mk (h'.ldQ ?_)
  exact Bm.mk (fun _ => hR D2 K2 dr2 w' (h'.mono (by omega))) fun _ => alike_ok h' (by omega) fun K4 w4 h4 => hR D2 K4 dr2 w4 (h4.mono (by omega))
end
end Go.Proofs.Qxb6500422aGreat
