/-
  sync: the events.
-/
import Derived.Test.Qxb6500430aGreatSyI
set_option linter.unusedVariables false
set_option linter.unusedSimpArgs false
open Go.Vc
namespace Go.Proofs.Qxb6500430aGreat
theorem install_err {i tm : Int} {sn : ByteArray} {L : LogS} (h : (installS i tm sn L).1 ≠ 0) : (installS i tm sn L).2 = [] := by
  unfold installS at h ⊢
  split
  · rfl
  · rename_i c1
    rw [if_neg c1] at h
    split
    · rfl
    · rename_i c2
      rw [if_neg c2] at h
      split
      · rfl
      · rename_i c3
        rw [if_neg c3] at h
        split
        · rename_i c4; rw [if_pos c4] at h; exact absurd rfl h
        · rename_i c4; rw [if_neg c4] at h; exact absurd rfl h
theorem append_last (tm : Int) (dd : ByteArray) (L : LogS) : L.last ≤ (finL L (appendS tm dd L).2).last := by
  by_cases c : (appendS tm dd L).1 = 0
  · have := (last_append L c).1
    omega
  · rw [append_err c]
    exact Int.le_refl _
theorem persS_len (Y : YS) : (persS Y).length ≤ 1 := by
  unfold persS
  split
  · exact len_setTerm _ _ _
  · simp
theorem see_same {s : El.ES} {t : Int} (h : El.seeB s t = false) : El.seeF s t = s := by
  unfold El.seeF
  rw [if_neg (by simp [h])]
theorem ite1_len {α : Type} {P : Prop} [Decidable P] (x : α) : (if P then [x] else []).length ≤ 3 := by split <;> simp
theorem YsOk.bk {Y : YS} (h : YsOk Y) (hr : Y.e.role = 2) : Book Y := ⟨h.e.id, h.book hr, h.lo, h.hi⟩
section
variable {w0 w w' : World} {s l t d e : Nat} {D0 : DiskS} {F0 : List Nat} {N : Int} {L0 : LogS} {Y : YS} {B : List ME} {S T : List LogS} {m : MsgV} {b : Option Addr} {ll c : Nat}
theorem Ev.el (h : Ev w0 s l t d e D0 F0 N L0 w Y B S) : ∃ bx, SyAt w s (syX l e Y bx B.length) ∧ El.RealAt w e Y.e := by
  obtain ⟨bx, h, _⟩ := h
  exact ⟨bx, h.own, h.el⟩
theorem voteAsked_ok {R : World → Prop} (h : Ev w0 s l t d e D0 F0 N L0 w Y [] []) (hw : Y.e.Wf) (hN : N ≤ 4611686018427387904) (hlog : D0.log.length ≤ 100)
    (hR : ∀ E w', E.map (·.1) = (voteAskY m Y).G → Ev w0 s l t d e D0 F0 N L0 w' (voteAskY m Y).Y E (voteAskY m Y).S → E.length ≤ 3 → ExtT w w' CT → R w') : sync_Sync_voteAsked.Call (some ⟨s, 0, none⟩) m.kind m.fr m.to m.term m.idx m.lt m.cm m.ok b ll c m.data w R := by
  apply sync_Sync_voteAsked.sound
  unfold sync_Sync_voteAsked.B0
  refine New.mk fun m0 w1 e1 s1 o1 he1 => ?_
  have om : Own w1.drew m0 (msgC m b ll c).toArray T_api_Msg := o1
  have omd : Own w1.drew.drew m0 (msgC m b ll c).toArray T_api_Msg := o1
  have E1 : Ext [] w w1.drew := he1.trans (Ext.drew _ _)
  have h1 := h.ext0 E1
  have h1d := h1.ext0 (Ext.drew [] w1.drew)
  have x1 : ExtT w w1.drew.drew CT := ExtT.nil (E1.trans (Ext.drew _ _)) _
  obtain ⟨bx, v⟩ := h1.vw
  have b1 : ∀ up : Bool, up = (decide (Y.lastT < m.lt) || (decide (m.lt = Y.lastT) && decide (Y.L.last ≤ m.idx))) → sync_Sync_voteAsked.B1 (some ⟨s, 0, none⟩) m0 up w1.drew R := fun up hup => by
    unfold sync_Sync_voteAsked.B1
    obtain ⟨bd, od, el⟩ := h1d.el
    refine Pn.mk (od.ldE (LdI.mk omd rfl (LdI.mk omd rfl (El.realAsk_ok el hw fun w2 el2 he2 => ?_))))
    obtain ⟨h2, x2⟩ := h1d.turn el2 he2
    have om2 := x2.own omd (by decide)
    refine persist_ok h2 (El.askF_wf hw) (by simpa using hN) (by simp; omega) fun w3 h3 x3 => LdI.mk (x3.own om2 (by decide)) rfl (reply_ok h3 (by simp) fun w4 h4 x4 => ?_)
    rw [hup] at h4
    exact hR _ w4 (by unfold voteAskY; rw [← hup]; rfl) h4 (by simp) (((x1.trans x2).trans x3).trans x4)
  refine LdI.mk om rfl (Pn.mk (v.own.ldI (o := 10) (by omega) rfl ?_))
  show Bm (decide (m.lt > Y.lastT)) _ _
  by_cases c1 : m.lt > Y.lastT
  · exact Bm.pos (decide_eq_true c1) (b1 true (by rw [decide_eq_true (show Y.lastT < m.lt from c1)]; rfl))
  · refine Bm.neg (decide_eq_false c1) (LdI.mk om rfl (Pn.mk (v.own.ldI (o := 10) (by omega) rfl ?_)))
    show Bm (m.lt == Y.lastT) _ _
    have f1 : decide (Y.lastT < m.lt) = false := decide_eq_false c1
    by_cases c2 : m.lt = Y.lastT
    · refine Bm.pos (by simpa using c2) (LdI.mk om rfl (Pn.mk (v.own.ldI (o := 9) (by omega) rfl (b1 _ ?_))))
      rw [f1, decide_eq_true c2]
      rfl
    · refine Bm.neg (by simpa using c2) (b1 false ?_)
      rw [f1, decide_eq_false c2]
      rfl
theorem voteCame_ok {R : World → Prop} (h : Ev w0 s l t d e D0 F0 N L0 w Y [] []) (hw : Y.e.Wf) (hN : N ≤ 4611686018427387904) (hlog : D0.log.length ≤ 100)
    (hR : ∀ E w', E.map (·.1) = (voteGotY m Y).G → Ev w0 s l t d e D0 F0 N L0 w' (voteGotY m Y).Y E (voteGotY m Y).S → E.length ≤ 3 → ExtT w w' CT → R w') : sync_Sync_voteCame.Call (some ⟨s, 0, none⟩) m.kind m.fr m.to m.term m.idx m.lt m.cm m.ok b ll c m.data w R := by
  apply sync_Sync_voteCame.sound
  unfold sync_Sync_voteCame.B0
  refine New.mk fun m0 w1 e1 s1 o1 he1 => ?_
  have om : Own w1.drew m0 (msgC m b ll c).toArray T_api_Msg := o1
  have E1 : Ext [] w w1.drew := he1.trans (Ext.drew _ _)
  have h1 := h.ext0 E1
  have x1 : ExtT w w1.drew CT := ExtT.nil E1 _
  obtain ⟨bd, od, el⟩ := h1.el
  refine Pn.mk (od.ldE (LdI.mk om rfl (LdI.mk om rfl (LdB.mk om rfl (El.realGotV_ok el hw fun w2 el2 he2 => ?_)))))
  obtain ⟨h2, x2⟩ := h1.turn el2 he2
  have hpl := persS_len { Y with e := (El.gotF Y.e m.fr m.term m.ok).2 }
  refine persist_ok h2 (El.gotF_wf hw) (by simpa using hN) (by simp; omega) fun w3 h3 x3 => ?_
  have x13 := (x1.trans x2).trans x3
  unfold voteGotY at hR
  by_cases cw : (El.gotF Y.e m.fr m.term m.ok).1 = true
  rotate_left
  · simp only [if_neg cw] at hR
    exact Bm.pos (by simp [cw]) (hR [] w3 rfl h3 (by simp) x13)
  simp only [if_pos cw] at hR
  refine Bm.neg (by simp [cw]) ?_
  generalize hY1 : ({ Y with e := (El.gotF Y.e m.fr m.term m.ok).2 } : YS) = Y1 at *
  have h3' : Ev w0 s l t d e D0 F0 N L0 w3 (persF Y1) [] (persS Y1) := h3
  generalize hY2 : persF Y1 = Y2 at *
  obtain ⟨bx, h3x, hb⟩ := h3'
  have hlast : Y2.L.base + (Y2.L.ents.length : Int) ≤ 72057594037927936 := h3x.vw.ok.last
  have hbase := h3x.vw.ok.base
  have hl9 : Y2.L.last = Y2.L.base + (Y2.L.ents.length : Int) := rfl
  let fx : Nat → Nat → Int := fun n q => if q < n then Y2.L.last + 1 else Y2.nx q
  let fm : Nat → Nat → Int := fun n q => if q < n then 0 else Y2.mt q
  have fx1 : ∀ n, upN (fx n) n (Y2.L.last + 1) = fx (n + 1) := fun n => by
    funext q
    unfold upN
    show (if q = n then Y2.L.last + 1 else if q < n then Y2.L.last + 1 else Y2.nx q) = if q < n + 1 then Y2.L.last + 1 else Y2.nx q
    by_cases c1 : q = n
    · rw [if_pos c1, if_pos (by omega)]
    · rw [if_neg c1]
      by_cases c2 : q < n
      · rw [if_pos c2, if_pos (by omega)]
      · rw [if_neg c2, if_neg (by omega)]
  have fm1 : ∀ n, upN (fm n) n 0 = fm (n + 1) := fun n => by
    funext q
    unfold upN
    show (if q = n then 0 else if q < n then 0 else Y2.mt q) = if q < n + 1 then 0 else Y2.mt q
    by_cases c1 : q = n
    · rw [if_pos c1, if_pos (by omega)]
    · rw [if_neg c1]
      by_cases c2 : q < n
      · rw [if_pos c2, if_pos (by omega)]
      · rw [if_neg c2, if_neg (by omega)]
  unfold sync_Sync_voteCame.L1
  refine ⟨fun mm s' q w' => ∃ n : Nat, n ≤ 3 ∧ mm = 3 - n ∧ some ⟨s, 0, none⟩ = s' ∧ q = (n : Int) ∧ EvX w0 s l t d e D0 F0 N L0 w' (SyR.mk l e Y2.cm (fx n) (fm n) Y2.L.last Y2.lastT bx ((([] : List ME).length : Nat) : Int)) Y2.L Y2.e [] (persS Y1) ∧ ExtT w w' CT, _, ⟨0, by omega, rfl, rfl, rfl, ?_, x13⟩, ?_⟩
  · have ea : fx 0 = Y2.nx := by funext q; show (if q < 0 then _ else _) = _; rw [if_neg (by omega)]
    have eb : fm 0 = Y2.mt := by funext q; show (if q < 0 then _ else _) = _; rw [if_neg (by omega)]
    rw [ea, eb]
    exact h3x
  rintro mm s' q wa ⟨n, hn, rfl, rfl, rfl, ha, xa⟩
  unfold sync_Sync_voteCame.L1b
  refine Bm.ite (fun hlt => ?_) fun hge => ?_
  · have had := ha.ext0 (Ext.drew [] wa)
    refine Pn.mk (had.own.ldI (o := 9) (by omega) rfl (Pn.mk ⟨⟨by omega, by omega⟩, ?_⟩))
    show Sts [.int .i64 (IntKind.i64.wrap (Y2.L.last + 1))] _ 0 _ _
    rw [w64 (by omega) (by omega)]
    refine had.own.stNx (by omega) fun wb hsb ob heb => Pn.mk ⟨⟨by omega, by omega⟩, ?_⟩
    have hb' := had.st ob rfl rfl heb
    refine hb'.own.stMt (by omega) fun wc hsc oc hec => ⟨3 - (n + 1), by omega, n + 1, by omega, rfl, rfl, by rw [w64 (by omega) (by omega)]; omega, ?_, ?_⟩
    · have hc' := hb'.st oc rfl rfl hec
      have hc2 : EvX w0 s l t d e D0 F0 N L0 wc (SyR.mk l e Y2.cm (upN (fx n) n (Y2.L.last + 1)) (upN (fm n) n 0) Y2.L.last Y2.lastT bx ((([] : List ME).length : Nat) : Int)) Y2.L Y2.e [] (persS Y1) := hc'
      rw [fx1, fm1] at hc2
      exact hc2
    · exact ((xa.trans (ExtT.nil (Ext.drew [] wa) _)).trans (CTs (by simp) had.own heb)).trans (CTs (by simp) hb'.own hec)
  · have hn3 : n = 3 := by omega
    subst hn3
    have h4 : Ev w0 s l t d e D0 F0 N L0 wa { Y2 with nx := fun q => if q < 3 then Y2.L.last + 1 else Y2.nx q, mt := fun q => if q < 3 then 0 else Y2.mt q } [] (persS Y1) := ⟨bx, ha, hb⟩
    obtain ⟨b4, v4⟩ := h4.vw
    refine v4.eTerm (grow_ok h4 (by omega) fun w5 h5 x5 => sendAll_ok h5 (fun p hp hpi => ?_) fun E w6 hE h6 x6 => hR E w6 hE h6 ?_ ((xa.trans x5).trans x6))
    · have := append_last Y2.e.term estr Y2.L
      show 0 ≤ (if p < 3 then Y2.L.last + 1 else Y2.nx p) ∧ (if p < 3 then Y2.L.last + 1 else Y2.nx p) ≤ (finL Y2.L (appendS Y2.e.term estr Y2.L).2).last + 1
      rw [if_pos hp]
      omega
    · have e1 := congrArg List.length hE
      rw [List.length_map] at e1
      have e2 := perPeer_len (setL { Y2 with nx := fun q => if q < 3 then Y2.L.last + 1 else Y2.nx q, mt := fun q => if q < 3 then 0 else Y2.mt q } (appendS Y2.e.term estr Y2.L).2) (fun p => sendF p (setL { Y2 with nx := fun q => if q < 3 then Y2.L.last + 1 else Y2.nx q, mt := fun q => if q < 3 then 0 else Y2.mt q } (appendS Y2.e.term estr Y2.L).2)) 3
      unfold sendAllF at e1
      rw [e1]
      exact e2
theorem entsCame_ok {R : World → Prop} (h : Ev w0 s l t d e D0 F0 N L0 w Y [] []) (hw : Y.e.Wf) (hE : EA w b ll c m.ents) (hm : MB m) (hN : N ≤ 4611686018427387904) (hlog : D0.log.length ≤ 100)
    (hR : ∀ E w', E.map (·.1) = (entsY m Y).G → Ev w0 s l t d e D0 F0 N L0 w' (entsY m Y).Y E (entsY m Y).S → E.length ≤ 3 → ExtT w w' CT → R w') : sync_Sync_entriesCame.Call (some ⟨s, 0, none⟩) m.kind m.fr m.to m.term m.idx m.lt m.cm m.ok b ll c m.data w R := by
  apply sync_Sync_entriesCame.sound
  unfold sync_Sync_entriesCame.B0
  refine New.mk fun m0 w1 e1 s1 o1 he1 => ?_
  have om : Own w1.drew m0 (msgC m b ll c).toArray T_api_Msg := o1
  have E1 : Ext [] w w1.drew := he1.trans (Ext.drew _ _)
  have h1 := h.ext0 E1
  have x1 : ExtT w w1.drew CT := ExtT.nil E1 _
  obtain ⟨bd, od, el⟩ := h1.el
  refine Pn.mk (od.ldE (LdI.mk om rfl (LdI.mk om rfl (El.realHeard_ok el hw fun w2 el2 he2 => ?_))))
  obtain ⟨h2, x2⟩ := h1.turn el2 he2
  have hpl := persS_len { Y with e := (El.heardF Y.e m.fr m.term).2 }
  refine persist_ok h2 (El.heardF_wf hw) (by simpa using hN) (by simp; omega) fun w3 h3 x3 => ?_
  have x13 := (x1.trans x2).trans x3
  have om3 := (x2.trans x3).own om (by decide)
  have hE3 : EA w3 b ll c m.ents := x13.row hE (by decide)
  unfold entsY at hR
  by_cases cw : (El.heardF Y.e m.fr m.term).1 = true
  · simp only [if_pos cw] at hR
    refine Bm.neg (by simp [cw]) (ldMsg om3 (accept_ok h3 hE3 hm (by show D0.log.length + 20 * (persS _).length ≤ 300; omega) fun w4 h4 x4 => ?_))
    refine LdI.mk (x4.own om3 (by decide)) rfl (reply_ok h4 (by simp) fun w5 h5 x5 => hR _ w5 rfl h5 (by simp) ((x13.trans x4).trans x5))
  · simp only [if_neg cw] at hR
    exact Bm.pos (by simp [cw]) (LdI.mk om3 rfl (reply_ok h3 (by simp) fun w4 h4 x4 => hR _ w4 rfl h4 (by simp) (x13.trans x4)))
theorem snapCame_ok {R : World → Prop} (h : Ev w0 s l t d e D0 F0 N L0 w Y [] []) (hw : Y.e.Wf) (hN : N + 1 ≤ 4611686018427387904) (hlog : D0.log.length ≤ 50)
    (hR : ∀ E w', E.map (·.1) = (snapY m Y).G → Ev w0 s l t d e D0 F0 N L0 w' (snapY m Y).Y E (snapY m Y).S → E.length ≤ 3 → ExtT w w' CT → R w') : sync_Sync_snapCame.Call (some ⟨s, 0, none⟩) m.kind m.fr m.to m.term m.idx m.lt m.cm m.ok b ll c m.data w R := by
  apply sync_Sync_snapCame.sound
  unfold sync_Sync_snapCame.B0
  refine New.mk fun m0 w1 e1 s1 o1 he1 => ?_
  have om : Own w1.drew m0 (msgC m b ll c).toArray T_api_Msg := o1
  have E1 : Ext [] w w1.drew := he1.trans (Ext.drew _ _)
  have h1 := h.ext0 E1
  have x1 : ExtT w w1.drew CT := ExtT.nil E1 _
  obtain ⟨bd, od, el⟩ := h1.el
  refine Pn.mk (od.ldE (LdI.mk om rfl (LdI.mk om rfl (El.realHeard_ok el hw fun w2 el2 he2 => ?_))))
  obtain ⟨h2, x2⟩ := h1.turn el2 he2
  have hpl := persS_len { Y with e := (El.heardF Y.e m.fr m.term).2 }
  refine persist_ok h2 (El.heardF_wf hw) (by simp; omega) (by simp; omega) fun w3 h3 x3 => ?_
  have x13 := (x1.trans x2).trans x3
  have om3 := (x2.trans x3).own om (by decide)
  unfold snapY at hR
  by_cases cw : (El.heardF Y.e m.fr m.term).1 = true
  rotate_left
  · simp only [if_neg cw] at hR
    exact Bm.pos (by simp [cw]) (LdI.mk om3 rfl (reply_ok h3 (by simp) fun w4 h4 x4 => hR _ w4 rfl h4 (by simp) (x13.trans x4)))
  simp only [if_pos cw] at hR
  generalize hY1 : ({ Y with e := (El.heardF Y.e m.fr m.term).2 } : YS) = Y1 at *
  have h3' : Ev w0 s l t d e D0 F0 N L0 w3 (persF Y1) [] (persS Y1) := h3
  generalize hY2 : persF Y1 = Y2 at *
  have h3d := h3'.ext0 (Ext.drew [] w3)
  have h3dd := h3d.ext0 (Ext.drew [] w3.drew)
  have xd : ExtT w w3.drew.drew CT := x13.trans (ExtT.nil ((Ext.drew [] w3).trans (Ext.drew _ _)) _)
  have omd : Own w3.drew m0 (msgC m b ll c).toArray T_api_Msg := om3
  have omdd : Own w3.drew.drew m0 (msgC m b ll c).toArray T_api_Msg := om3
  obtain ⟨bx, v⟩ := h3d.vw
  refine Bm.neg (by simp [cw]) (LdI.mk omd rfl (Pn.mk (v.own.ldI (o := 2) (by omega) rfl ?_)))
  show Bm (decide (m.idx ≤ Y2.cm)) _ _
  by_cases c1 : m.idx ≤ Y2.cm
  · simp only [if_pos c1] at hR
    obtain ⟨bx2, v2⟩ := h3dd.vw
    refine Bm.pos (decide_eq_true c1) (LdI.mk omdd rfl (Pn.mk (v2.own.ldI (o := 2) (by omega) rfl ?_)))
    exact reply_ok h3dd (by simp) fun w4 h4 x4 => hR _ w4 rfl h4 (by simp) (xd.trans x4)
  simp only [if_neg c1] at hR
  refine Bm.neg (decide_eq_false c1) ?_
  obtain ⟨bxx, hx, hb⟩ := h3dd
  refine Pn.mk (hx.own.ldL (LdI.mk omdd rfl (LdI.mk omdd rfl (LdS.mk omdd rfl ?_))))
  rw [show (syX l e Y2 bxx ([] : List ME).length).l = l from rfl]
  obtain ⟨D, F, A, r, p, q, g, z⟩ := hx.cor
  refine realInstall_ok r p (by rw [hx.fin]; exact finL_mem _ _) (by omega) (by omega) fun w5 d5 => ?_
  obtain ⟨h5, x5⟩ := hx.did r q g z p d5
  have om5 := x5.own omdd (by decide)
  by_cases c2 : (installS m.idx m.lt m.data Y2.L).1 = 0
  · simp only [if_pos c2] at hR
    refine Bm.neg (by simp [c2]) (refresh_ok h5 fun w6 h6 x6 => LdI.mk (x6.own om5 (by decide)) rfl (Pn.mk (h6.own.stCm fun w7 hs7 o7 he7 => ?_)))
    have h7 := h6.st o7 rfl rfl he7
    have x7 := CTs (T := T_sync_Sync) (by simp) h6.own he7
    have om7 := (x6.trans x7).own om5 (by decide)
    have h7' : Ev w0 s l t d e D0 F0 N L0 w7 { setL Y2 (installS m.idx m.lt m.data Y2.L).2 with cm := m.idx } [] (persS Y1 ++ (installS m.idx m.lt m.data Y2.L).2) := ⟨bxx, h7, hb⟩
    exact LdI.mk om7 rfl (LdI.mk om7 rfl (reply_ok h7' (by simp) fun w8 h8 x8 => hR _ w8 rfl h8 (by simp) (((xd.trans x5).trans (x6.trans x7)).trans x8)))
  · simp only [if_neg c2] at hR
    have en := install_err c2
    rw [en] at h5
    have h5' : Ev w0 s l t d e D0 F0 N L0 w5 Y2 [] (persS Y1) := ⟨bxx, by rw [List.append_nil] at h5; exact h5, hb⟩
    exact Bm.pos (by simpa using c2) (LdI.mk om5 rfl (reply_ok h5' (by simp) fun w6 h6 x6 => hR _ w6 rfl h6 (by simp) ((xd.trans x5).trans x6)))
theorem ackCame_ok {R : World → Prop} (h : Ev w0 s l t d e D0 F0 N L0 w Y [] []) (hY : YsOk Y) (hm : MB m) (hfr : m.fr ≠ Y.e.id) (hN : N ≤ 4611686018427387904) (hlog : D0.log.length ≤ 100)
    (hR : ∀ E w', E.map (·.1) = (ackY m Y).G → Ev w0 s l t d e D0 F0 N L0 w' (ackY m Y).Y E (ackY m Y).S → E.length ≤ 3 → ExtT w w' CT → R w') : sync_Sync_ackCame.Call (some ⟨s, 0, none⟩) m.kind m.fr m.to m.term m.idx m.lt m.cm m.ok b ll c m.data w R := by
  apply sync_Sync_ackCame.sound
  unfold sync_Sync_ackCame.B0
  have hw := hY.e
  refine New.mk fun m0 w1 e1 s1 o1 he1 => ?_
  have om : Own w1.drew m0 (msgC m b ll c).toArray T_api_Msg := o1
  have E1 : Ext [] w w1.drew := he1.trans (Ext.drew _ _)
  have h1 := h.ext0 E1
  have x1 : ExtT w w1.drew CT := ExtT.nil E1 _
  obtain ⟨bd, od, el⟩ := h1.el
  refine Pn.mk (od.ldE (LdI.mk om rfl (El.realSee_ok el hw fun w2 el2 he2 => ?_)))
  obtain ⟨h2, x2⟩ := h1.turn el2 he2
  have om2 := x2.own om (by decide)
  unfold ackY at hR
  by_cases cs : El.seeB Y.e m.term = true
  · simp only [if_pos cs] at hR
    exact Bm.pos cs (persist_ok h2 (El.seeF_wf hw) (by simpa using hN) (by simp; omega) fun w3 h3 x3 => hR [] w3 rfl h3 (by simp) ((x1.trans x2).trans x3))
  simp only [if_neg cs] at hR
  have cs' : El.seeB Y.e m.term = false := by simpa using cs
  have h2' : Ev w0 s l t d e D0 F0 N L0 w2 Y [] [] := by
    rw [see_same cs'] at h2
    exact h2
  obtain ⟨bx, v⟩ := h2'.vw
  have x12 := x1.trans x2
  refine Bm.neg cs' (v.eRole hw (v.eTerm ?_))
  have no : (Y.e.role ≠ 2 ∨ m.term ≠ Y.e.term) → sync_Sync_ackCame.B1 (some ⟨s, 0, none⟩) m0 true w2 R := fun hc => by
    unfold sync_Sync_ackCame.B1
    simp only [if_pos hc] at hR
    exact Bm.pos rfl (hR [] w2 rfl h2' (by simp) x12)
  by_cases c1 : Y.e.role = 2
  rotate_left
  · exact Bm.pos (by simpa using c1) (no (.inl c1))
  refine Bm.neg (by simp [c1]) (LdI.mk om2 rfl ?_)
  show sync_Sync_ackCame.B1 (some ⟨s, 0, none⟩) m0 (m.term != Y.e.term) w2 R
  by_cases c2 : m.term = Y.e.term
  rotate_left
  · rw [show (m.term != Y.e.term) = true by simpa using c2]
    exact no (.inr c2)
  rw [show (m.term != Y.e.term) = false by simpa using c2]
  simp only [if_neg (show ¬ (Y.e.role ≠ 2 ∨ m.term ≠ Y.e.term) by simp [c1, c2])] at hR
  unfold sync_Sync_ackCame.B1
  have hfr2 := hm.fr
  obtain ⟨p, hp⟩ := Int.eq_ofNat_of_zero_le hfr2.1
  have hpt : m.fr.toNat = p := by omega
  rw [hpt] at hR
  refine Bm.neg rfl (LdB.mk om2 rfl ?_)
  by_cases c3 : m.ok = true
  · simp only [if_pos c3] at hR
    refine Bm.pos c3 (LdI.mk (n := (p : Int)) om2 (by rw [← hp]; rfl) (LdI.mk om2 rfl (acked_ok h2' (hY.bk c1) (by omega) (by omega) hm.idx fun E w3 hE h3 x3 => hR E w3 hE h3 ?_ (x12.trans x3))))
    have e1 := congrArg List.length hE
    rw [List.length_map] at e1
    rw [e1]
    unfold ackedF
    split
    · exact Nat.zero_le _
    · exact ite1_len _
  · simp only [if_neg c3] at hR
    refine Bm.neg (by simpa using c3) (LdI.mk (n := (p : Int)) om2 (by rw [← hp]; rfl) (LdI.mk om2 rfl (refused_ok h2' (hY.bk c1) (by omega) (by omega) hm.idx fun E w3 hE h3 x3 => hR E w3 hE h3 ?_ (x12.trans x3))))
    have e1 := congrArg List.length hE
    rw [List.length_map] at e1
    rw [e1]
    unfold refusedF
    split <;> simp
end
end Go.Proofs.Qxb6500430aGreat
