/-
  sync: the model's events.
-/
import Derived.Test.Qxb6500430aGreatSyP
set_option linter.unusedVariables false
set_option linter.unusedSimpArgs false
open Go.Vc
namespace Go.Proofs.Qxb6500430aGreat
abbrev RL := Option Addr → Nat → Nat → World → Prop
section
variable {w0 w w' : World} {s q e : Nat} {M0 M M' : MSt} {L0 : LogS} {Y : YS} {S T : List LogS} {m : MsgV} {b : Option Addr} {ll c m0 re : Nat}
/-- One message, and out. -/
theorem outRe {g : MsgV} {lo : Nat} {R : RL} (om : Own w re (msgC g none 0 0).toArray T_api_Msg) (hg : g.ents = []) (hlo : lo ≤ w.heap.size) (hR : ∀ b' c' w', ML w' b' 1 c' lo [(g, none, 0)] → Ext [] w w' → R b' 1 c' w') :
    LdI .i64 ⟨re, 0, none⟩ w fun x0 => LdI .i64 ⟨re, 1, none⟩ w fun x1 => LdI .i64 ⟨re, 2, none⟩ w fun x2 => LdI .i64 ⟨re, 3, none⟩ w fun x3 => LdI .i64 ⟨re, 4, none⟩ w fun x4 => LdI .i64 ⟨re, 5, none⟩ w fun x5 => LdI .i64 ⟨re, 6, none⟩ w fun x6 => LdB ⟨re, 7, none⟩ w fun x7 => LdL ⟨re, 8, none⟩ w fun x8 x9 x10 => LdS ⟨re, 9, none⟩ w fun x11 =>
    New (.cells #[.int .i64 x0, .int .i64 x1, .int .i64 x2, .int .i64 x3, .int .i64 x4, .int .i64 x5, .int .i64 x6, .bool x7, .slice x8 x9 x10, .string x11] T_api_Msg) w fun nb w7 =>
    Append T_api_Msg (.agg #[.int .i64 0, .int .i64 0, .int .i64 0, .int .i64 0, .int .i64 0, .int .i64 0, .int .i64 0, .bool false, .slice none 0 0, .string (ByteArray.mk #[])]) 10 104 none 0 0 (some ⟨nb, 0, none⟩) 1 w7 fun b' c' w8 => R b' (0 + 1) c' w8 := by
  refine ldMsg om (New.mk fun nb w1 hnb hs1 on he1 => ?_)
  have hz := he1.size
  have on' : Own w1 nb (meC (g, none, 0)).toArray T_api_Msg := by
    have : meC (g, none, 0) = msgC g none 0 0 := by unfold meC; rw [hg]; rfl
    rw [this]; exact on
  refine ML.push (x := (g, none, 0)) (ML.nil w1 lo) on' (by show EA w1 none g.ents.length 0 g.ents; rw [hg]; exact EA.nil _) (fun k hk => by cases hk) (fun y hy => by cases hy) (by omega) (by omega) fun b' c' w2 ml he hT => hR b' c' w2 ml (he1.trans he)
variable {ws : World}
theorem mB2_ok {R : RL} (h : Mv w0 s q e M0 L0 w Y []) (xs : ExtT ws w MT) (hws : w0.heap.size ≤ ws.heap.size) (om : Own w m0 (msgC m b ll c).toArray T_api_Msg) (ore : Own w re (msgC ⟨4, Y.e.id, m.fr, 0, 0, 0, 0, false, [], estr⟩ none 0 0).toArray T_api_Msg) (hre : ws.heap.size ≤ re) (hH : M0.H.length ≤ 50)
    (hR : ∀ bo co E w', E.map (·.1) = (voteAskY m Y).G → ML w' bo E.length co w0.heap.size E → E.length ≤ 3 → Mv w0 s q e M0 L0 w' (voteAskY m Y).Y (voteAskY m Y).S → ExtT ws w' MT → R bo E.length co w') (up : Bool) (hup : up = (decide (Y.lastT < m.lt) || (decide (m.lt = Y.lastT) && decide (Y.L.last ≤ m.idx)))) :
    syncm_Sync_Step.B2 (some ⟨s, 0, none⟩) m0 m.fr none 0 0 re up w R := by
  unfold syncm_Sync_Step.B2
  have hsz := h.sz
  have hd := h.ext0 (Ext.drew [] w)
  have omd : Own w.drew m0 (msgC m b ll c).toArray T_api_Msg := om
  have hre0 : w0.heap.size ≤ re := by omega
  refine Pn.mk (hd.own.ldE (LdI.mk omd rfl (El.modAsk_ok hd.el fun w1 el1 he1 => ?_)))
  obtain ⟨h1, x1⟩ := hd.turn el1 he1
  have x01 : ExtT w w1 MT := (ExtT.nil (Ext.drew [] w) MT).trans x1
  have o1 := x01.own ore (by decide)
  refine Sts.mk o1 (by simp [msgC]) rfl fun w2 hs2 o2 he2 => ?_
  have h2 := h1.loc o1 he2 hre0
  have X2 := extFresh (xs.trans x01) he2 hre
  refine mpersist_ok h2 (by simp; omega) fun w3 h3 x3 => ?_
  have o3 := x3.own o2 (by decide)
  refine Sts.mk o3 (by rw [size_putArr]; simp [msgC]) rfl fun w4 hs4 o4 he4 => ?_
  have h4 := h3.loc o3 he4 hre0
  have X4 := extFresh (X2.trans x3) he4 hre
  refine h4.eTerm (Sts.mk o4 (by rw [size_putArr, size_putArr]; simp [msgC]) rfl fun w5 hs5 o5 he5 => ?_)
  have h5 := h4.loc o4 he5 hre0
  have X5 := extFresh X4 he5 hre
  have o5' : Own w5 re (msgC (replyF 2 m.fr (El.askF Y.e m.fr m.term up).1 0 (persF { Y with e := (El.askF Y.e m.fr m.term up).2 })) none 0 0).toArray T_api_Msg := by
    have : (persF { Y with e := (El.askF Y.e m.fr m.term up).2 }).e.id = Y.e.id := ask_keep.1
    unfold replyF
    rw [this]
    exact o5
  refine outRe (lo := w0.heap.size) o5' rfl h5.sz fun b' c' w6 ml he6 => ?_
  exact hR b' c' [_] w6 (by unfold voteAskY; rw [← hup]; rfl) ml (by simp) (by unfold voteAskY; rw [← hup]; exact h5.ext0 he6) (X5.trans (ExtT.nil he6 _))
/-- The term laid into the answer, and out. -/
theorem mB3_ok {R : RL} {k i : Int} {ok : Bool} {idv : Int} (h : Mv w0 s q e M0 L0 w Y S) (xs : ExtT ws w MT) (hws : w0.heap.size ≤ ws.heap.size) (ore : Own w re (msgC ⟨k, idv, m.fr, 0, i, 0, 0, ok, [], estr⟩ none 0 0).toArray T_api_Msg) (hid : idv = Y.e.id) (hre : ws.heap.size ≤ re)
    (hR : ∀ bo co E w', E.map (·.1) = [replyF k m.fr ok i Y] → ML w' bo E.length co w0.heap.size E → E.length ≤ 3 → Mv w0 s q e M0 L0 w' Y S → ExtT ws w' MT → R bo E.length co w') :
    syncm_Sync_Step.B3 (some ⟨s, 0, none⟩) none 0 0 re w R ∧ syncm_Sync_Step.B6 (some ⟨s, 0, none⟩) none 0 0 re w R := by
  have hre0 : w0.heap.size ≤ re := by omega
  have fin : ∀ {w5 : World}, Own w5 re (putArr (msgC ⟨k, idv, m.fr, 0, i, 0, 0, ok, [], estr⟩ none 0 0).toArray 3 [.int .i64 Y.e.term]) T_api_Msg → Own w5 re (msgC (replyF k m.fr ok i Y) none 0 0).toArray T_api_Msg := fun {w5} o => by
    unfold replyF
    rw [← hid]
    exact o
  constructor
  · unfold syncm_Sync_Step.B3
    refine h.eTerm (Sts.mk ore (by simp [msgC]) rfl fun w5 hs5 o5 he5 => ?_)
    have h5 := h.loc ore he5 hre0
    exact outRe (lo := w0.heap.size) (fin o5) rfl h5.sz fun b' c' w6 ml he6 => hR b' c' [_] w6 rfl ml (by simp) (h5.ext0 he6) ((extFresh xs he5 hre).trans (ExtT.nil he6 _))
  · unfold syncm_Sync_Step.B6
    refine h.eTerm (Sts.mk ore (by simp [msgC]) rfl fun w5 hs5 o5 he5 => ?_)
    have h5 := h.loc ore he5 hre0
    exact outRe (lo := w0.heap.size) (fin o5) rfl h5.sz fun b' c' w6 ml he6 => hR b' c' [_] w6 rfl ml (by simp) (h5.ext0 he6) ((extFresh xs he5 hre).trans (ExtT.nil he6 _))
theorem mvote_ok {R : RL} (h : Mv w0 s q e M0 L0 w Y []) (hw : Y.e.Wf) (xs : ExtT ws w MT) (hws : w0.heap.size ≤ ws.heap.size) (om : Own w m0 (msgC m b ll c).toArray T_api_Msg) (hH : M0.H.length ≤ 50)
    (hR : ∀ bo co E w', E.map (·.1) = (voteGotY m Y).G → ML w' bo E.length co w0.heap.size E → E.length ≤ 3 → Mv w0 s q e M0 L0 w' (voteGotY m Y).Y (voteGotY m Y).S → ExtT ws w' MT → R bo E.length co w') :
    Pn (some (⟨s, 0, none⟩ : Addr)) fun a_2 => LdP (Addr.add a_2 1) w.drew fun x111 => LdI .i64 ⟨m0, 3, none⟩ w.drew fun x114 => LdB ⟨m0, 7, none⟩ w.drew fun x116 => electm_Elect_GotVote.Call x111 m.fr x114 x116 w.drew fun r117 w5 => syncm_Sync_persist.Call (some ⟨s, 0, none⟩) w5 fun w6 => Bm r117 (syncm_Sync_Step.L1 (some ⟨s, 0, none⟩) Y.L.last 0 w6 R) (R none 0 0 w6) := by
  have hd := h.ext0 (Ext.drew [] w)
  have omd : Own w.drew m0 (msgC m b ll c).toArray T_api_Msg := om
  refine Pn.mk (hd.own.ldE (LdI.mk omd rfl (LdB.mk omd rfl (El.modGotV_ok hd.el hw fun w1 el1 he1 => ?_))))
  obtain ⟨h1, x1⟩ := hd.turn el1 he1
  refine mpersist_ok h1 (by simp; omega) fun w3 h3 x3 => ?_
  have X3 := ((xs.trans (ExtT.nil (Ext.drew [] w) MT)).trans x1).trans x3
  unfold voteGotY at hR
  by_cases cw : (El.gotF Y.e m.fr m.term m.ok).1 = true
  rotate_left
  · simp only [if_neg cw] at hR
    exact Bm.neg (by simpa using cw) (hR none 0 [] w3 rfl (ML.nil _ _) (by simp) h3 X3)
  simp only [if_pos cw] at hR
  refine Bm.pos cw ?_
  have hpl := persS_len { Y with e := (El.gotF Y.e m.fr m.term m.ok).2 }
  have el : (persF { Y with e := (El.gotF Y.e m.fr m.term m.ok).2 }).L.last = Y.L.last := persF_last _
  generalize hY1 : ({ Y with e := (El.gotF Y.e m.fr m.term m.ok).2 } : YS) = Y1 at *
  have h3' : Mv w0 s q e M0 L0 w3 (persF Y1) (persS Y1) := h3
  generalize hY2 : persF Y1 = Y2 at *
  rw [← el]
  have hlast : Y2.L.base + (Y2.L.ents.length : Int) ≤ 72057594037927936 := h3'.ok.last
  have hbase := h3'.ok.base
  have hl9 : Y2.L.last = Y2.L.base + (Y2.L.ents.length : Int) := rfl
  let fx : Nat → Nat → Int := fun n q => if q < n then Y2.L.last + 1 else Y2.nx q
  let fm : Nat → Nat → Int := fun n q => if q < n then 0 else Y2.mt q
  have fx1 : ∀ n, upN (fx n) n (Y2.L.last + 1) = fx (n + 1) := fun n => by
    funext q
    unfold upN
    show (if q = n then Y2.L.last + 1 else if q < n then Y2.L.last + 1 else Y2.nx q) = if q < n + 1 then Y2.L.last + 1 else Y2.nx q
    by_cases c1 : q = n
    · rw [if_pos c1, if_pos (by omega)]
    · rw [if_neg c1]
      by_cases c2 : q < n
      · rw [if_pos c2, if_pos (by omega)]
      · rw [if_neg c2, if_neg (by omega)]
  have fm1 : ∀ n, upN (fm n) n 0 = fm (n + 1) := fun n => by
    funext q
    unfold upN
    show (if q = n then 0 else if q < n then 0 else Y2.mt q) = if q < n + 1 then 0 else Y2.mt q
    by_cases c1 : q = n
    · rw [if_pos c1, if_pos (by omega)]
    · rw [if_neg c1]
      by_cases c2 : q < n
      · rw [if_pos c2, if_pos (by omega)]
      · rw [if_neg c2, if_neg (by omega)]
  unfold syncm_Sync_Step.L1
  refine ⟨fun mm s' la' q' w' => ∃ n : Nat, n ≤ 3 ∧ mm = 3 - n ∧ some ⟨s, 0, none⟩ = s' ∧ Y2.L.last = la' ∧ q' = (n : Int) ∧ Mv w0 s q e M0 L0 w' { Y2 with nx := fx n, mt := fm n } (persS Y1) ∧ ExtT ws w' MT, _, ⟨0, by omega, rfl, rfl, rfl, rfl, ?_, X3⟩, ?_⟩
  · have ea : fx 0 = Y2.nx := by funext q; show (if q < 0 then _ else _) = _; rw [if_neg (by omega)]
    have eb : fm 0 = Y2.mt := by funext q; show (if q < 0 then _ else _) = _; rw [if_neg (by omega)]
    rw [ea, eb]
    exact h3'
  rintro mm s' la' q' wa ⟨n, hn, rfl, rfl, rfl, rfl, ha, xa⟩
  unfold syncm_Sync_Step.L1b
  refine Bm.ite (fun hlt => ?_) fun hge => ?_
  · have had := ha.ext0 (Ext.drew [] wa)
    refine Pn.mk ⟨⟨by omega, by omega⟩, Pn.mk ?_⟩
    rw [w64 (x := Y2.L.last + 1) (by omega) (by omega)]
    refine had.own.stNx (by omega) fun wb hsb ob heb => ⟨⟨by omega, by omega⟩, ?_⟩
    obtain ⟨hb, xb⟩ := had.st (Y' := { Y2 with nx := fx (n + 1), mt := fm n }) ob heb rfl rfl (by show SmR.mk q e Y2.cm (upN (fx n) n (Y2.L.last + 1)) (fm n) = _; rw [fx1]; rfl)
    refine hb.own.stMt (by omega) fun wc hsc oc hec => ?_
    obtain ⟨hc, xc⟩ := hb.st (Y' := { Y2 with nx := fx (n + 1), mt := fm (n + 1) }) oc hec rfl rfl (by show SmR.mk q e Y2.cm (fx (n + 1)) (upN (fm n) n 0) = _; rw [fm1]; rfl)
    exact ⟨3 - (n + 1), by omega, n + 1, by omega, rfl, rfl, rfl, by rw [w64 (by omega) (by omega)]; omega, hc, ((xa.trans (ExtT.nil (Ext.drew [] wa) _)).trans xb).trans xc⟩
  · have hn3 : n = 3 := by omega
    subst hn3
    refine ha.eTerm ?_
    have haa := ha
    obtain ⟨Ma, hax⟩ := ha
    refine Pn.mk (hax.own.ldL (mAppend_ok hax.md hax.A hax.ok (by rw [hax.len]; omega) fun M2 wb db => ?_))
    obtain ⟨hb, xb⟩ := haa.did hax db (ok_append hax.ok)
    have X4 := xa.trans xb
    have hzz := X4.size
    have hzb := xb.size
    refine msendAll_ok hb (fun p hp hpi => ?_) fun bo co E w6 hE ml h6 he6 => ?_
    · have := append_last Y2.e.term estr Y2.L
      show 0 ≤ (if p < 3 then Y2.L.last + 1 else Y2.nx p) ∧ (if p < 3 then Y2.L.last + 1 else Y2.nx p) ≤ (finL Y2.L (appendS Y2.e.term estr Y2.L).2).last + 1
      rw [if_pos hp]
      omega
    · have hsz := hb.sz
      refine hR bo co E w6 hE ⟨ml.row, ⟨ml.bd.dat, ml.bd.apart, fun x hx k hk => by have := ml.bd.ge x hx k hk; omega⟩, fun k hk => by have := ml.blk k hk; omega⟩ ?_ h6 (X4.trans (ExtT.nil he6 _))
      have e1 := congrArg List.length hE
      rw [List.length_map] at e1
      unfold sendAllF at e1
      rw [e1]
      exact perPeer_len _ _ 3
theorem mheard_ok {R : Bool → World → Prop} (h : Mv w0 s q e M0 L0 w Y []) (xs : ExtT ws w MT) (om : Own w m0 (msgC m b ll c).toArray T_api_Msg) (hH : M0.H.length ≤ 50)
    (hR : ∀ w', Mv w0 s q e M0 L0 w' (persF { Y with e := (El.heardF Y.e m.fr m.term).2 }) (persS { Y with e := (El.heardF Y.e m.fr m.term).2 }) → ExtT w w' MT → R (El.heardF Y.e m.fr m.term).1 w') :
    Pn (some (⟨s, 0, none⟩ : Addr)) fun a_2 => LdP (Addr.add a_2 1) w.drew fun x111 => LdI .i64 ⟨m0, 3, none⟩ w.drew fun x114 => electm_Elect_Heard.Call x111 m.fr x114 w.drew fun r117 w5 => syncm_Sync_persist.Call (some ⟨s, 0, none⟩) w5 fun w6 => R r117 w6 := by
  have hd := h.ext0 (Ext.drew [] w)
  have omd : Own w.drew m0 (msgC m b ll c).toArray T_api_Msg := om
  refine Pn.mk (hd.own.ldE (LdI.mk omd rfl (El.modHeard_ok hd.el fun w1 el1 he1 => ?_)))
  obtain ⟨h1, x1⟩ := hd.turn el1 he1
  exact mpersist_ok h1 (by simp; omega) fun w3 h3 x3 => hR w3 h3 (((ExtT.nil (Ext.drew [] w) MT).trans x1).trans x3)
theorem mB4_ok {R : RL} {Y0 : YS} (h : Mv w0 s q e M0 L0 w Y S) (xs : ExtT ws w MT) (hws : w0.heap.size ≤ ws.heap.size) (om : Own w m0 (msgC m b ll c).toArray T_api_Msg) (ore : Own w re (msgC ⟨4, Y.e.id, m.fr, 0, 0, 0, 0, false, [], estr⟩ none 0 0).toArray T_api_Msg) (hre : ws.heap.size ≤ re) (hm0 : m0 ≠ re) (hH : M0.H.length + S.length ≤ 60) (ok : Bool)
    (hR : ∀ bo co E w', E.map (·.1) = (if ok = true then (if m.idx ≤ Y.cm then [replyF 4 m.fr true Y.cm Y] else if (installS m.idx m.lt m.data Y.L).1 = 0 then [replyF 4 m.fr true m.idx { setL Y (installS m.idx m.lt m.data Y.L).2 with cm := m.idx }] else [replyF 4 m.fr false 0 Y]) else [replyF 4 m.fr false 0 Y]) → ML w' bo E.length co w0.heap.size E → E.length ≤ 3 →
      Mv w0 s q e M0 L0 w' (if ok = true then (if m.idx ≤ Y.cm then Y else if (installS m.idx m.lt m.data Y.L).1 = 0 then { setL Y (installS m.idx m.lt m.data Y.L).2 with cm := m.idx } else Y) else Y) (if ok = true then (if m.idx ≤ Y.cm then S else if (installS m.idx m.lt m.data Y.L).1 = 0 then S ++ (installS m.idx m.lt m.data Y.L).2 else S) else S) → ExtT ws w' MT → R bo E.length co w') :
    ∀ tt : Bool, (tt = true ↔ (ok = true ∧ m.idx ≤ Y.cm)) → syncm_Sync_Step.B4 (some ⟨s, 0, none⟩) m0 none 0 0 re ok tt w R := fun tt htt => by
  unfold syncm_Sync_Step.B4
  have hre0 : w0.heap.size ≤ re := by omega
  have hd := h.ext0 (Ext.drew [] w)
  have omd : Own w.drew m0 (msgC m b ll c).toArray T_api_Msg := om
  have ored : Own w.drew re (msgC ⟨4, Y.e.id, m.fr, 0, 0, 0, 0, false, [], estr⟩ none 0 0).toArray T_api_Msg := ore
  have xd := xs.trans (ExtT.nil (Ext.drew [] w) MT)
  cases tt with
  | true =>
    obtain ⟨h1, h2⟩ := htt.1 rfl
    simp only [if_pos h1, if_pos h2] at hR
    refine Bm.pos rfl (Pn.mk (hd.own.ldC (Sts.mk ored (by simp [msgC]) rfl fun w1 hs1 o1 he1 => ⟨?_, ?_⟩)))
    · rw [add_mk]
      exact Own.cell (hd.loc ored he1 hre0).own (by rw [fnArr_get _ (by omega)]; rfl)
    refine Sts.mk o1 (by rw [size_putArr]; simp [msgC]) rfl fun w2 hs2 o2 he2 => ?_
    have hh2 := (hd.loc ored he1 hre0).loc o1 he2 hre0
    exact (mB3_ok (k := 4) (i := Y.cm) (ok := true) hh2 (extFresh (extFresh xd he1 hre) he2 hre) hws o2 rfl hre fun bo co E w' hE ml hl hm hx => hR bo co E w' hE ml hl hm hx).2
  | false =>
    refine Bm.neg rfl ?_
    by_cases h1 : ok = true
    rotate_left
    · simp only [if_neg h1] at hR
      exact Bm.neg (by simpa using h1) (mB3_ok (k := 4) (i := 0) (ok := false) h xs hws ore rfl hre fun bo co E w' hE ml hl hm hx => hR bo co E w' hE ml hl hm hx).2
    have h2 : ¬ (m.idx ≤ Y.cm) := fun z => by have := htt.2 ⟨h1, z⟩; cases this
    simp only [if_pos h1, if_neg h2] at hR
    refine Bm.pos h1 ?_
    have hdd := hd
    obtain ⟨Md, hdx⟩ := hd
    refine Pn.mk (hdx.own.ldL (LdI.mk omd rfl (LdI.mk omd rfl (LdS.mk omd rfl (mInstall_ok hdx.md hdx.A hdx.ok (by rw [hdx.len]; omega) fun M2 w3 d3 => ?_)))))
    obtain ⟨h3, x3⟩ := hdd.did hdx d3 (ok_install hdx.ok)
    have om3 := x3.own omd (by decide)
    have ore3 := x3.own ored (by decide)
    by_cases c2 : (installS m.idx m.lt m.data Y.L).1 = 0
    · simp only [if_pos c2] at hR
      refine Bm.pos (by simpa using c2) (LdI.mk om3 rfl (Pn.mk (h3.own.stCm fun w4 hs4 o4 he4 => ?_)))
      obtain ⟨h4, x4⟩ := h3.st (Y' := { setL Y (installS m.idx m.lt m.data Y.L).2 with cm := m.idx }) o4 he4 rfl rfl rfl
      have x4d := (((xd.trans x3).trans x4)).trans (ExtT.nil (Ext.drew [] w4) MT)
      have h4d := h4.ext0 (Ext.drew [] w4)
      have om4 : Own w4.drew m0 (msgC m b ll c).toArray T_api_Msg := x4.own om3 (by decide)
      have ore4 : Own w4.drew re (msgC ⟨4, Y.e.id, m.fr, 0, 0, 0, 0, false, [], estr⟩ none 0 0).toArray T_api_Msg := x4.own ore3 (by decide)
      refine LdI.mk om4 rfl (Sts.mk ore4 (by simp [msgC]) rfl fun w5 hs5 o5 he5 => ⟨(he5.own om4 (by simpa using hm0)).cell rfl, Sts.mk o5 (by rw [size_putArr]; simp [msgC]) rfl fun w6 hs6 o6 he6 => ?_⟩)
      have h6 := (h4d.loc ore4 he5 hre0).loc o5 he6 hre0
      exact (mB3_ok (k := 4) (i := m.idx) (ok := true) h6 (extFresh (extFresh x4d he5 hre) he6 hre) hws o6 rfl hre fun bo co E w' hE ml hl hm hx => hR bo co E w' hE ml hl hm hx).2
    · simp only [if_neg c2] at hR
      have en := install_err c2
      rw [en, List.append_nil] at h3
      exact Bm.neg (by simpa using c2) (mB3_ok (k := 4) (i := 0) (ok := false) h3 (xd.trans x3) hws ore3 rfl hre fun bo co E w' hE ml hl hm hx => hR bo co E w' hE ml hl hm hx).2
theorem mack_ok {R : RL} (h : Mv w0 s q e M0 L0 w Y []) (hY : YsOk Y) (hm : MB m) (hfr : m.fr ≠ Y.e.id) (xs : ExtT ws w MT) (hws : w0.heap.size ≤ ws.heap.size) (om : Own w m0 (msgC m b ll c).toArray T_api_Msg) (hH : M0.H.length ≤ 50)
    (hR : ∀ bo co E w', E.map (·.1) = (ackY m Y).G → ML w' bo E.length co w0.heap.size E → E.length ≤ 3 → Mv w0 s q e M0 L0 w' (ackY m Y).Y (ackY m Y).S → ExtT ws w' MT → R bo E.length co w') :
    Pn (some (⟨s, 0, none⟩ : Addr)) fun a_6 => LdP (Addr.add a_6 1) w.drew fun x248 => LdI .i64 ⟨m0, 3, none⟩ w.drew fun x250 => electm_Elect_See.Call x248 x250 w.drew fun r251 w14 =>
      Bm r251 (syncm_Sync_persist.Call (some ⟨s, 0, none⟩) w14 fun w15 => R none 0 0 w15) (Pn (some (⟨s, 0, none⟩ : Addr)) fun a_7 => LdP (Addr.add a_7 1) w14 fun x258 => electm_Elect_Role.Call x258 w14 fun r259 w16 => Pn (some (⟨s, 0, none⟩ : Addr)) fun a_8 => LdP (Addr.add a_8 1) w16 fun x263 => electm_Elect_Term.Call x263 w16 fun r264 w17 => Bm (r259 != 2) (syncm_Sync_Step.B5 (some ⟨s, 0, none⟩) m0 m.fr none 0 0 Y.L.last true w17 R) (LdI .i64 ⟨m0, 3, none⟩ w17 fun x269 => syncm_Sync_Step.B5 (some ⟨s, 0, none⟩) m0 m.fr none 0 0 Y.L.last (x269 != r264) w17 R)) := by
  have hd := h.ext0 (Ext.drew [] w)
  have omd : Own w.drew m0 (msgC m b ll c).toArray T_api_Msg := om
  have hlast : Y.L.base + (Y.L.ents.length : Int) ≤ 72057594037927936 := h.ok.last
  have hbase := h.ok.base
  have hl9 : Y.L.last = Y.L.base + (Y.L.ents.length : Int) := rfl
  have hidx := hm.idx
  refine Pn.mk (hd.own.ldE (LdI.mk omd rfl (El.modSee_ok hd.el fun w1 el1 he1 => ?_)))
  obtain ⟨h1, x1⟩ := hd.turn el1 he1
  have X1 := (xs.trans (ExtT.nil (Ext.drew [] w) MT)).trans x1
  have om1 := x1.own omd (by decide)
  unfold ackY at hR
  by_cases cs : El.seeB Y.e m.term = true
  · simp only [if_pos cs] at hR
    exact Bm.pos cs (mpersist_ok h1 (by simp; omega) fun w3 h3 x3 => hR none 0 [] w3 rfl (ML.nil _ _) (by simp) h3 (X1.trans x3))
  simp only [if_neg cs] at hR
  have cs' : El.seeB Y.e m.term = false := by simpa using cs
  have h1' : Mv w0 s q e M0 L0 w1 Y [] := by
    rw [see_same cs'] at h1
    exact h1
  refine Bm.neg cs' (h1'.eRole (h1'.eTerm ?_))
  have no : (Y.e.role ≠ 2 ∨ m.term ≠ Y.e.term) → syncm_Sync_Step.B5 (some ⟨s, 0, none⟩) m0 m.fr none 0 0 Y.L.last true w1 R := fun hc => by
    unfold syncm_Sync_Step.B5
    simp only [if_pos hc] at hR
    exact Bm.pos rfl (hR none 0 [] w1 rfl (ML.nil _ _) (by simp) h1' X1)
  by_cases c1 : Y.e.role = 2
  rotate_left
  · exact Bm.pos (by simpa using c1) (no (.inl c1))
  refine Bm.neg (by simp [c1]) (LdI.mk om1 rfl ?_)
  show syncm_Sync_Step.B5 (some ⟨s, 0, none⟩) m0 m.fr none 0 0 Y.L.last (m.term != Y.e.term) w1 R
  by_cases c2 : m.term = Y.e.term
  rotate_left
  · rw [show (m.term != Y.e.term) = true by simpa using c2]
    exact no (.inr c2)
  rw [show (m.term != Y.e.term) = false by simpa using c2]
  simp only [if_neg (show ¬ (Y.e.role ≠ 2 ∨ m.term ≠ Y.e.term) by simp [c1, c2])] at hR
  have hfr2 := hm.fr
  obtain ⟨p, hp⟩ := Int.eq_ofNat_of_zero_le hfr2.1
  have hpt : m.fr.toNat = p := by omega
  rw [hpt] at hR
  have ix : (0 : Int) ≤ (p : Int) ∧ (p : Int) < ((3 : Nat) : Int) := ⟨by omega, by omega⟩
  have hp3 : p < 3 := by omega
  have hpi : (p : Int) ≠ Y.e.id := by rw [← hp]; exact hfr
  have bk := hY.bk c1
  have a := bk.all p hp3 hpi
  rw [hp]
  unfold syncm_Sync_Step.B5
  refine Bm.neg rfl (LdB.mk om1 rfl ?_)
  -- the message of one peer, and out
  have one : ∀ {wb : World} {Y' : YS} {g : MsgV} {mb : Option Addr} {mc : Nat} {Sx : List LogS}, (∀ bo co E w', E.map (·.1) = [g] → ML w' bo E.length co w0.heap.size E → E.length ≤ 3 → Mv w0 s q e M0 L0 w' Y' Sx → ExtT ws w' MT → R bo E.length co w') → Mv w0 s q e M0 L0 wb Y' Sx → EA wb mb g.ents.length mc g.ents → (∀ k ∈ rowBlk mb, w0.heap.size ≤ k) → ExtT ws wb MT →
      (New (.cells #[.int .i64 0, .int .i64 0, .int .i64 0, .int .i64 0, .int .i64 0, .int .i64 0, .int .i64 0, .bool false, .slice none 0 0, .string (ByteArray.mk #[])] T_api_Msg) wb fun m0_ w2 =>
      Sts [.int .i64 g.kind, .int .i64 g.fr, .int .i64 g.to, .int .i64 g.term, .int .i64 g.idx, .int .i64 g.lt, .int .i64 g.cm, .bool g.ok, .slice mb g.ents.length mc, .string g.data] ⟨m0_, 0, none⟩ 0 w2 fun w3 =>
      LdI .i64 ⟨m0_, 0, none⟩ w3 fun x23_0 => LdI .i64 ⟨m0_, 1, none⟩ w3 fun x23_1 => LdI .i64 ⟨m0_, 2, none⟩ w3 fun x23_2 => LdI .i64 ⟨m0_, 3, none⟩ w3 fun x23_3 => LdI .i64 ⟨m0_, 4, none⟩ w3 fun x23_4 => LdI .i64 ⟨m0_, 5, none⟩ w3 fun x23_5 => LdI .i64 ⟨m0_, 6, none⟩ w3 fun x23_6 => LdB ⟨m0_, 7, none⟩ w3 fun x23_7 => LdL ⟨m0_, 8, none⟩ w3 fun x23_8_b x23_8_l x23_8_c => LdS ⟨m0_, 9, none⟩ w3 fun x23_9 =>
      New (.cells #[.int .i64 x23_0, .int .i64 x23_1, .int .i64 x23_2, .int .i64 x23_3, .int .i64 x23_4, .int .i64 x23_5, .int .i64 x23_6, .bool x23_7, .slice x23_8_b x23_8_l x23_8_c, .string x23_9] T_api_Msg) w3 fun b24 w4 =>
      Append T_api_Msg (.agg #[.int .i64 0, .int .i64 0, .int .i64 0, .int .i64 0, .int .i64 0, .int .i64 0, .int .i64 0, .bool false, .slice none 0 0, .string (ByteArray.mk #[])]) 10 104 none 0 0 (some ⟨b24, 0, none⟩) 1 w4 fun b' c' w5 => R b' (0 + 1) c' w5) := fun {wb Y' g mb mc Sx} hr hb he hg xb =>
    pushMsg (lo := w0.heap.size) (ML.nil wb _) he hg (fun y hy => by cases hy) (by omega) hb.sz fun b' c' w5 ml he5 hT => hr b' c' [(g, mb, mc)] w5 rfl ml (by simp) (hb.ext0 he5) (xb.trans (ExtT.nil he5 _))
  by_cases c3 : m.ok = true
  · simp only [if_pos c3] at hR
    have h1d := h1'.ext0 (Ext.drew [] w1)
    have om1d : Own w1.drew m0 (msgC m b ll c).toArray T_api_Msg := om1
    have X1d := X1.trans (ExtT.nil (Ext.drew [] w1) MT)
    refine Bm.pos c3 (LdI.mk om1d rfl (Pn.mk ⟨ix, h1d.own.ldMt hp3 ?_⟩))
    show Bm (decide (m.idx > Y.mt p)) _ _
    have nop : (m.idx ≤ Y.mt p ∨ Y.L.last < m.idx) → syncm_Sync_Step.B7 (some ⟨s, 0, none⟩) m0 (p : Int) none 0 0 Y.L.last false w1.drew R := fun hc => by
      unfold syncm_Sync_Step.B7
      have e1 : ackedF p m.idx Y = (Y, []) := by unfold ackedF; rw [if_pos hc]
      simp only [e1] at hR
      exact Bm.neg rfl (hR none 0 [] _ rfl (ML.nil _ _) (by simp) h1d X1d)
    by_cases c4 : m.idx > Y.mt p
    rotate_left
    · exact Bm.neg (decide_eq_false c4) (nop (.inl (by omega)))
    refine Bm.pos (decide_eq_true c4) (LdI.mk om1d rfl ?_)
    by_cases c5 : m.idx ≤ Y.L.last
    rotate_left
    · rw [show decide (m.idx ≤ Y.L.last) = false from decide_eq_false c5]
      exact nop (.inr (by omega))
    rw [show decide (m.idx ≤ Y.L.last) = true from decide_eq_true c5]
    have hno : ¬ (m.idx ≤ Y.mt p ∨ Y.L.last < m.idx) := by omega
    have e1 : ackedF p m.idx Y = (advF { Y with mt := upN Y.mt p m.idx, nx := if Y.nx p ≤ m.idx then upN Y.nx p (m.idx + 1) else Y.nx }, if (advF { Y with mt := upN Y.mt p m.idx, nx := if Y.nx p ≤ m.idx then upN Y.nx p (m.idx + 1) else Y.nx }).nx p ≤ (advF { Y with mt := upN Y.mt p m.idx, nx := if Y.nx p ≤ m.idx then upN Y.nx p (m.idx + 1) else Y.nx }).L.last then [sendF p (advF { Y with mt := upN Y.mt p m.idx, nx := if Y.nx p ≤ m.idx then upN Y.nx p (m.idx + 1) else Y.nx })] else []) := by
      unfold ackedF
      rw [if_neg hno]
    have hbk := book_acked bk hp3 hidx.1 hno hpi
    simp only [e1] at hR
    generalize hY1 : ({ Y with mt := upN Y.mt p m.idx, nx := if Y.nx p ≤ m.idx then upN Y.nx p (m.idx + 1) else Y.nx } : YS) = Y1 at hR hbk
    have eL : Y1.L = Y.L := by rw [← hY1]
    have ee : Y1.e = Y.e := by rw [← hY1]
    have b9 : ∀ {w2 : World}, Mv w0 s q e M0 L0 w2 Y1 [] → ExtT ws w2 MT → syncm_Sync_Step.B9 (some ⟨s, 0, none⟩) (p : Int) none 0 0 Y.L.last w2 R := fun {w2} h2 x2 => by
      unfold syncm_Sync_Step.B9
      refine madvance_ok h2 hbk fun w3 h3 x3 => Pn.mk ⟨ix, h3.own.ldNx hp3 ?_⟩
      show Bm (decide ((advF Y1).nx p ≤ Y.L.last)) _ _
      have eLL : (advF Y1).L.last = Y.L.last := by show Y1.L.last = _; rw [eL]
      rw [eLL] at hR
      by_cases c : (advF Y1).nx p ≤ Y.L.last
      · rw [if_pos c] at hR
        have a2 := (book_adv hbk).all p hp3 (by show (p : Int) ≠ Y1.e.id; rw [ee]; exact hpi)
        have hz2 := h2.sz
        have hz3 := h3.sz
        exact Bm.pos (decide_eq_true c) (msend_ok h3 hp3 ⟨by omega, a2.2.2⟩ fun mb mc w4 he4 hg4 h4 Ex4 => one hR h4 he4 (fun k hk => by have := hg4 k hk; omega) ((x2.trans x3).trans (ExtT.nil Ex4 _)))
      · rw [if_neg c] at hR
        exact Bm.neg (decide_eq_false c) (hR none 0 [] w3 rfl (ML.nil _ _) (by simp) h3 (x2.trans x3))
    unfold syncm_Sync_Step.B7
    have h1dd := h1d.ext0 (Ext.drew [] w1.drew)
    have om1dd : Own w1.drew.drew m0 (msgC m b ll c).toArray T_api_Msg := om1
    have X1dd := X1d.trans (ExtT.nil (Ext.drew [] w1.drew) MT)
    refine Bm.pos rfl (LdI.mk om1dd rfl (Pn.mk ⟨ix, h1dd.own.stMt hp3 fun w2 hs2 o2 he2 => ?_⟩))
    obtain ⟨h2, x2⟩ := h1dd.st (Y' := { Y with mt := upN Y.mt p m.idx }) o2 he2 rfl rfl rfl
    have om2 : Own w2.drew m0 (msgC m b ll c).toArray T_api_Msg := x2.own om1dd (by decide)
    have h2d := h2.ext0 (Ext.drew [] w2)
    have X2d := (X1dd.trans x2).trans (ExtT.nil (Ext.drew [] w2) MT)
    refine Pn.mk ⟨ix, h2d.own.ldNx hp3 (LdI.mk om2 rfl ?_)⟩
    show Bm (decide (Y.nx p ≤ m.idx)) _ _
    by_cases cn : Y.nx p ≤ m.idx
    · have om2d : Own w2.drew.drew m0 (msgC m b ll c).toArray T_api_Msg := om2
      have h2dd := h2d.ext0 (Ext.drew [] w2.drew)
      refine Bm.pos (decide_eq_true cn) (LdI.mk om2d rfl (Pn.mk ⟨ix, ?_⟩))
      rw [w64 (by omega) (by omega)]
      refine h2dd.own.stNx hp3 fun w3 hs3 o3 he3 => ?_
      obtain ⟨h3, x3⟩ := h2dd.st (Y' := Y1) o3 he3 (by rw [eL]) (by rw [ee]) (by rw [← hY1, if_pos cn]; rfl)
      exact b9 h3 ((X2d.trans (ExtT.nil (Ext.drew [] w2.drew) MT)).trans x3)
    · refine Bm.neg (decide_eq_false cn) (b9 ?_ X2d)
      rw [← hY1, if_neg cn]
      exact h2d
  · simp only [if_neg c3] at hR
    have b8 : ∀ n : Int, n = refN p m.idx Y → syncm_Sync_Step.B8 (some ⟨s, 0, none⟩) (p : Int) none 0 0 n w1 R := fun n hn => by
      unfold syncm_Sync_Step.B8
      refine Pn.mk ⟨ix, h1'.own.ldNx hp3 ?_⟩
      show Bm (decide (n < Y.nx p)) _ _
      unfold refusedF at hR
      rw [← hn] at hR
      by_cases cn : n < Y.nx p
      · simp only [if_pos cn] at hR
        refine Bm.pos (decide_eq_true cn) (Pn.mk ⟨ix, h1'.own.stNx hp3 fun w2 hs2 o2 he2 => ?_⟩)
        obtain ⟨h2, x2⟩ := h1'.st (Y' := { Y with nx := upN Y.nx p n }) o2 he2 rfl rfl rfl
        have hz2 := h2.sz
        refine msend_ok h2 hp3 ?_ fun mb mc w4 he4 hg4 h4 Ex4 => one hR h4 he4 (fun k hk => by have := hg4 k hk; omega) ((X1.trans x2).trans (ExtT.nil Ex4 _))
        show 0 ≤ upN Y.nx p n p ∧ upN Y.nx p n p ≤ Y.L.last + 1
        rw [upN_eq]
        unfold refN at hn
        split at hn <;> omega
      · simp only [if_neg cn] at hR
        exact Bm.neg (decide_eq_false cn) (hR none 0 [] w1 rfl (ML.nil _ _) (by simp) h1' X1)
    refine Bm.neg (by simpa using c3) (LdI.mk om1 rfl (Pn.mk ⟨ix, h1'.own.ldMt hp3 ?_⟩))
    rw [w64 (x := m.idx + 1) (by omega) (by omega)]
    show Bm (decide (m.idx + 1 ≤ Y.mt p)) _ _
    by_cases cr : m.idx + 1 ≤ Y.mt p
    · refine Bm.pos (decide_eq_true cr) (Pn.mk ⟨ix, h1'.own.ldMt hp3 ?_⟩)
      show syncm_Sync_Step.B8 (some ⟨s, 0, none⟩) (p : Int) none 0 0 (IntKind.i64.wrap (Y.mt p + 1)) w1 R
      rw [w64 (by omega) (by omega)]
      exact b8 _ (by unfold refN; rw [if_pos cr])
    · exact Bm.neg (decide_eq_false cr) (b8 _ (by unfold refN; rw [if_neg cr]))
end
end Go.Proofs.Qxb6500430aGreat
