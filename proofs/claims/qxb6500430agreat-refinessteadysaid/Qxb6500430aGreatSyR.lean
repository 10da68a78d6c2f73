/-
  sync: the model's Step, Tick, Propose, Compact; the model at rest; its looks.
-/
import Derived.Test.Qxb6500430aGreatSyQ
set_option linter.unusedVariables false
set_option linter.unusedSimpArgs false
open Go.Vc
namespace Go.Proofs.Qxb6500430aGreat
section
variable {w0 w w' : World} {s q e : Nat} {M0 M M' : MSt} {L0 : LogS} {Y : YS} {S T : List LogS} {m : MsgV} {b : Option Addr} {ll c m0 re : Nat}
theorem mstep_ok {R : RL} (h : Mv w0 s q e M0 L0 w Y []) (hY : YsOk Y) (hE : EA w b ll c m.ents) (hll : ll ≤ 1000) (hH : M0.H.length ≤ 50)
    (hR : ∀ bo co E w', E.map (·.1) = (stepY m Y).G → ML w' bo E.length co w0.heap.size E → E.length ≤ 3 → Mv w0 s q e M0 L0 w' (stepY m Y).Y (stepY m Y).S → ExtT w w' MT → R bo E.length co w') : syncm_Sync_Step.Call (some ⟨s, 0, none⟩) m.kind m.fr m.to m.term m.idx m.lt m.cm m.ok b ll c m.data w R := by
  apply syncm_Sync_Step.sound
  unfold syncm_Sync_Step.B0
  have hlast : Y.L.base + (Y.L.ents.length : Int) ≤ 72057594037927936 := h.ok.last
  have hbase := h.ok.base
  have hl9 : Y.L.last = Y.L.base + (Y.L.ents.length : Int) := rfl
  refine New.mk fun m0 w1 e1 s1 o1 he1 => ?_
  have om : Own w1.drew m0 (msgC m b ll c).toArray T_api_Msg := o1
  have E1 : Ext [] w w1.drew := he1.trans (Ext.drew _ _)
  have h1 := h.ext0 E1
  refine Pn.mk (h1.own.ldE (LdI.mk om rfl (El.modId_ok h1.el ⟨om.cell rfl, ldMsg om (msgOK_ok (hE.ext0 E1) hll fun w3 he3 => ?_)⟩)))
  have E3 := E1.trans he3
  have h3 := h.ext0 E3
  have om3 := he3.own om (by simp)
  have hE3 := hE.ext0 E3
  have x3 : ExtT w w3 MT := ExtT.nil E3 _
  unfold stepY at hR
  have none_ : (msgB m = false ∨ m.to ≠ Y.e.id ∨ m.fr = Y.e.id) → syncm_Sync_Step.B1 (some ⟨s, 0, none⟩) m0 Y.e.id m.fr true w3 R := fun hc => by
    unfold syncm_Sync_Step.B1
    rw [if_pos hc] at hR
    exact Bm.pos rfl (hR none 0 [] w3 rfl (ML.nil _ _) (by simp) h3 x3)
  by_cases c1 : msgB m = true
  rotate_left
  · have c1' : msgB m = false := by simpa using c1
    exact Bm.pos (by simp [c1']) (none_ (.inl c1'))
  have hm := (msgB_iff m).1 c1
  refine Bm.neg (by simp [c1]) (LdI.mk om3 rfl ?_)
  show Bm (m.to != Y.e.id) _ _
  by_cases c2 : m.to = Y.e.id
  rotate_left
  · exact Bm.pos (by simpa using c2) (none_ (.inr (.inl c2)))
  refine Bm.neg (by simpa using c2) ?_
  show syncm_Sync_Step.B1 (some ⟨s, 0, none⟩) m0 Y.e.id m.fr (m.fr == Y.e.id) w3 R
  by_cases c3 : m.fr = Y.e.id
  · rw [show (m.fr == Y.e.id) = true by simpa using c3]
    exact none_ (.inr (.inr c3))
  rw [show (m.fr == Y.e.id) = false by simpa using c3]
  rw [if_neg (by simp [c1, c2, c3])] at hR
  unfold syncm_Sync_Step.B1
  refine Bm.neg rfl (NewSet.mk rfl rfl fun re w4 hre hs4 ore he4 => ?_)
  have E4 := E3.trans he4
  have h4 := h.ext0 E4
  have hz3 := E3.size
  have hsz := h.sz
  have hre' : w.heap.size ≤ re := by omega
  refine h4.cLast ?_
  have E4d : Ext [] w w4.drew := E4.trans (Ext.drew _ _)
  have h4d := h.ext0 E4d
  have X4d : ExtT w w4.drew MT := ExtT.nil E4d _
  have om4 : Own w4.drew m0 (msgC m b ll c).toArray T_api_Msg := he4.own om3 (by simp)
  have ore4 : Own w4.drew re (msgC ⟨4, Y.e.id, m.fr, 0, 0, 0, 0, false, [], estr⟩ none 0 0).toArray T_api_Msg := ore
  have hE4 := hE.ext0 E4d
  have hm0re : m0 ≠ re := by have := om3.lt; omega
  refine LdI.mk om4 rfl ?_
  by_cases k1 : m.kind = 1
  · rw [if_pos k1] at hR
    refine Bm.pos (by simpa using k1) (h4d.cTermAt (by omega) fun w5 he5 => ?_)
    have h5 := h4d.ext0 he5
    have om5 := he5.own om4 (by simp)
    have ore5 := he5.own ore4 (by simp)
    have X5 := X4d.trans (ExtT.nil he5 MT)
    have b2 := fun up hup => mB2_ok h5 X5 hsz om5 ore5 hre' hH hR up hup
    refine LdI.mk om5 rfl ?_
    show Bm (decide (m.lt > Y.lastT)) _ _
    by_cases d1 : m.lt > Y.lastT
    · exact Bm.pos (decide_eq_true d1) (b2 true (by rw [decide_eq_true (show Y.lastT < m.lt from d1)]; rfl))
    · refine Bm.neg (decide_eq_false d1) (LdI.mk om5 rfl ?_)
      show Bm (m.lt == Y.lastT) _ _
      have f1 : decide (Y.lastT < m.lt) = false := decide_eq_false d1
      by_cases d2 : m.lt = Y.lastT
      · refine Bm.pos (by simpa using d2) (LdI.mk om5 rfl (b2 _ ?_))
        rw [f1, decide_eq_true d2]
        rfl
      · refine Bm.neg (by simpa using d2) (b2 false ?_)
        rw [f1, decide_eq_false d2]
        rfl
  rw [if_neg k1] at hR
  refine Bm.neg (by simpa using k1) ?_
  by_cases k2 : m.kind = 2
  · rw [if_pos k2] at hR
    exact Bm.pos (by simpa using k2) (mvote_ok h4d hY.e X4d hsz om4 hH hR)
  rw [if_neg k2] at hR
  refine Bm.neg (by simpa using k2) ?_
  by_cases k3 : m.kind = 3
  · rw [if_pos k3] at hR
    refine Bm.pos (by simpa using k3) (mheard_ok h4d X4d om4 hH fun w6 h6 x6 => ?_)
    have om6 := x6.own om4 (by decide)
    have ore6 := x6.own ore4 (by decide)
    have X6 := X4d.trans x6
    have hE6 : EA w6 b ll c m.ents := x6.row hE4 (by decide)
    have hpl := persS_len { Y with e := (El.heardF Y.e m.fr m.term).2 }
    have hid : Y.e.id = (persF { Y with e := (El.heardF Y.e m.fr m.term).2 }).e.id := (heard_keep (s := Y.e) (f := m.fr) (t := m.term)).1.symm
    unfold entsY at hR
    by_cases cw : (El.heardF Y.e m.fr m.term).1 = true
    · simp only [if_pos cw] at hR
      refine Bm.pos cw (ldMsg om6 (maccept_ok h6 hE6 hm (by omega) fun w7 h7 x7 => ?_))
      have ore7 := x7.own ore6 (by decide)
      refine Sts.mk ore7 (by simp [msgC]) rfl fun w8 hs8 o8 he8 => Sts.mk o8 (by rw [size_putArr]; simp [msgC]) rfl fun w9 hs9 o9 he9 => ?_
      have h9 := (h7.loc ore7 he8 (by omega)).loc o8 he9 (by omega)
      have hid7 : Y.e.id = (acceptF m (persF { Y with e := (El.heardF Y.e m.fr m.term).2 })).2.1.e.id := by
        rw [hid]
        unfold acceptF
        repeat' split
        all_goals rfl
      exact (mB3_ok (k := 4) (i := (acceptF m (persF { Y with e := (El.heardF Y.e m.fr m.term).2 })).1.2) (ok := (acceptF m (persF { Y with e := (El.heardF Y.e m.fr m.term).2 })).1.1) h9 (extFresh (extFresh (X6.trans x7) he8 hre') he9 hre') hsz o9 hid7 hre' fun bo co E w' hE ml hl hm hx => hR bo co E w' hE ml hl hm hx).1
    · simp only [if_neg cw] at hR
      exact Bm.neg (by simpa using cw) (mB3_ok (k := 4) (i := 0) (ok := false) h6 X6 hsz ore6 hid hre' fun bo co E w' hE ml hl hm hx => hR bo co E w' hE ml hl hm hx).1
  rw [if_neg k3] at hR
  refine Bm.neg (by simpa using k3) ?_
  by_cases k5 : m.kind = 5
  · rw [if_pos k5] at hR
    refine Bm.pos (by simpa using k5) (mheard_ok h4d X4d om4 hH fun w6 h6 x6 => ?_)
    have om6 : Own w6.drew m0 (msgC m b ll c).toArray T_api_Msg := x6.own om4 (by decide)
    have ore6 : Own w6.drew re (msgC ⟨4, Y.e.id, m.fr, 0, 0, 0, 0, false, [], estr⟩ none 0 0).toArray T_api_Msg := x6.own ore4 (by decide)
    have h6d := h6.ext0 (Ext.drew [] w6)
    have X6 := (X4d.trans x6).trans (ExtT.nil (Ext.drew [] w6) MT)
    have hpl := persS_len { Y with e := (El.heardF Y.e m.fr m.term).2 }
    have hid : Y.e.id = (persF { Y with e := (El.heardF Y.e m.fr m.term).2 }).e.id := (heard_keep (s := Y.e) (f := m.fr) (t := m.term)).1.symm
    rw [hid] at ore6
    have b4 := mB4_ok (Y0 := Y) (ok := (El.heardF Y.e m.fr m.term).1) h6d X6 hsz om6 ore6 hre' hm0re (by omega) (R := R) fun bo co E w' hE ml hl hm' hx => hR bo co E w' (by
      rw [hE]
      unfold snapY
      simp only []
      split
      · split
        · rfl
        · split <;> rfl
      · rfl) ml hl (by
      unfold snapY
      simp only []
      split
      · rename_i q1
        simp only [if_pos q1] at hm'
        split
        · rename_i q2
          simp only [if_pos q2] at hm'
          exact hm'
        · rename_i q2
          simp only [if_neg q2] at hm'
          split
          · rename_i q3
            simp only [if_pos q3] at hm'
            exact hm'
          · rename_i q3
            simp only [if_neg q3] at hm'
            exact hm'
      · rename_i q1
        simp only [if_neg q1] at hm'
        exact hm') hx
    by_cases cw : (El.heardF Y.e m.fr m.term).1 = true
    · refine Bm.pos cw (LdI.mk om6 rfl (Pn.mk (h6d.own.ldC (b4 _ ?_))))
      show decide (m.idx ≤ (persF { Y with e := (El.heardF Y.e m.fr m.term).2 }).cm) = true ↔ _
      simp [cw]
    · exact Bm.neg (by simpa using cw) (b4 false (by simp [cw]))
  rw [if_neg k5] at hR
  refine Bm.neg (by simpa using k5) ?_
  have hkd := hm.kind
  have k4 : m.kind = 4 := by omega
  exact Bm.pos (by simpa using k4) (mack_ok h4d hY hm c3 X4d hsz om4 hH hR)
theorem mtick_ok {R : RL} (h : Mv w0 s q e M0 L0 w Y []) (hY : YsOk Y) (hH : M0.H.length ≤ 50)
    (hR : ∀ bo co E w', E.map (·.1) = (tickY Y).G → ML w' bo E.length co w0.heap.size E → E.length ≤ 3 → Mv w0 s q e M0 L0 w' (tickY Y).Y (tickY Y).S → ExtT w w' MT → R bo E.length co w') : syncm_Sync_Tick.Call (some ⟨s, 0, none⟩) w R := by
  apply syncm_Sync_Tick.sound
  unfold syncm_Sync_Tick.B0
  have hsz := h.sz
  refine Pn.mk (h.own.ldE (El.modTick_ok h.el hY.e fun w1 el1 he1 => ?_))
  obtain ⟨h1, x1⟩ := h.turn el1 he1
  refine mpersist_ok h1 (by simp; omega) fun w2 h2 x2 => ?_
  have X2 := x1.trans x2
  unfold tickY at hR
  have h2' : Mv w0 s q e M0 L0 w2 (persF { Y with e := (El.tickF Y.e).2 }) (persS { Y with e := (El.tickF Y.e).2 }) := h2
  by_cases a2 : (El.tickF Y.e).1 = 2
  · simp only [if_pos a2, if_neg (show ¬ ((El.tickF Y.e).1 = 1) by omega), List.append_nil] at hR
    obtain ⟨r2, es⟩ := tick2 a2
    have hz := X2.size
    refine Bm.pos (by simpa using a2) (msendAll_ok h2' (fun p hp hpi => ?_) fun bo co E w3 hE ml h3 he3 => hR bo co E w3 hE ⟨ml.row, ⟨ml.bd.dat, ml.bd.apart, fun x hx k hk => by have := ml.bd.ge x hx k hk; omega⟩, fun k hk => by have := ml.blk k hk; omega⟩ ?_ h3 (X2.trans (ExtT.nil he3 _)))
    · have hid : (persF { Y with e := (El.tickF Y.e).2 }).e.id = Y.e.id := by show (El.tickF Y.e).2.id = _; rw [es]
      rw [hid] at hpi
      have a := hY.book r2 p hp hpi
      rw [persF_last]
      show 0 ≤ Y.nx p ∧ Y.nx p ≤ Y.L.last + 1
      omega
    · have e1 := congrArg List.length hE
      rw [List.length_map] at e1
      unfold sendAllF at e1
      rw [e1]
      exact perPeer_len _ _ 3
  · simp only [if_neg a2, List.nil_append] at hR
    refine Bm.neg (by simpa using a2) ?_
    by_cases a1 : (El.tickF Y.e).1 = 1
    rotate_left
    · simp only [if_neg a1] at hR
      exact Bm.neg (by simpa using a1) (hR none 0 [] w2 rfl (ML.nil _ _) (by simp) h2' X2)
    simp only [if_pos a1] at hR
    generalize hY1 : ({ Y with e := (El.tickF Y.e).2 } : YS) = Y1 at *
    generalize hY2 : persF Y1 = Y2 at *
    have hlast : Y2.L.base + (Y2.L.ents.length : Int) ≤ 72057594037927936 := h2'.ok.last
    have hbase := h2'.ok.base
    have hl9 : Y2.L.last = Y2.L.base + (Y2.L.ents.length : Int) := rfl
    refine Bm.pos (by simpa using a1) (h2'.eId (h2'.eTerm (h2'.cLast ((h2'.ext0 (Ext.drew [] w2)).cTermAt (by omega) fun w3 he3 => ?_))))
    have E3 : Ext [] w2 w3 := (Ext.drew [] w2).trans he3
    have h3 := h2'.ext0 E3
    have X3 := X2.trans (ExtT.nil E3 MT)
    unfold syncm_Sync_Tick.L1
    refine ⟨fun mm ob ol oc i' tm' la' lt' p w' => ∃ (n : Nat) (E : List ME), n ≤ 3 ∧ mm = 3 - n ∧ Y2.e.id = i' ∧ Y2.e.term = tm' ∧ Y2.L.last = la' ∧ (termL Y2.L Y2.L.last).1 = lt' ∧ p = (n : Int) ∧ ol = E.length ∧ E.map (·.1) = perPeer Y2 (askM Y2) n ∧ ML w' ob ol oc w0.heap.size E ∧ Mv w0 s q e M0 L0 w' Y2 (persS Y1) ∧ ExtT w w' MT ∧ (∀ k ∈ rowBlk ob, w.heap.size ≤ k), _, ⟨0, [], by omega, rfl, rfl, rfl, rfl, rfl, rfl, rfl, rfl, ML.nil _ _, h3, X3, fun k hk => (by cases hk)⟩, ?_⟩
    rintro mm ob ol oc i' tm' la' lt' p wa ⟨n, E, hn, rfl, rfl, rfl, rfl, rfl, rfl, rfl, hE, ml, ha, xa, hob⟩
    have hl : E.length ≤ n := by
      have := perPeer_len Y2 (askM Y2) n
      rw [← hE, List.length_map] at this
      exact this
    unfold syncm_Sync_Tick.L1b syncm_Sync_Tick.B1
    refine Bm.ite (fun hlt => ?_) fun hge => ?_
    · by_cases c : (n : Int) = Y2.e.id
      · refine Bm.neg (by simpa using c) ⟨3 - (n + 1), by omega, n + 1, E, by omega, rfl, rfl, rfl, rfl, rfl, by rw [w64 (by omega) (by omega)]; omega, rfl, ?_, ml, ha, xa, hob⟩
        show _ = perPeer Y2 _ n ++ _
        rw [if_pos c, List.append_nil]
        exact hE
      · refine Bm.pos (by simpa using c) (New.mk fun nb wb hnb hsb onb heb => ?_)
        have on : Own wb nb (meC (askM Y2 n, none, 0)).toArray T_api_Msg := onb
        have hb := ha.ext0 heb
        have hza := xa.size
        have mlb := ml.ext0 heb
        -- the row may move: its block is the old one or fresh
        refine Vc.Append.mk (e := T_api_Msg) (news := meC (askM Y2 n, none, 0)) mlb.row (CellsAt.own on (fun j v hj => by simpa [meC, msgC] using hj)) rfl rfl rfl (by omega) (by omega) fun b' c' wc hr hec hbc => ?_
        have hT := Tys.row mlb.row
        refine ⟨3 - (n + 1), by omega, n + 1, E ++ [(askM Y2 n, none, 0)], by omega, rfl, rfl, rfl, rfl, rfl, by rw [w64 (by omega) (by omega)]; omega, by simp, ?_, ⟨by rw [List.flatMap_append]; simpa using hr, ⟨fun y hy => ?_, List.pairwise_append.2 ⟨ml.bd.apart, List.pairwise_singleton _ _, fun y hy z hz k hk hk2 => ?_⟩, fun y hy k hk => ?_⟩, fun k hk => ?_⟩, hb.other hec hT (fun q hq => by simp at hq; subst hq; decide) (fun y hy => ml.blk y hy), ?_, fun k hk => ?_⟩
        · show _ = perPeer Y2 _ n ++ _
          rw [if_neg c, List.map_append, hE]
          rfl
        · rcases List.mem_append.1 hy with z | z
          · exact rowT (mlb.bd.dat y z) hec hT (by decide)
          · simp at z
            subst z
            exact EA.nil _
        · simp at hz
          subst hz
          cases hk2
        · rcases List.mem_append.1 hy with z | z
          · exact ml.bd.ge y z k hk
          · simp at z
            subst z
            cases hk
        · rcases hbc k hk with z | z
          · exact ml.blk k z
          · omega
        · obtain ⟨Z, hz, hzt⟩ := xa
          exact ⟨Z, (hz.trans heb.nil).trans' hec (fun y hy hlt => by have := hob y hy; omega), hzt⟩
        · rcases hbc k hk with z | z
          · exact hob k z
          · omega
    · have : n = 3 := by omega
      subst this
      exact hR ob oc E wa hE ml hl ha xa
theorem mpropose_ok {dd : ByteArray} {R : Int → Int → World → Prop} (h : Mv w0 s q e M0 L0 w Y []) (hH : M0.H.length ≤ 50)
    (hR : ∀ w', Mv w0 s q e M0 L0 w' (proposeY dd Y).2.Y (proposeY dd Y).2.S → ExtT w w' MT → R (proposeY dd Y).1.1 (proposeY dd Y).1.2 w') : syncm_Sync_Propose.Call (some ⟨s, 0, none⟩) dd w R := by
  apply syncm_Sync_Propose.sound
  unfold syncm_Sync_Propose.B0
  unfold proposeY at hR
  refine h.eRole ?_
  by_cases c1 : Y.e.role = 2
  rotate_left
  · simp only [if_pos c1] at hR
    exact Bm.pos (by simpa using c1) (hR w h (ExtT.refl _ _))
  simp only [if_neg (show ¬ (Y.e.role ≠ 2) by simp [c1])] at hR
  refine Bm.neg (by simp [c1]) (Bm.ite (fun c2 => ?_) fun c2 => ?_)
  · simp only [if_pos (show 24 < dd.size by omega)] at hR
    exact hR w h (ExtT.refl _ _)
  simp only [if_neg (show ¬ (24 < dd.size) by omega)] at hR
  refine h.eTerm ?_
  have hh := h
  obtain ⟨Mb, hx⟩ := h
  refine Pn.mk (hx.own.ldL (mAppend_ok hx.md hx.A hx.ok (by rw [hx.len]; simp; omega) fun M2 w1 d1 => ?_))
  obtain ⟨h1, x1⟩ := hh.did hx d1 (ok_append hx.ok)
  by_cases c3 : (appendS Y.e.term dd Y.L).1 = 0
  · simp only [if_neg (show ¬ ((appendS Y.e.term dd Y.L).1 ≠ 0) by simp [c3])] at hR
    exact Bm.neg (by simp [c3]) (h1.cLast (hR _ (h1.ext0 (Ext.drew [] w1)) (x1.trans (ExtT.nil (Ext.drew [] w1) _))))
  · simp only [if_pos c3] at hR
    have en := append_err c3
    rw [en] at h1
    exact Bm.pos (by simpa using c3) (hR w1 h1 x1)
theorem mcompactS_ok {u : Int} {sn : ByteArray} {S0 : List LogS} {R : Int → World → Prop} (h : Mv w0 s q e M0 L0 w Y S0) (hH : M0.H.length + S0.length ≤ 300)
    (hR : ∀ w', Mv w0 s q e M0 L0 w' (compactY u sn Y).2.Y (S0 ++ (compactY u sn Y).2.S) → ExtT w w' MT → R (compactY u sn Y).1 w') : syncm_Sync_Compact.Call (some ⟨s, 0, none⟩) u sn w R := by
  apply syncm_Sync_Compact.sound
  unfold syncm_Sync_Compact.B0
  unfold compactY at hR
  refine Pn.mk (h.own.ldC ?_)
  show Bm (decide (u > Y.cm)) _ _
  by_cases c1 : u > Y.cm
  · simp only [if_pos (show Y.cm < u from c1)] at hR
    exact Bm.pos (decide_eq_true c1) (hR w (by simpa using h) (ExtT.refl _ _))
  simp only [if_neg (show ¬ (Y.cm < u) from c1)] at hR
  have hh := h
  obtain ⟨Mb, hx⟩ := h
  refine Bm.neg (decide_eq_false c1) (Pn.mk (hx.own.ldL (mCompact_ok hx.md hx.A hx.ok (by rw [hx.len]; omega) fun M2 w1 d1 => ?_)))
  obtain ⟨h1, x1⟩ := hh.did hx d1 (ok_compact hx.ok)
  exact hR w1 h1 x1
theorem mcompact_ok {u : Int} {sn : ByteArray} {R : Int → World → Prop} (h : Mv w0 s q e M0 L0 w Y []) (hH : M0.H.length ≤ 50)
    (hR : ∀ w', Mv w0 s q e M0 L0 w' (compactY u sn Y).2.Y (compactY u sn Y).2.S → ExtT w w' MT → R (compactY u sn Y).1 w') : syncm_Sync_Compact.Call (some ⟨s, 0, none⟩) u sn w R :=
  mcompactS_ok h (by simp; omega) hR
end
/-! ### at rest -/
structure MRest (w : World) (s q e : Nat) (M : MSt) (Y : YS) : Prop where
  own : SmAt w s (smX q e Y)
  el : El.ModAt w e Y.e
  md : MdAt w q M
  A : M.A = gs Y.L
section
variable {w w' : World} {s q e : Nat} {M : MSt} {Y : YS} {L : LogS}
theorem MRest.mv (h : MRest w s q e M Y) (hk : LogOk Y.L) : Mv w s q e M Y.L w Y [] :=
  ⟨M, h.own, rfl, rfl, h.el, h.md, h.A, rfl, by simp, Grew.refl _ _, rfl, hk, Ext.refl _ _⟩
theorem MRest.ext0 (h : MRest w s q e M Y) (he : Ext [] w w') : MRest w' s q e M Y := ⟨he.own h.own (by simp), he.own h.el (by simp), h.md.ext0 he, h.A⟩
theorem Mv.rest {w0 : World} {M0 : MSt} {L0 : LogS} {S : List LogS} (h : Mv w0 s q e M0 L0 w Y S) : ∃ M, MRest w s q e M Y ∧ M.A0 = M0.A0 ∧ M.H.map (·.2) = M0.H.map (·.2) ++ S.map gs ∧ Grew w0 (M0.foot q) (M.foot q) ∧ Ext (s :: e :: M0.foot q) w0 w := by
  obtain ⟨M, h⟩ := h
  exact ⟨M, ⟨h.own, h.el, h.md, h.A⟩, h.A0, h.H, h.grew, h.ext⟩
theorem mopen_ok {i : Int} {R : Option Addr → World → Prop} (h : MdAt w q M) (hA : M.A = gs L) (hk : LogOk L) (el : El.ModAt w e (El.newF i)) (hR : ∀ s w', w.heap.size ≤ s → MRest w' s q e M (openY i L) → Ext [e] w w' → R (some ⟨s, 0, none⟩) w') : syncm_open.Call (some ⟨q, 0, none⟩) (some ⟨e, 0, none⟩) w R := by
  apply syncm_open.sound
  unfold syncm_open.B0
  refine New.mk fun s w1 e1 s1 o1 he1 => ?_
  have h1 := h.ext0 he1
  have el1 : El.ModAt w1 e (El.newF i) := he1.own el (by simp)
  refine mTerm_ok h1 hA (mVote_ok h1 hA (El.modRestore_ok el1 fun w2 el2 he2 => ?_))
  have te := Tys.one el1
  have h2 := h1.extY he2 te (fun q hq => by simp at hq; subst hq; decide)
  have o2 := ownT he2 te o1 (by decide)
  refine mBase_ok h2 hA (Sts.mk o2 (by simp) rfl fun w3 hs3 o3 he3 => ?_)
  have ts := Tys.one o2
  have h3 := h2.extY he3 ts (fun q hq => by simp at hq; subst hq; decide)
  have el3 : El.ModAt w3 e _ := ownT he3 ts el2 (by decide)
  have oX : SmAt w3 s (smX q e (openY i L)) := by
    unfold SmAt
    rw [← fnArr_ext (f := smF (smX q e (openY i L))) (n := 9) (c := putArr #[.pointer (some ⟨q, 0, none⟩), .pointer (some ⟨e, 0, none⟩), .int .i64 0, .int .i64 0, .int .i64 0, .int .i64 0, .int .i64 0, .int .i64 0, .int .i64 0] 2 [.int .i64 L.base]) rfl (fun j hj => by
      have : j = 0 ∨ j = 1 ∨ j = 2 ∨ j = 3 ∨ j = 4 ∨ j = 5 ∨ j = 6 ∨ j = 7 ∨ j = 8 := by omega
      rcases this with rfl | rfl | rfl | rfl | rfl | rfl | rfl | rfl | rfl <;> rfl)]
    exact o3
  refine hR s w3 (by omega) ⟨oX, el3, h3, hA⟩ ?_
  exact ((he1.nil (T := [e])).trans he2).trans' he3 (fun y hy hl => by simp at hy; omega)
theorem mnew_ok {i : Int} {R : Option Addr → World → Prop} (hR : ∀ s q e M w', w.heap.size ≤ s → w.heap.size ≤ e → (∀ k ∈ M.foot q, w.heap.size ≤ k) → MRest w' s q e M (openY i L0) → M.A0 = gs L0 → M.H = [] → Ext [] w w' → R (some ⟨s, 0, none⟩) w') : syncm_New.Call i w R := by
  apply syncm_New.sound
  unfold syncm_New.B0
  refine mdNew_ok fun q M w1 hf hm hA hA0 hH he1 => El.modNew_ok fun e w2 he el he2 => mopen_ok (hm.ext0 he2) hA L0_ok el fun s w3 hs hr he3 => ?_
  have z1 := he1.size
  have z2 := he2.size
  refine hR s q e M w3 (by omega) (by omega) hf hr (by rw [hA0, hA]) hH ?_
  exact (he1.trans he2).trans' he3 (fun y hy hl => by simp at hy; omega)
theorem mmark_ok {R : World → Prop} (h : MRest w s q e M Y) (hR : ∀ M' w', MRest w' s q e M' Y → M'.A0 = gs Y.L → M'.H = [] → Grew w (M.foot q) (M'.foot q) → Ext [q] w w' → R w') : syncm_Sync_Mark.Call (some ⟨s, 0, none⟩) w R := by
  apply syncm_Sync_Mark.sound
  unfold syncm_Sync_Mark.B0
  refine Pn.mk (h.own.ldL (mdMark_ok h.md fun n w1 hn h1 he1 => ?_))
  have t1 := Tys.one h.md.own
  refine hR _ w1 ⟨ownT he1 t1 h.own (by decide), ownT he1 t1 h.el (by decide), h1, h.A⟩ h.A rfl (fun k hk => ?_) he1
  simp only [MSt.foot, rowBlk, List.mem_cons, List.not_mem_nil, or_false] at hk
  rcases hk with rfl | rfl
  · exact .inl (by simp [MSt.foot])
  · exact .inl (by simp [MSt.foot])
theorem msteps_ok {R : Int → World → Prop} (h : MRest w s q e M Y) (hR : R (M.H.length : Int) w) : syncm_Sync_Steps.Call (some ⟨s, 0, none⟩) w R := by
  apply syncm_Sync_Steps.sound
  unfold syncm_Sync_Steps.B0
  exact Pn.mk (h.own.ldL (mdSteps_ok h.md hR))
theorem mafter_ok {k : Int} {i : Int} {R : Option Addr → World → Prop} (h : MRest w s q e M Y) (hl : M.H.length ≤ 1000) (hA : M.at k = gs L) (hk : LogOk L) (hi : (El.newF i).id = (El.newF Y.e.id).id) (hR : ∀ s' q' e' M' w', w.heap.size ≤ s' → w.heap.size ≤ e' → (∀ x ∈ M'.foot q', w.heap.size ≤ x) → MRest w' s' q' e' M' (openY i L) → M'.A0 = gs L → M'.H = [] → Ext [] w w' → R (some ⟨s', 0, none⟩) w') : syncm_Sync_After.Call (some ⟨s, 0, none⟩) k w R := by
  apply syncm_Sync_After.sound
  unfold syncm_Sync_After.B0
  have ei : El.newF Y.e.id = El.newF i := by
    unfold El.newF at hi ⊢
    simp only at hi
    rw [hi]
  refine Pn.mk (h.own.ldL (mdAfter_ok h.md hl fun q' M' w1 hf hm hA1 hA0 hH he1 => ?_))
  have h1 := h.ext0 he1
  refine Pn.mk (h1.own.ldE (El.modId_ok h1.el (El.modNew_ok fun e' w2 he el he2 => ?_)))
  rw [ei] at el
  have z1 := he1.size
  have z2 := he2.size
  refine mopen_ok (hm.ext0 he2) (by rw [hA1, hA]) hk el fun s' w3 hs hr he3 => hR s' q' e' M' w3 (by omega) (by omega) hf hr (by rw [hA0, hA]) hH ?_
  exact (he1.trans he2).trans' he3 (fun y hy hl => by simp at hy; omega)
theorem mat_ok {i : Int} {R : Int → ByteArray → Int → World → Prop} (h : MRest w s q e M Y) (hk : LogOk Y.L) (hi : -9223372036854775808 ≤ i ∧ i ≤ 9223372036854775807) (hR : ∀ w', Ext [] w w' → R (atL Y.L i).1.1 (atL Y.L i).1.2 (atL Y.L i).2 w') : syncm_Sync_At.Call (some ⟨s, 0, none⟩) i w R := by
  apply syncm_Sync_At.sound
  unfold syncm_Sync_At.B0
  refine New.mk fun k w1 hk' hs1 o1 he1 => ((h.ext0 he1).mv hk).cAt hi fun w2 he2 => Sts.full (vs := [.int .i64 (atL Y.L i).1.1, .string (atL Y.L i).1.2]) (he2.own o1 (by simp)) rfl rfl fun w3 hs3 o3 he3 => LdI.mk o3 rfl (LdS.mk o3 rfl (hR w3 ?_))
  exact (he1.trans he2).trans' he3 (fun y hy hl => by simp at hy; omega)
theorem mtermAt_ok {i : Int} {R : Int → Int → World → Prop} (h : MRest w s q e M Y) (hk : LogOk Y.L) (hi : -9223372036854775808 ≤ i ∧ i ≤ 9223372036854775807) (hR : ∀ w', Ext [] w w' → R (termL Y.L i).1 (termL Y.L i).2 w') : syncm_Sync_TermAt.Call (some ⟨s, 0, none⟩) i w R := by
  apply syncm_Sync_TermAt.sound
  unfold syncm_Sync_TermAt.B0
  exact (h.mv hk).cTermAt hi fun w2 he2 => hR w2 he2
theorem mview_ok {R : Option Addr → World → Prop} (hr : MRest w s q e M Y) (hk : LogOk Y.L) (hR : ∀ k w', w.heap.size ≤ k → Own w' k (viewC Y) T_api_SyncView → Ext [] w w' → R (some ⟨k, 0, none⟩) w') : syncm_Sync_View.Call (some ⟨s, 0, none⟩) w R := by
  apply syncm_Sync_View.sound
  unfold syncm_Sync_View.B0
  have v := hr.mv hk
  refine New.mk fun k w1 hk' hs1 o1 he1 => ?_
  have v1 := v.ext0 he1
  have kg : w.heap.size ≤ k := by omega
  have loc : ∀ {wx wy : World} {cs : Array Value}, Mv w s q e M Y.L wx Y [] → Own wx k cs T_api_SyncView → Ext [k] wx wy → Mv w s q e M Y.L wy Y [] := fun h ho he => h.other he (Tys.one ho) (fun q hq => by simp at hq; subst hq; decide) (fun y hy => by simp at hy; omega)
  have o1' : Own w1 k (vc 0 0 0 0 0 0 false false false 0 0 0 0 estr 0 0 0 0 0 0) T_api_SyncView := o1
  refine v1.eId (stV (c' := vc Y.e.id 0 0 0 0 0 false false false 0 0 0 0 estr 0 0 0 0 0 0) o1' rfl (by rw [vc_size]; simp) rfl fun w2 o2 he2 => ?_)
  have v2 := loc v1 o1' he2
  refine v2.eTerm (stV (c' := vc Y.e.id Y.e.term 0 0 0 0 false false false 0 0 0 0 estr 0 0 0 0 0 0) o2 rfl (by rw [vc_size]; simp) rfl fun w3 o3 he3 => ?_)
  have v3 := loc v2 o2 he3
  refine v3.eVote (stV (c' := vc Y.e.id Y.e.term Y.e.vote 0 0 0 false false false 0 0 0 0 estr 0 0 0 0 0 0) o3 rfl (by rw [vc_size]; simp) rfl fun w4 o4 he4 => ?_)
  have v4 := loc v3 o3 he4
  refine v4.eRole (stV (c' := vc Y.e.id Y.e.term Y.e.vote Y.e.role 0 0 false false false 0 0 0 0 estr 0 0 0 0 0 0) o4 rfl (by rw [vc_size]; simp) rfl fun w5 o5 he5 => ?_)
  have v5 := loc v4 o4 he5
  refine v5.eLeader (stV (c' := vc Y.e.id Y.e.term Y.e.vote Y.e.role Y.e.leader 0 false false false 0 0 0 0 estr 0 0 0 0 0 0) o5 rfl (by rw [vc_size]; simp) rfl fun w6 o6 he6 => ?_)
  have v6 := loc v5 o5 he6
  refine v6.eClock (stV (c' := vc Y.e.id Y.e.term Y.e.vote Y.e.role Y.e.leader Y.e.clock false false false 0 0 0 0 estr 0 0 0 0 0 0) o6 rfl (by rw [vc_size]; simp) rfl fun w7 o7 he7 => ?_)
  have v7 := loc v6 o6 he7
  have E7 : Ext [k] w1 w7 := ((((he2.trans he3).trans he4).trans he5).trans he6).trans he7
  unfold syncm_Sync_View.L1
  refine ⟨fun m s' k' p w' => ∃ n : Nat, n ≤ 3 ∧ m = 3 - n ∧ some ⟨s, 0, none⟩ = s' ∧ k = k' ∧ p = (n : Int) ∧ Mv w s q e M Y.L w' Y [] ∧ Own w' k (vc Y.e.id Y.e.term Y.e.vote Y.e.role Y.e.leader Y.e.clock (if 0 < n then El.gotB Y.e 0 else false) (if 1 < n then El.gotB Y.e 1 else false) (if 2 < n then El.gotB Y.e 2 else false) 0 0 0 0 estr 0 0 0 0 0 0) T_api_SyncView ∧ Ext [k] w1 w', _, ⟨0, by omega, rfl, rfl, rfl, rfl, v7, o7, E7⟩, ?_⟩
  rintro m s' k' p wa ⟨n, hn, rfl, rfl, rfl, rfl, va, oa, Ea⟩
  unfold syncm_Sync_View.L1b
  refine Bm.ite (fun hlt => ?_) fun hge => ?_
  · have vad := va.ext0 (Ext.drew [] wa)
    have oad : Own wa.drew k _ _ := oa
    refine Pn.mk (vad.own.ldE (El.modGot_ok vad.el ⟨⟨by omega, by omega⟩, ?_⟩))
    have st : ∀ {c' : Array Value} {Q : World → Prop}, putArr (vc Y.e.id Y.e.term Y.e.vote Y.e.role Y.e.leader Y.e.clock (if 0 < n then El.gotB Y.e 0 else false) (if 1 < n then El.gotB Y.e 1 else false) (if 2 < n then El.gotB Y.e 2 else false) 0 0 0 0 estr 0 0 0 0 0 0) (6 + n) [.bool (El.gotB Y.e (n : Int))] = c' → (∀ wb, Own wb k c' T_api_SyncView → Ext [k] wa.drew wb → Q wb) → Sts [.bool (El.gotB Y.e (n : Int))] (Addr.add ⟨k, 6, none⟩ ((n : Int).toNat * 1)) 0 wa.drew Q := fun {c' Q} e1 hQ => by
      rw [add_mk, Int.toNat_natCast, Nat.mul_one]
      exact stV oad e1 (by rw [vc_size]; simp; omega) rfl fun wb ob heb => hQ wb ob heb
    have fin : ∀ {wb : World}, Own wb k (vc Y.e.id Y.e.term Y.e.vote Y.e.role Y.e.leader Y.e.clock (if 0 < n + 1 then El.gotB Y.e 0 else false) (if 1 < n + 1 then El.gotB Y.e 1 else false) (if 2 < n + 1 then El.gotB Y.e 2 else false) 0 0 0 0 estr 0 0 0 0 0 0) T_api_SyncView → Ext [k] wa.drew wb → Mv w s q e M Y.L wb Y [] ∧ Own wb k (vc Y.e.id Y.e.term Y.e.vote Y.e.role Y.e.leader Y.e.clock (if 0 < n + 1 then El.gotB Y.e 0 else false) (if 1 < n + 1 then El.gotB Y.e 1 else false) (if 2 < n + 1 then El.gotB Y.e 2 else false) 0 0 0 0 estr 0 0 0 0 0 0) T_api_SyncView ∧ Ext [k] w1 wb := fun {wb} ob heb =>
      ⟨loc vad oad heb, ob, (Ea.trans (Ext.drew _ _)).trans heb⟩
    have : n = 0 ∨ n = 1 ∨ n = 2 := by omega
    rcases this with rfl | rfl | rfl
    · exact st rfl fun wb ob heb => ⟨2, by omega, 1, by omega, rfl, rfl, rfl, by decide, fin ob heb⟩
    · exact st rfl fun wb ob heb => ⟨1, by omega, 2, by omega, rfl, rfl, rfl, by decide, fin ob heb⟩
    · exact st rfl fun wb ob heb => ⟨0, by omega, 3, by omega, rfl, rfl, rfl, by decide, fin ob heb⟩
  · have hn3 : n = 3 := by omega
    subst hn3
    have oa' : Own wa k (vc Y.e.id Y.e.term Y.e.vote Y.e.role Y.e.leader Y.e.clock (El.gotB Y.e 0) (El.gotB Y.e 1) (El.gotB Y.e 2) 0 0 0 0 estr 0 0 0 0 0 0) T_api_SyncView := oa
    refine Pn.mk (va.own.ldC (stV (c' := vc Y.e.id Y.e.term Y.e.vote Y.e.role Y.e.leader Y.e.clock (El.gotB Y.e 0) (El.gotB Y.e 1) (El.gotB Y.e 2) Y.cm 0 0 0 estr 0 0 0 0 0 0) oa' rfl (by rw [vc_size]; simp) rfl fun wb ob heb => ?_))
    have vb := loc va oa' heb
    refine vb.cBase (stV (c' := vc Y.e.id Y.e.term Y.e.vote Y.e.role Y.e.leader Y.e.clock (El.gotB Y.e 0) (El.gotB Y.e 1) (El.gotB Y.e 2) Y.cm Y.L.base 0 0 estr 0 0 0 0 0 0) ob rfl (by rw [vc_size]; simp) rfl fun wc oc hec => ?_)
    have v_c := loc vb ob hec
    refine v_c.cBaseTerm (stV (c' := vc Y.e.id Y.e.term Y.e.vote Y.e.role Y.e.leader Y.e.clock (El.gotB Y.e 0) (El.gotB Y.e 1) (El.gotB Y.e 2) Y.cm Y.L.base Y.L.bterm 0 estr 0 0 0 0 0 0) oc rfl (by rw [vc_size]; simp) rfl fun wd od hed => ?_)
    have vd := loc v_c oc hed
    have odd : Own wd.drew k _ _ := od
    refine vd.cLast (stV (c' := vc Y.e.id Y.e.term Y.e.vote Y.e.role Y.e.leader Y.e.clock (El.gotB Y.e 0) (El.gotB Y.e 1) (El.gotB Y.e 2) Y.cm Y.L.base Y.L.bterm Y.L.last estr 0 0 0 0 0 0) odd rfl (by rw [vc_size]; simp) rfl fun we oe hee => ?_)
    have ve := loc (vd.ext0 (Ext.drew [] wd)) odd hee
    refine ve.cSnap (stV (c' := vc Y.e.id Y.e.term Y.e.vote Y.e.role Y.e.leader Y.e.clock (El.gotB Y.e 0) (El.gotB Y.e 1) (El.gotB Y.e 2) Y.cm Y.L.base Y.L.bterm Y.L.last Y.L.snap 0 0 0 0 0 0) oe rfl (by rw [vc_size]; simp) rfl fun wf of hef => ?_)
    have vf := (loc ve oe hef).ext0 (Ext.drew [] wf)
    have ofd : Own wf.drew k _ _ := of
    refine Pn.mk (LdI.fn (o := 3) vf.own (by omega) rfl ?_)
    simp only [add_mk]
    refine LdI.fn vf.own (by omega) (smF_nx (p := 1) (by omega)) (LdI.fn vf.own (by omega) (smF_nx (p := 2) (by omega)) (Pn.mk (LdI.fn (o := 6) vf.own (by omega) rfl ?_)))
    simp only [add_mk]
    refine LdI.fn vf.own (by omega) (smF_mt (p := 1)) (LdI.fn vf.own (by omega) (smF_mt (p := 2)) (stV (c' := vc Y.e.id Y.e.term Y.e.vote Y.e.role Y.e.leader Y.e.clock (El.gotB Y.e 0) (El.gotB Y.e 1) (El.gotB Y.e 2) Y.cm Y.L.base Y.L.bterm Y.L.last Y.L.snap (Y.nx 0) (Y.nx 1) (Y.nx 2) 0 0 0) ofd rfl (by rw [vc_size]; simp) rfl fun wg og heg => ?_))
    refine stV (c' := viewC Y) og rfl (by rw [vc_size]; simp) rfl fun wh oh heh => hR k wh (by omega) oh ?_
    have E2 : Ext [k] w1 wh := (((((Ea.trans heb).trans hec).trans hed).trans ((Ext.drew _ _).trans hee)).trans hef).trans (((Ext.drew _ _).trans heg).trans heh)
    exact he1.trans' E2 (fun y hy hl => by simp at hy; omega)
end
end Go.Proofs.Qxb6500430aGreat
