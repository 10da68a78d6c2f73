/-
  sync: the model's accept.
-/
import Derived.Test.Qxb6500430aGreatSyO
set_option linter.unusedVariables false
set_option linter.unusedSimpArgs false
open Go.Vc
namespace Go.Proofs.Qxb6500430aGreat
theorem append_one {x : EntV} {L : LogS} (h : (appendS x.1 x.2 L).1 = 0) : (appendS x.1 x.2 L).2.length = 1 := by
  unfold appendS at h ⊢
  split
  · rename_i c; rw [if_pos c] at h; cases h
  · rename_i c
    rw [if_neg c] at h
    split
    · rename_i c2; rw [if_pos c2] at h; cases h
    · rfl
theorem apps_ok {x : EntV} {E : List EntV} {L : LogS} (h : (appendS x.1 x.2 L).1 = 0) : appsF L (x :: E) = ((appsF (finL L (appendS x.1 x.2 L).2) E).1 + 1, (appendS x.1 x.2 L).2 ++ (appsF (finL L (appendS x.1 x.2 L).2) E).2) := by
  conv => lhs; unfold appsF
  rw [if_pos h]
theorem apps_no {x : EntV} {E : List EntV} {L : LogS} (h : (appendS x.1 x.2 L).1 ≠ 0) : appsF L (x :: E) = (0, []) := by
  conv => lhs; unfold appsF
  rw [if_neg h]
section
variable {w0 w w' : World} {s q e : Nat} {M0 M M' : MSt} {L0 : LogS} {Y : YS} {S T : List LogS} {m : MsgV} {b : Option Addr} {ll c : Nat}
theorem maccept_ok {R : Bool → Int → World → Prop} (h : Mv w0 s q e M0 L0 w Y S) (hE : EA w b ll c m.ents) (hm : MB m) (hH : M0.H.length + S.length ≤ 100)
    (hR : ∀ w', Mv w0 s q e M0 L0 w' (acceptF m Y).2.1 (S ++ (acceptF m Y).2.2) → ExtT w w' MT → R (acceptF m Y).1.1 (acceptF m Y).1.2 w') : syncm_Sync_accept.Call (some ⟨s, 0, none⟩) m.kind m.fr m.to m.term m.idx m.lt m.cm m.ok b ll c m.data w R := by
  apply syncm_Sync_accept.sound
  unfold syncm_Sync_accept.B0
  have hl := EA.len hE
  have hlen := hm.len
  have hidx := hm.idx
  have hlast : Y.L.base + (Y.L.ents.length : Int) ≤ 72057594037927936 := h.ok.last
  have hl9 : Y.L.last = Y.L.base + (Y.L.ents.length : Int) := rfl
  refine New.mk fun m0 w1 e1 s1 o1 he1 => ?_
  have om : Own w1 m0 (msgC m b ll c).toArray T_api_Msg := o1
  have h1 := h.ext0 he1
  have E1d : Ext [] w w1.drew := he1.trans (Ext.drew _ _)
  have h1d := h.ext0 E1d
  have x1 : ExtT w w1.drew MT := ExtT.nil E1d _
  unfold acceptF at hR
  refine LdI.mk om rfl (h1.cBase (h1.cLast (Bm.ite (fun c1 => ?_) fun c1 => Bm.ite (fun c2 => ?_) fun c2 => h1d.cTermAt (by omega) fun w2 he2 => ?_)))
  · rw [if_pos c1] at hR
    exact hR _ (by rw [List.append_nil]; exact h1d) x1
  · rw [if_neg c1, if_pos c2] at hR
    exact hR _ (by rw [List.append_nil]; exact h1d) x1
  rw [if_neg c1, if_neg c2] at hR
  have E2 := E1d.trans he2
  have h2 := h.ext0 E2
  have om2 : Own w2 m0 (msgC m b ll c).toArray T_api_Msg := he2.own (Own.drew om) (by simp)
  have hE2 := hE.ext0 E2
  have x2 : ExtT w w2 MT := ExtT.nil E2 _
  refine LdI.mk om2 rfl ?_
  by_cases c3 : (termL Y.L m.idx).1 = m.lt
  rotate_left
  · rw [if_pos c3] at hR
    refine Bm.pos (by simpa using c3) ?_
    by_cases c4 : m.idx = 0
    · rw [if_pos c4] at hR
      exact Bm.pos (by simpa using c4) (hR w2 (by rw [List.append_nil]; exact h2) x2)
    · rw [if_neg c4] at hR
      refine Bm.neg (by simpa using c4) ?_
      rw [w64 (by omega) (by omega)]
      exact hR w2 (by rw [List.append_nil]; exact h2) x2
  rw [if_neg (by simpa using c3)] at hR
  refine Bm.neg (by simpa using c3) ?_
  have al := agree_last Y.L m.ents m.idx (by omega)
  have ag := agree_le Y.L m.ents m.idx
  generalize hrr : (if agreeN Y.L m.idx m.ents < m.ents.length then repairF (m.idx + (agreeN Y.L m.idx m.ents : Int) + 1) (m.ents.drop (agreeN Y.L m.idx m.ents)) Y else (m.idx + (agreeN Y.L m.idx m.ents : Int), [])) = rr
  simp only [hrr] at hR
  have fin : ∀ w4, Mv w0 s q e M0 L0 w4 (setL Y rr.2) (S ++ rr.2) → ExtT w w4 MT → Own w4 m0 (msgC m b ll c).toArray T_api_Msg → syncm_Sync_accept.B2 (some ⟨s, 0, none⟩) m0 rr.1 w4 R := fun w4 h4 x4 om4 => by
    unfold syncm_Sync_accept.B2
    have b4 : ∀ cc : Int, cc = min m.cm rr.1 → syncm_Sync_accept.B4 (some ⟨s, 0, none⟩) rr.1 cc w4 R := fun cc hcc => by
      unfold syncm_Sync_accept.B4
      refine Pn.mk (h4.own.ldC ?_)
      show Bm (decide (cc > Y.cm)) _ _
      by_cases c5 : cc > Y.cm
      · refine Bm.pos (decide_eq_true c5) (Pn.mk (h4.own.stCm fun w5 hs5 o5 he5 => ?_))
        obtain ⟨f1, f2⟩ := h4.st (Y' := { setL Y rr.2 with cm := max Y.cm (min m.cm rr.1) }) o5 he5 rfl rfl (by rw [← hcc, show max Y.cm cc = cc by omega]; rfl)
        exact hR w5 f1 (x4.trans f2)
      · refine Bm.neg (decide_eq_false c5) (hR w4 ?_ x4)
        rw [← hcc, show max Y.cm cc = Y.cm by omega]
        exact h4
    exact LdI.mk om4 rfl (Bm.ite (fun q => b4 _ (by omega)) fun q => b4 _ (by omega))
  unfold syncm_Sync_accept.L1
  refine ⟨fun mm s' m' p' ma k w' => ∃ (n : Nat) (T : List LogS), n ≤ ll ∧ mm = ll - n ∧ some ⟨s, 0, none⟩ = s' ∧ m0 = m' ∧ m.idx = p' ∧ ma = m.idx + (n : Int) ∧ k = (n : Int) ∧ T.length ≤ 7 + n ∧ Mv w0 s q e M0 L0 w' (setL Y T) (S ++ T) ∧ Own w' m0 (msgC m b ll c).toArray T_api_Msg ∧ ExtT w w' MT ∧
      ((T = [] ∧ agreeN Y.L m.idx m.ents = n + agreeN Y.L (m.idx + (n : Int)) (m.ents.drop n)) ∨ ((setL Y T).L.last = m.idx + (n : Int) ∧ rr.1 = m.idx + (n : Int) + ((appsF (setL Y T).L (m.ents.drop n)).1 : Int) ∧ rr.2 = T ++ (appsF (setL Y T).L (m.ents.drop n)).2)), _,
    ⟨0, [], by omega, rfl, rfl, rfl, rfl, by omega, rfl, by simp, by rw [List.append_nil]; exact h2, om2, x2, .inl ⟨rfl, by simp⟩⟩, ?_⟩
  rintro mm s' m' p' ma k wa ⟨n, T, hn, rfl, rfl, rfl, rfl, rfl, rfl, hTl, ha, oma, xa, hph⟩
  have hEa : EA wa b ll c m.ents := xa.row hE (by decide)
  unfold syncm_Sync_accept.L1b
  refine LdL.mk oma rfl (Bm.ite (fun hlt => ?_) fun hge => ?_)
  rotate_left
  · -- the end
    have hnl : n = ll := by omega
    have hdn : m.ents.drop n = [] := List.drop_of_length_le (by omega)
    rcases hph with ⟨rfl, hA⟩ | ⟨hB1, hB2, hB3⟩
    · rw [hdn] at hA
      have hA' : agreeN Y.L m.idx m.ents = n := by simpa [agreeN] using hA
      have er : rr = (m.idx + (n : Int), []) := by
        rw [← hrr, hA', if_neg (by omega)]
      have := fin wa (by rw [er]; exact ha) xa oma
      rw [er] at this
      exact this
    · rw [hdn] at hB2 hB3
      have e1 : rr.1 = m.idx + (n : Int) := by simpa [appsF] using hB2
      have e2 : rr.2 = T := by simpa [appsF] using hB3
      have := fin wa (by rw [e2]; exact ha) xa oma
      rw [e1] at this
      exact this
  obtain ⟨x, hx⟩ := get_lt' (L := m.ents) (n := n) (by omega)
  have hd : m.ents.drop n = x :: m.ents.drop (n + 1) := by
    obtain ⟨q1, q2⟩ := List.getElem?_eq_some_iff.1 hx
    rw [List.drop_eq_getElem_cons q1, q2]
  have ew : IntKind.i64.wrap (IntKind.i64.wrap (m.idx + 1) + (n : Int)) = m.idx + (n : Int) + 1 := by
    rw [w64 (x := m.idx + 1) (by omega) (by omega), w64 (by omega) (by omega)]; omega
  rw [ew]
  have Ead : Ext [] wa wa.drew := Ext.drew _ _
  have had := ha.ext0 Ead
  have omad : Own wa.drew m0 (msgC m b ll c).toArray T_api_Msg := oma
  have xad := xa.trans (ExtT.nil Ead MT)
  -- the append
  have b3 : ∀ {wb : World} (T' : List LogS), T'.length ≤ 7 + n → Mv w0 s q e M0 L0 wb (setL Y T') (S ++ T') → ExtT w wb MT → Own wb m0 (msgC m b ll c).toArray T_api_Msg → (setL Y T').L.last = m.idx + (n : Int) → rr.1 = m.idx + (n : Int) + ((appsF (setL Y T').L (m.ents.drop n)).1 : Int) → rr.2 = T' ++ (appsF (setL Y T').L (m.ents.drop n)).2 →
      syncm_Sync_accept.B3 (some ⟨s, 0, none⟩) m0 m.idx (m.idx + (n : Int)) (n : Int) (m.idx + (n : Int) + 1) wb (fun s' m0' prev' matched' k' w' => ∃ m', m' < ll - n ∧ ∃ (n : Nat) (T : List LogS), n ≤ ll ∧ m' = ll - n ∧ some ⟨s, 0, none⟩ = s' ∧ m0 = m0' ∧ m.idx = prev' ∧ matched' = m.idx + (n : Int) ∧ k' = (n : Int) ∧ T.length ≤ 7 + n ∧ Mv w0 s q e M0 L0 w' (setL Y T) (S ++ T) ∧ Own w' m0 (msgC m b ll c).toArray T_api_Msg ∧ ExtT w w' MT ∧ ((T = [] ∧ agreeN Y.L m.idx m.ents = n + agreeN Y.L (m.idx + (n : Int)) (m.ents.drop n)) ∨ ((setL Y T).L.last = m.idx + (n : Int) ∧ rr.1 = m.idx + (n : Int) + ((appsF (setL Y T).L (m.ents.drop n)).1 : Int) ∧ rr.2 = T ++ (appsF (setL Y T).L (m.ents.drop n)).2))) R := fun {wb} T' hT' hb xb omb hl1 hr1 hr2 => by
    unfold syncm_Sync_accept.B3
    have hbd := hb.ext0 (Ext.drew [] wb)
    have ombd : Own wb.drew m0 (msgC m b ll c).toArray T_api_Msg := omb
    have xbd := xb.trans (ExtT.nil (Ext.drew [] wb) MT)
    have hEb : EA wb.drew b ll c m.ents := xbd.row hE (by decide)
    obtain ⟨Mb, hbx⟩ := hbd
    refine Pn.mk (hbx.own.ldL (LdL.mk ombd rfl (hEb.ld hx (mAppend_ok hbx.md hbx.A hbx.ok (by rw [hbx.len, List.length_append]; omega) fun M2 wc dc => ?_))))
    have hbd' : Mv w0 s q e M0 L0 wb.drew (setL Y T') (S ++ T') := ⟨Mb, hbx⟩
    obtain ⟨hc, xc⟩ := hbd'.did hbx dc (ok_append hbx.ok)
    have omc := xc.own ombd (by decide)
    rw [hd] at hr1 hr2
    by_cases ca : (appendS x.1 x.2 (setL Y T').L).1 = 0
    · have ea := apps_ok (E := m.ents.drop (n + 1)) ca
      rw [ea] at hr1 hr2
      have el : (setL Y (T' ++ (appendS x.1 x.2 (setL Y T').L).2)).L = finL (setL Y T').L (appendS x.1 x.2 (setL Y T').L).2 := by rw [← setL_app]; rfl
      refine Bm.neg (by simp [ca]) ?_
      unfold syncm_Sync_accept.B1
      refine ⟨ll - (n + 1), by omega, n + 1, T' ++ (appendS x.1 x.2 (setL Y T').L).2, by omega, rfl, rfl, rfl, rfl, by omega, by rw [w64 (by omega) (by omega)]; omega, by rw [List.length_append, append_one ca]; omega, ?_, omc, xbd.trans xc, .inr ⟨?_, ?_, ?_⟩⟩
      · rw [← setL_app, ← List.append_assoc]
        exact hc
      · rw [el, (last_append _ ca).1, hl1]
        omega
      · rw [el, hr1]
        show m.idx + (n : Int) + (((appsF _ _).1 + 1 : Nat) : Int) = _
        omega
      · rw [el, hr2, List.append_assoc]
    · have ea := apps_no (E := m.ents.drop (n + 1)) ca
      rw [ea] at hr1 hr2
      have en := append_err ca
      rw [en, List.append_nil] at hc
      refine Bm.pos (by simpa using ca) ?_
      have e1 : rr.1 = m.idx + (n : Int) := by simpa using hr1
      have e2 : rr.2 = T' := by simpa using hr2
      have := fin wc (by rw [e2]; exact hc) (xbd.trans xc) omc
      rw [e1] at this
      exact this
  rcases hph with ⟨rfl, hA⟩ | ⟨hB1, hB2, hB3⟩
  · -- all has matched so far
    rw [hd, agreeN_cons] at hA
    have ha0 : Mv w0 s q e M0 L0 wa Y S := by rw [List.append_nil] at ha; exact ha
    have ha0d := ha0.ext0 Ead
    refine ha0.cLast ?_
    by_cases cl : m.idx + (n : Int) + 1 ≤ Y.L.last
    · refine Bm.pos (decide_eq_true cl) (ha0d.cTermAt (by omega) fun wb heb => ?_)
      have hb := ha0d.ext0 heb
      have omb := heb.own omad (by simp)
      have xb := xad.trans (ExtT.nil heb MT)
      have hEb : EA wb b ll c m.ents := xb.row hE (by decide)
      refine LdL.mk omb rfl (hEb.ldT hx ?_)
      by_cases ct : (termL Y.L (m.idx + (n : Int) + 1)).1 = x.1
      · rw [if_pos ⟨cl, ct⟩] at hA
        refine Bm.pos (by simpa using ct) ?_
        unfold syncm_Sync_accept.B1
        refine ⟨ll - (n + 1), by omega, n + 1, [], by omega, rfl, rfl, rfl, rfl, by omega, by rw [w64 (by omega) (by omega)]; omega, by simp, by rw [List.append_nil]; exact hb, omb, xb, .inl ⟨rfl, ?_⟩⟩
        rw [show m.idx + ((n + 1 : Nat) : Int) = m.idx + (n : Int) + 1 by omega]
        omega
      · rw [if_neg (fun z => ct z.2)] at hA
        have hK : agreeN Y.L m.idx m.ents = n := by simpa using hA
        refine Bm.neg (by simpa using ct) (Pn.mk (hb.own.ldC ?_))
        show Bm (decide (m.idx + (n : Int) + 1 ≤ Y.cm)) _ _
        have er : rr = repairF (m.idx + (n : Int) + 1) (m.ents.drop n) Y := by rw [← hrr, hK, if_pos (by omega)]
        unfold repairF at er
        rw [if_pos cl] at er
        by_cases cc : m.idx + (n : Int) + 1 ≤ Y.cm
        · rw [if_pos cc] at er
          refine Bm.pos (decide_eq_true cc) ?_
          have := fin wb (by rw [er, List.append_nil]; exact hb) xb omb
          rw [er] at this
          simp only [show m.idx + (n : Int) + 1 - 1 = m.idx + (n : Int) by omega] at this
          exact this
        · rw [if_neg cc] at er
          refine Bm.neg (decide_eq_false cc) ?_
          have hbb := hb
          obtain ⟨Mb, hbx⟩ := hb
          refine Pn.mk (hbx.own.ldL (mTrunc_ok hbx.md hbx.A hbx.ok (by rw [hbx.len]; omega) fun M2 wc dc => ?_))
          obtain ⟨hc, xc⟩ := hbb.did hbx dc (ok_trunc hbx.ok)
          have tl := trunc_len (i := m.idx + (n : Int) + 1) hbx.ok
          obtain ⟨t1, _⟩ := trunc_facts (i := m.idx + (n : Int) + 1) hbx.ok (by omega) cl
          refine b3 (truncS (m.idx + (n : Int) + 1) Y.L).2 (by omega) hc (xb.trans xc) (xc.own omb (by decide)) ?_ ?_ ?_
          · show (finL Y.L (truncS (m.idx + (n : Int) + 1) Y.L).2).last = _
            rw [t1]; omega
          · rw [er]
            show m.idx + (n : Int) + 1 - 1 + _ = _
            rw [show m.idx + (n : Int) + 1 - 1 = m.idx + (n : Int) by omega]
            rfl
          · rw [er]
            rfl
    · rw [if_neg (fun z => cl z.1)] at hA
      have hK : agreeN Y.L m.idx m.ents = n := by simpa using hA
      have er : rr = repairF (m.idx + (n : Int) + 1) (m.ents.drop n) Y := by rw [← hrr, hK, if_pos (by omega)]
      unfold repairF at er
      rw [if_neg cl] at er
      refine Bm.neg (decide_eq_false cl) (b3 [] (by simp) (by rw [List.append_nil]; exact ha0d) xad omad ?_ ?_ ?_)
      · show Y.L.last = _
        rw [hK] at al
        omega
      · rw [er]
        show m.idx + (n : Int) + 1 - 1 + _ = _
        rw [show m.idx + (n : Int) + 1 - 1 = m.idx + (n : Int) by omega]
        rfl
      · rw [er]
        rfl
  · refine ha.cLast ?_
    rw [hB1]
    exact Bm.neg (decide_eq_false (by omega)) (b3 T hTl had xad omad hB1 hB2 hB3)
end
end Go.Proofs.Qxb6500430aGreat
