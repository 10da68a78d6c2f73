/-
  sync: Step, Tick, Propose, Compact; a core at rest; Open.
-/
import Derived.Test.Qxb6500430aGreatSyJ
set_option linter.unusedVariables false
set_option linter.unusedSimpArgs false
open Go.Vc
namespace Go.Proofs.Qxb6500430aGreat
theorem setTerm_last (tm vt : Int) (L : LogS) : (finL L (setTermS tm vt L).2).last = L.last := by
  unfold setTermS
  split <;> rfl
theorem persF_last (Y : YS) : (persF Y).L.last = Y.L.last := by
  unfold persF persS setL
  split
  · exact setTerm_last _ _ _
  · rfl
theorem compact_same {u : Int} {sn : ByteArray} {L : LogS} (hk : LogOk L) : (finL L (compactS u sn L).2).last = L.last ∧ (termL (finL L (compactS u sn L).2) L.last).1 = (termL L L.last).1 := by
  unfold compactS
  split
  · exact ⟨rfl, rfl⟩
  · split
    · exact ⟨rfl, rfl⟩
    · rename_i c1
      split
      · exact ⟨rfl, rfl⟩
      · rename_i c2
        have hn := hk.len
        unfold LogS.last at c2
        obtain ⟨k, hk1⟩ : ∃ k : Nat, (u - L.base).toNat = k := ⟨_, rfl⟩
        have hu : u = L.base + (k : Int) := by omega
        have k1 : 1 ≤ k := by omega
        have k2 : k ≤ L.ents.length := by omega
        show (rebL (u - L.base).toNat _ sn L).last = L.last ∧ (termL (rebL (u - L.base).toNat _ sn L) L.last).1 = _
        rw [hk1, show (u - L.base - 1).toNat = k - 1 by omega]
        have el : ∀ t, (rebL k t sn L).last = L.last := fun t => by
          unfold rebL LogS.last
          simp only [List.length_drop]
          omega
        refine ⟨el _, ?_⟩
        have e1 : L.last = L.base + (L.ents.length : Int) := rfl
        unfold termL
        rw [if_neg (show ¬ (L.last = L.base) by omega)]
        by_cases c : k = L.ents.length
        · rw [if_pos (show L.last = (rebL k _ sn L).base by show L.last = L.base + (k : Int); omega)]
          show (L.ents.getD (k - 1) (0, estr)).1 = _
          unfold atL
          rw [if_neg (by omega), if_neg (by omega), show (L.last - L.base - 1).toNat = k - 1 by omega]
        · rw [if_neg (show ¬ (L.last = (rebL k _ sn L).base) by show ¬ (L.last = L.base + (k : Int)); omega)]
          unfold atL
          rw [el, if_neg (show ¬ (L.last ≤ (rebL k _ sn L).base) by show ¬ (L.last ≤ L.base + (k : Int)); omega), if_neg (by omega), if_neg (by omega), if_neg (by omega)]
          show ((L.ents.drop k).getD (L.last - (L.base + (k : Int)) - 1).toNat (0, estr)).1 = (L.ents.getD (L.last - L.base - 1).toNat (0, estr)).1
          rw [List.getD_eq_getElem?_getD, List.getD_eq_getElem?_getD, List.getElem?_drop, show k + (L.last - (L.base + (k : Int)) - 1).toNat = (L.last - L.base - 1).toNat by omega]
theorem tick2 {s : El.ES} (h : (El.tickF s).1 = 2) : s.role = 2 ∧ (El.tickF s).2 = s := by
  unfold El.tickF at h ⊢
  by_cases c : s.role = 2
  · rw [if_pos c]; exact ⟨c, rfl⟩
  · rw [if_neg c] at h
    split at h
    · cases h
    · split at h <;> cases h
section
variable {w0 w w' : World} {s l t d e : Nat} {D0 : DiskS} {F0 : List Nat} {N : Int} {L0 : LogS} {Y : YS} {B : List ME} {S T : List LogS} {m : MsgV} {b : Option Addr} {ll c : Nat}
theorem ML.nil (w : World) (lo : Nat) : ML w none 0 0 lo [] := ⟨Row.nil _ _ _, BoxD.nil _ _, fun k hk => by cases hk⟩
theorem step_ok {R : Option Addr → Nat → Nat → World → Prop} (h : Ev w0 s l t d e D0 F0 N L0 w Y [] []) (hY : YsOk Y) (hE : EA w b ll c m.ents) (hll : ll ≤ 1000) (hN : N + 1 ≤ 4611686018427387904) (hlog : D0.log.length ≤ 50)
    (hR : ∀ bo co E w', E.map (·.1) = (stepY m Y).G → ML w' bo E.length co w0.heap.size E → co ≤ 3 → E.length ≤ 3 → Ev w0 s l t d e D0 F0 N L0 w' (stepY m Y).Y [] (stepY m Y).S → ExtT w w' CT → R bo E.length co w') : sync_Sync_Step.Call (some ⟨s, 0, none⟩) m.kind m.fr m.to m.term m.idx m.lt m.cm m.ok b ll c m.data w R := by
  apply sync_Sync_Step.sound
  unfold sync_Sync_Step.B0
  refine New.mk fun m0 w1 e1 s1 o1 he1 => ?_
  have om : Own w1 m0 (msgC m b ll c).toArray T_api_Msg := o1
  refine ldMsg om (msgOK_ok (hE.ext0 he1) hll fun w2 he2 => ?_)
  have E2 := he1.trans he2
  have h2 := h.ext0 E2
  have om2 := he2.own om (by simp)
  have hE2 := hE.ext0 E2
  have x2 : ExtT w w2 CT := ExtT.nil E2 _
  unfold stepY at hR
  have none_ : (msgB m = false ∨ m.to ≠ Y.e.id ∨ m.fr = Y.e.id) → R none 0 0 w2 := fun hc => by
    rw [if_pos hc] at hR
    exact hR none 0 [] w2 rfl (ML.nil _ _) (by omega) (by simp) h2 x2
  by_cases c1 : msgB m = true
  rotate_left
  · have c1' : msgB m = false := by simpa using c1
    exact Bm.pos (by simp [c1']) (none_ (.inl c1'))
  have hm := (msgB_iff m).1 c1
  refine Bm.neg (by simp [c1]) ?_
  obtain ⟨bx, v⟩ := h2.vw
  refine v.eId (LdI.mk om2 rfl ?_)
  show Bm (m.to != Y.e.id) _ _
  by_cases c2 : m.to = Y.e.id
  rotate_left
  · refine Bm.pos (by simpa using c2) ?_
    unfold sync_Sync_Step.B1
    exact Bm.pos rfl (none_ (.inr (.inl c2)))
  refine Bm.neg (by simpa using c2) (LdI.mk om2 rfl ?_)
  show sync_Sync_Step.B1 (some ⟨s, 0, none⟩) m0 (m.fr == Y.e.id) w2 R
  by_cases c3 : m.fr = Y.e.id
  · rw [show (m.fr == Y.e.id) = true by simpa using c3]
    unfold sync_Sync_Step.B1
    exact Bm.pos rfl (none_ (.inr (.inr c3)))
  rw [show (m.fr == Y.e.id) = false by simpa using c3]
  rw [if_neg (by simp [c1, c2, c3])] at hR
  have b2 : ∀ (V : Evt) (E : List ME) (w3 : World), (∀ bo co E w', E.map (·.1) = V.G → ML w' bo E.length co w0.heap.size E → co ≤ 3 → E.length ≤ 3 → Ev w0 s l t d e D0 F0 N L0 w' V.Y [] V.S → ExtT w w' CT → R bo E.length co w') → E.map (·.1) = V.G → Ev w0 s l t d e D0 F0 N L0 w3 V.Y E V.S → E.length ≤ 3 → ExtT w2 w3 CT → sync_Sync_Step.B2 (some ⟨s, 0, none⟩) w3 R := fun V E w3 hV hG h3 hl x3 => by
    unfold sync_Sync_Step.B2
    exact flush_ok h3 hl fun bo co w4 ml hc h4 x4 => hV bo co E w4 hG ml hc hl h4 ((x2.trans x3).trans x4)
  unfold sync_Sync_Step.B1
  refine Bm.neg rfl (LdI.mk om2 rfl ?_)
  by_cases k1 : m.kind = 1
  · rw [if_pos k1] at hR
    exact Bm.pos (by simpa using k1) (ldMsg om2 (voteAsked_ok h2 hY.e (by omega) (by omega) fun E w3 hG h3 hl x3 => b2 _ E w3 hR hG h3 hl x3))
  rw [if_neg k1] at hR
  refine Bm.neg (by simpa using k1) ?_
  by_cases k2 : m.kind = 2
  · rw [if_pos k2] at hR
    exact Bm.pos (by simpa using k2) (ldMsg om2 (voteCame_ok h2 hY.e (by omega) (by omega) fun E w3 hG h3 hl x3 => b2 _ E w3 hR hG h3 hl x3))
  rw [if_neg k2] at hR
  refine Bm.neg (by simpa using k2) ?_
  by_cases k3 : m.kind = 3
  · rw [if_pos k3] at hR
    exact Bm.pos (by simpa using k3) (ldMsg om2 (entsCame_ok h2 hY.e hE2 hm (by omega) (by omega) fun E w3 hG h3 hl x3 => b2 _ E w3 hR hG h3 hl x3))
  rw [if_neg k3] at hR
  refine Bm.neg (by simpa using k3) ?_
  by_cases k5 : m.kind = 5
  · rw [if_pos k5] at hR
    exact Bm.pos (by simpa using k5) (ldMsg om2 (snapCame_ok h2 hY.e (by omega) (by omega) fun E w3 hG h3 hl x3 => b2 _ E w3 hR hG h3 hl x3))
  rw [if_neg k5] at hR
  refine Bm.neg (by simpa using k5) ?_
  have hkd := hm.kind
  have k4 : m.kind = 4 := by omega
  exact Bm.pos (by simpa using k4) (ldMsg om2 (ackCame_ok h2 hY hm c3 (by omega) (by omega) fun E w3 hG h3 hl x3 => b2 _ E w3 hR hG h3 hl x3))
theorem tick_ok {R : Option Addr → Nat → Nat → World → Prop} (h : Ev w0 s l t d e D0 F0 N L0 w Y [] []) (hY : YsOk Y) (hN : N + 1 ≤ 4611686018427387904) (hlog : D0.log.length ≤ 50)
    (hR : ∀ bo co E w', E.map (·.1) = (tickY Y).G → ML w' bo E.length co w0.heap.size E → co ≤ 3 → E.length ≤ 3 → Ev w0 s l t d e D0 F0 N L0 w' (tickY Y).Y [] (tickY Y).S → ExtT w w' CT → R bo E.length co w') : sync_Sync_Tick.Call (some ⟨s, 0, none⟩) w R := by
  apply sync_Sync_Tick.sound
  unfold sync_Sync_Tick.B0
  have hw := hY.e
  obtain ⟨bd, od, el⟩ := h.el
  refine Pn.mk (od.ldE (El.realTick_ok el hw fun w1 el1 he1 => ?_))
  obtain ⟨h1, x1⟩ := h.turn el1 he1
  refine persist_ok h1 (El.tickF_wf hw) (by simp; omega) (by simp; omega) fun w2 h2 x2 => ?_
  have x12 := x1.trans x2
  unfold tickY at hR
  have h2' : Ev w0 s l t d e D0 F0 N L0 w2 (persF { Y with e := (El.tickF Y.e).2 }) [] (persS { Y with e := (El.tickF Y.e).2 }) := h2
  by_cases a2 : (El.tickF Y.e).1 = 2
  · simp only [if_pos a2, if_neg (show ¬ ((El.tickF Y.e).1 = 1) by omega), List.append_nil] at hR
    obtain ⟨r2, es⟩ := tick2 a2
    refine Bm.pos (by simpa using a2) (sendAll_ok h2' (fun p hp hpi => ?_) fun E w3 hE h3 x3 => ?_)
    · have hid : (persF { Y with e := (El.tickF Y.e).2 }).e.id = Y.e.id := by show (El.tickF Y.e).2.id = _; rw [es]
      rw [hid] at hpi
      have a := hY.book r2 p hp hpi
      rw [persF_last]
      show 0 ≤ Y.nx p ∧ Y.nx p ≤ Y.L.last + 1
      omega
    · have hl : E.length ≤ 3 := by
        have e1 := congrArg List.length hE
        rw [List.length_map] at e1
        unfold sendAllF at e1
        rw [e1]
        exact perPeer_len _ _ 3
      unfold sync_Sync_Tick.B1
      refine Bm.neg (by simp; omega) (flush_ok h3 hl fun bo co w4 ml hc h4 x4 => hR bo co E w4 hE ml hc hl h4 ((x12.trans x3).trans x4))
  · simp only [if_neg a2, List.nil_append] at hR
    refine Bm.neg (by simpa using a2) ?_
    unfold sync_Sync_Tick.B1
    by_cases a1 : (El.tickF Y.e).1 = 1
    · simp only [if_pos a1] at hR
      generalize hY1 : ({ Y with e := (El.tickF Y.e).2 } : YS) = Y1 at *
      generalize hY2 : persF Y1 = Y2 at *
      obtain ⟨bx, v⟩ := h2'.vw
      refine Bm.pos (by simpa using a1) (v.eId (v.eTerm ?_))
      unfold sync_Sync_Tick.L1
      refine ⟨fun mm s' i' tm' p w' => ∃ (n : Nat) (E : List ME), n ≤ 3 ∧ mm = 3 - n ∧ some ⟨s, 0, none⟩ = s' ∧ Y2.e.id = i' ∧ Y2.e.term = tm' ∧ p = (n : Int) ∧ E.map (·.1) = perPeer Y2 (askM Y2) n ∧ Ev w0 s l t d e D0 F0 N L0 w' Y2 E (persS Y1) ∧ ExtT w w' CT, _, ⟨0, [], by omega, rfl, rfl, rfl, rfl, rfl, rfl, h2', x12⟩, ?_⟩
      rintro mm s' i' tm' p wa ⟨n, E, hn, rfl, rfl, rfl, rfl, rfl, hE, ha, xa⟩
      have hl : E.length ≤ n := by
        have := perPeer_len Y2 (askM Y2) n
        rw [← hE, List.length_map] at this
        exact this
      unfold sync_Sync_Tick.L1b sync_Sync_Tick.B2
      refine Bm.ite (fun hlt => ?_) fun hge => ?_
      · by_cases c : (n : Int) = Y2.e.id
        · refine Bm.neg (by simpa using c) ⟨3 - (n + 1), by omega, n + 1, E, by omega, rfl, rfl, rfl, rfl, by rw [w64 (by omega) (by omega)]; omega, ?_, ha, xa⟩
          show _ = perPeer Y2 _ n ++ _
          rw [if_pos c, List.append_nil]
          exact hE
        · have had := ha.ext0 (Ext.drew [] wa)
          obtain ⟨ba, va⟩ := had.vw
          refine Bm.pos (by simpa using c) (Pn.mk (va.own.ldI (o := 9) (by omega) rfl (Pn.mk (va.own.ldI (o := 10) (by omega) rfl ?_))))
          refine post_ok (m := askM Y2 n) had (by omega) rfl (EA.nil _) (fun k hk => by cases hk) (fun x hx k hk hz => by cases hz) fun wb hb xb => ⟨3 - (n + 1), by omega, n + 1, E ++ [(askM Y2 n, none, 0)], by omega, rfl, rfl, rfl, rfl, by rw [w64 (by omega) (by omega)]; omega, ?_, hb, (xa.trans (ExtT.nil (Ext.drew [] wa) _)).trans xb⟩
          show _ = perPeer Y2 _ n ++ _
          rw [if_neg c, List.map_append, hE]
          rfl
      · have : n = 3 := by omega
        subst this
        exact flush_ok ha hl fun bo co w4 ml hc h4 x4 => hR bo co E w4 hE ml hc hl h4 (xa.trans x4)
    · simp only [if_neg a1] at hR
      exact Bm.neg (by simpa using a1) (flush_ok h2' (by simp) fun bo co w4 ml hc h4 x4 => hR bo co [] w4 rfl ml hc (by simp) h4 (x12.trans x4))
theorem propose_ok {dd : ByteArray} {R : Int → Int → World → Prop} (h : Ev w0 s l t d e D0 F0 N L0 w Y [] []) (hY : YsOk Y) (hlog : D0.log.length ≤ 50)
    (hR : ∀ w', Ev w0 s l t d e D0 F0 N L0 w' (proposeY dd Y).2.Y [] (proposeY dd Y).2.S → ExtT w w' CT → R (proposeY dd Y).1.1 (proposeY dd Y).1.2 w') : sync_Sync_Propose.Call (some ⟨s, 0, none⟩) dd w R := by
  apply sync_Sync_Propose.sound
  unfold sync_Sync_Propose.B0
  unfold proposeY at hR
  obtain ⟨bx, v⟩ := h.vw
  refine v.eRole hY.e ?_
  by_cases c1 : Y.e.role = 2
  rotate_left
  · simp only [if_pos c1] at hR
    exact Bm.pos (by simpa using c1) (hR w h (ExtT.refl _ _))
  simp only [if_neg (show ¬ (Y.e.role ≠ 2) by simp [c1])] at hR
  refine Bm.neg (by simp [c1]) (Bm.ite (fun c2 => ?_) fun c2 => ?_)
  · simp only [if_pos (show 24 < dd.size by omega)] at hR
    exact hR w h (ExtT.refl _ _)
  simp only [if_neg (show ¬ (24 < dd.size) by omega)] at hR
  refine v.eTerm (grow_ok h (by simp; omega) fun w1 h1 x1 => ?_)
  by_cases c3 : (appendS Y.e.term dd Y.L).1 = 0
  · simp only [if_neg (show ¬ ((appendS Y.e.term dd Y.L).1 ≠ 0) by simp [c3])] at hR
    obtain ⟨b1, v1⟩ := h1.vw
    exact Bm.neg (by simp [c3]) (Pn.mk (v1.own.ldI (o := 9) (by omega) rfl (hR w1 h1 x1)))
  · simp only [if_pos c3] at hR
    have en := append_err c3
    rw [en] at h1
    exact Bm.pos (by simpa using c3) (hR w1 h1 x1)
theorem compactS_ok {u : Int} {sn : ByteArray} {S0 : List LogS} {R : Int → World → Prop} (h : Ev w0 s l t d e D0 F0 N L0 w Y [] S0) (hN : N + (S0.length : Int) + 1 ≤ 4611686018427387904) (hlog : D0.log.length + 20 * S0.length ≤ 400)
    (hR : ∀ w', Ev w0 s l t d e D0 F0 N L0 w' (compactY u sn Y).2.Y [] (S0 ++ (compactY u sn Y).2.S) → ExtT w w' CT → R (compactY u sn Y).1 w') : sync_Sync_Compact.Call (some ⟨s, 0, none⟩) u sn w R := by
  apply sync_Sync_Compact.sound
  unfold sync_Sync_Compact.B0
  unfold compactY at hR
  have hh := h
  obtain ⟨bx, h, hb⟩ := h
  refine Pn.mk (h.own.ldI (o := 2) (by omega) rfl ?_)
  show Bm (decide (u > Y.cm)) _ _
  by_cases c1 : u > Y.cm
  · simp only [if_pos (show Y.cm < u from c1)] at hR
    exact Bm.pos (decide_eq_true c1) (hR w (by simpa using hh) (ExtT.refl _ _))
  simp only [if_neg (show ¬ (Y.cm < u) from c1)] at hR
  refine Bm.neg (decide_eq_false c1) (Pn.mk (h.own.ldL ?_))
  rw [show (syX l e Y bx ([] : List ME).length).l = l from rfl]
  obtain ⟨D, F, A, r, p, q, g, z⟩ := h.cor
  refine realCompact_ok r p (by rw [h.fin]; exact finL_mem _ _) (by omega) (by omega) fun w1 d1 => ?_
  obtain ⟨h1, x1⟩ := h.did r q g z p d1
  refine hR w1 ⟨bx, ?_, hb⟩ x1
  obtain ⟨k1, k2⟩ := compact_same (u := u) (sn := sn) r.ok
  have ex : syX l e (setL Y (compactS u sn Y.L).2) bx ([] : List ME).length = syX l e Y bx ([] : List ME).length := by
    show SyR.mk l e Y.cm Y.nx Y.mt (finL Y.L (compactS u sn Y.L).2).last (termL (finL Y.L (compactS u sn Y.L).2) (finL Y.L (compactS u sn Y.L).2).last).1 bx _ = SyR.mk l e Y.cm Y.nx Y.mt Y.L.last (termL Y.L Y.L.last).1 bx _
    rw [k1, k2]
  rw [ex]
  exact h1
theorem compact_ok {u : Int} {sn : ByteArray} {R : Int → World → Prop} (h : Ev w0 s l t d e D0 F0 N L0 w Y [] []) (hN : N + 1 ≤ 4611686018427387904) (hlog : D0.log.length ≤ 50)
    (hR : ∀ w', Ev w0 s l t d e D0 F0 N L0 w' (compactY u sn Y).2.Y [] (compactY u sn Y).2.S → ExtT w w' CT → R (compactY u sn Y).1 w') : sync_Sync_Compact.Call (some ⟨s, 0, none⟩) u sn w R :=
  compactS_ok h (by simpa using hN) (by simp; omega) hR
end
/-! ### at rest -/
structure Rest (w : World) (s l t d e : Nat) (D : DiskS) (F : List Nat) (A : AbsS) (Y : YS) : Prop where
  own : ∃ bx, SyAt w s (syX l e Y bx 0)
  real : Real w l t d D F A Y.L
  el : El.RealAt w e Y.e
section
variable {w w' : World} {s l t d e : Nat} {D : DiskS} {F : List Nat} {A : AbsS} {Y : YS} {N : Int} {L : LogS}
theorem Rest.ev (h : Rest w s l t d e D F A Y) (hp : Path D [Y.L] N) : Ev w s l t d e D F N Y.L w Y [] [] := by
  obtain ⟨bx, o⟩ := h.own
  exact ⟨bx, ⟨o, rfl, rfl, h.el, ⟨D, F, A, h.real, by simpa using hp, by simp, Grew.refl _ _, fun _ => rfl⟩, rfl, BoxD.nil _ _, Ext.refl _ _⟩, fun i x hx => by simp at hx⟩
theorem Rest.ext0 (h : Rest w s l t d e D F A Y) (he : Ext [] w w') : Rest w' s l t d e D F A Y := by
  obtain ⟨bx, o⟩ := h.own
  exact ⟨⟨bx, he.own o (by simp)⟩, h.real.ext0 he, he.own h.el (by simp)⟩
theorem Rest.vw (h : Rest w s l t d e D F A Y) : ∃ bx, Vw w s (syX l e Y bx 0) Y.L Y.e := by
  obtain ⟨bx, o⟩ := h.own
  exact ⟨bx, o, h.el, t, d, D, F, A, h.real⟩
theorem Ev.rest {w0 : World} {D0 : DiskS} {F0 : List Nat} {L0 : LogS} {S : List LogS} (h : Ev w0 s l t d e D0 F0 N L0 w Y [] S) : ∃ D' F' A', Rest w s l t d e D' F' A' Y ∧ Path D' (L0 :: S) (N + (S.length : Int)) ∧ D'.log.length ≤ D0.log.length + 20 * S.length ∧ Grew w0 F0 F' ∧ (S = [] → D' = D0) := by
  obtain ⟨bx, h, _⟩ := h
  obtain ⟨D', F', A', r, p, q, g, z⟩ := h.cor
  exact ⟨D', F', A', ⟨⟨bx, h.own⟩, r, h.el⟩, p, q, g, z⟩
theorem openS_ok {i : Int} {R : Option Addr → World → Prop} (r : Real w l t d D F A L) (el : El.RealAt w e (El.newF i)) (hR : ∀ s w', w.heap.size ≤ s → Rest w' s l t d e D F A (openY i L) → Ext [e] w w' → R (some ⟨s, 0, none⟩) w') : sync_Open.Call (some ⟨l, 0, none⟩) (some ⟨e, 0, none⟩) w R := by
  apply sync_Open.sound
  unfold sync_Open.B0
  have hlast : L.base + (L.ents.length : Int) ≤ 72057594037927936 := r.ok.last
  have hbase := r.ok.base
  have hl9 : L.last = L.base + (L.ents.length : Int) := rfl
  refine New.mk fun s w1 e1 s1 o1 he1 => ?_
  have r1 := r.ext0 he1
  have el1 : El.RealAt w1 e (El.newF i) := he1.own el (by simp)
  refine rTerm_ok r1 (rVote_ok r1 (El.realRestore_ok el1 (El.newF_wf i) fun w2 el2 he2 => ?_))
  have te := Tys.one el1
  have r2 := r1.extY he2 te (fun q hq => by simp at hq; subst hq; decide)
  have o2 := ownT he2 te o1 (by decide)
  refine rBase_ok r2 (Sts.mk o2 (by simp) rfl fun w3 hs3 o3 he3 => ?_)
  have ts := Tys.one o2
  have r3 := r2.extY he3 ts (fun q hq => by simp at hq; subst hq; decide)
  have el3 : El.RealAt w3 e _ := ownT he3 ts el2 (by decide)
  apply sync_Sync_refresh.sound
  unfold sync_Sync_refresh.B0
  let X0 : SyR := ⟨l, e, L.base, fun _ => 0, fun _ => 0, 0, 0, fun o => (meC (⟨0, 0, 0, 0, 0, 0, 0, false, [], estr⟩, none, 0)).getD (o % 10) undef, 0⟩
  have oX : SyAt w3 s X0 := by
    unfold SyAt
    rw [← fnArr_ext (f := syF X0) (n := 42) (c := putArr #[.pointer (some ⟨l, 0, none⟩), .pointer (some ⟨e, 0, none⟩), .int .i64 0, .int .i64 0, .int .i64 0, .int .i64 0, .int .i64 0, .int .i64 0, .int .i64 0, .int .i64 0, .int .i64 0, .int .i64 0, .int .i64 0, .int .i64 0, .int .i64 0, .int .i64 0, .int .i64 0, .int .i64 0, .bool false, .slice none 0 0, .string (ByteArray.mk #[]), .int .i64 0, .int .i64 0, .int .i64 0, .int .i64 0, .int .i64 0, .int .i64 0, .int .i64 0, .bool false, .slice none 0 0, .string (ByteArray.mk #[]), .int .i64 0, .int .i64 0, .int .i64 0, .int .i64 0, .int .i64 0, .int .i64 0, .int .i64 0, .bool false, .slice none 0 0, .string (ByteArray.mk #[]), .int .i64 0] 2 [.int .i64 L.base]) rfl (fun j hj => by
      have : j = 0 ∨ j = 1 ∨ j = 2 ∨ j = 3 ∨ j = 4 ∨ j = 5 ∨ j = 6 ∨ j = 7 ∨ j = 8 ∨ j = 9 ∨ j = 10 ∨ j = 11 ∨ j = 12 ∨ j = 13 ∨ j = 14 ∨ j = 15 ∨ j = 16 ∨ j = 17 ∨ j = 18 ∨ j = 19 ∨ j = 20 ∨ j = 21 ∨ j = 22 ∨ j = 23 ∨ j = 24 ∨ j = 25 ∨ j = 26 ∨ j = 27 ∨ j = 28 ∨ j = 29 ∨ j = 30 ∨ j = 31 ∨ j = 32 ∨ j = 33 ∨ j = 34 ∨ j = 35 ∨ j = 36 ∨ j = 37 ∨ j = 38 ∨ j = 39 ∨ j = 40 ∨ j = 41 := by omega
      rcases this with rfl | rfl | rfl | rfl | rfl | rfl | rfl | rfl | rfl | rfl | rfl | rfl | rfl | rfl | rfl | rfl | rfl | rfl | rfl | rfl | rfl | rfl | rfl | rfl | rfl | rfl | rfl | rfl | rfl | rfl | rfl | rfl | rfl | rfl | rfl | rfl | rfl | rfl | rfl | rfl | rfl | rfl <;> rfl)]
    exact o3
  obtain ⟨Z, z1, z2⟩ := r3.rl
  refine Pn.mk (oX.ldL (rLast_ok r3 (Pn.mk (oX.stLast fun w4 hs4 o4 he4 => ?_))))
  have t4 : Tys w3 [s] [T_sync_Sync] := Tys.one oX
  have r4 := r3.extY he4 t4 (fun q hq => by simp at hq; subst hq; decide)
  have r4d := r4.ext0 (Ext.drew [] w4)
  have o4d : SyAt w4.drew s { X0 with last := L.last } := o4
  obtain ⟨Z4, y1, y2⟩ := r4d.rl
  refine Pn.mk (o4d.ldL (Pn.mk (o4d.ldI (o := 9) (by omega) rfl (rTermAt_ok (by show -9223372036854775808 ≤ L.last ∧ L.last ≤ 9223372036854775807; omega) y1 y2 r4d.ok fun w5 he5 => ?_))))
  have o5 : SyAt w5 s { X0 with last := L.last } := he5.own o4d (by simp)
  refine Pn.mk (o5.stLt fun w6 hs6 o6 he6 => ?_)
  have t6 : Tys w5 [s] [T_sync_Sync] := Tys.one o5
  have r6 := (r4d.ext0 he5).extY he6 t6 (fun q hq => by simp at hq; subst hq; decide)
  have el4 : El.RealAt w4.drew e (El.restF (El.newF i) L.term L.vote).2 := Own.drew (ownT he4 t4 el3 (by decide))
  have el6 : El.RealAt w6 e _ := ownT he6 t6 (he5.own el4 (by simp)) (by decide)
  refine hR s w6 (by omega) ⟨⟨_, o6⟩, r6, el6⟩ ?_
  have hz := he2.size
  have hz3 := he3.size
  have hz5 := he5.size
  exact ((((he1.nil (T := [e])).trans he2).trans' he3 (fun y hy hl => by simp at hy; omega)).trans' he4 (fun y hy hl => by simp at hy; omega)).trans (((Ext.drew [] w4).trans he5).nil) |>.trans' he6 (fun y hy hl => by simp at hy; omega)
end
end Go.Proofs.Qxb6500430aGreat
