/-
  sync: the core's small calls: looks, refresh, grow, persist, post, flush, reply.
-/
import Derived.Test.Qxb6500430aGreatSyC
set_option linter.unusedVariables false
set_option linter.unusedSimpArgs false
open Go.Vc
namespace Go.Proofs.Qxb6500430aGreat
/-- What can be read. -/
structure Vw (w : World) (s : Nat) (X : SyR) (L : LogS) (es : El.ES) : Prop where
  own : SyAt w s X
  el : El.RealAt w X.e es
  rl : ∃ t d D F A, Real w X.l t d D F A L
section
variable {w w' : World} {s : Nat} {X : SyR} {L : LogS} {es : El.ES}
theorem Vw.ok (h : Vw w s X L es) : LogOk L := by
  obtain ⟨t, d, D, F, A, r⟩ := h.rl
  exact r.ok
theorem Vw.ext0 (h : Vw w s X L es) (he : Ext [] w w') : Vw w' s X L es := by
  obtain ⟨t, d, D, F, A, r⟩ := h.rl
  exact ⟨he.own h.own (by simp), he.own h.el (by simp), t, d, D, F, A, r.ext0 he⟩
theorem Vw.other {Z : List Nat} {ts : List TypeId} (h : Vw w s X L es) (he : Ext Z w w') (hT : Tys w Z ts) (ht : ∀ q ∈ ts, q ∉ CT) : Vw w' s X L es := by
  obtain ⟨t, d, D, F, A, r⟩ := h.rl
  have hno : ∀ {T : TypeId}, T ∈ CT → T ∉ ts := fun hc hx => ht _ hx hc
  refine ⟨ownT he hT h.own (hno (by simp)), ownT he hT h.el (hno (by simp)), t, d, D, F, A, r.extY he hT (fun q hq => ?_)⟩
  have := ht q hq
  simp only [CT, List.mem_cons, List.not_mem_nil, or_false, not_or] at this
  exact ⟨this.2.2.1, this.2.2.2.1, this.2.2.2.2.1, this.2.2.2.2.2.1, this.2.2.2.2.2.2⟩
theorem Vw.cTerm {R : Int → World → Prop} (h : Vw w s X L es) (hR : R L.term w) : Pn (some (⟨s, 0, none⟩ : Addr)) fun a => LdP a w fun x => rlog_Log_Term.Call x w R := by
  obtain ⟨t, d, D, F, A, r⟩ := h.rl
  exact Pn.mk (h.own.ldL (rTerm_ok r hR))
theorem Vw.cVote {R : Int → World → Prop} (h : Vw w s X L es) (hR : R L.vote w) : Pn (some (⟨s, 0, none⟩ : Addr)) fun a => LdP a w fun x => rlog_Log_Vote.Call x w R := by
  obtain ⟨t, d, D, F, A, r⟩ := h.rl
  exact Pn.mk (h.own.ldL (rVote_ok r hR))
theorem Vw.cBase {R : Int → World → Prop} (h : Vw w s X L es) (hR : R L.base w) : Pn (some (⟨s, 0, none⟩ : Addr)) fun a => LdP a w fun x => rlog_Log_Base.Call x w R := by
  obtain ⟨t, d, D, F, A, r⟩ := h.rl
  exact Pn.mk (h.own.ldL (rBase_ok r hR))
theorem Vw.cBaseTerm {R : Int → World → Prop} (h : Vw w s X L es) (hR : R L.bterm w) : Pn (some (⟨s, 0, none⟩ : Addr)) fun a => LdP a w fun x => rlog_Log_BaseTerm.Call x w R := by
  obtain ⟨t, d, D, F, A, r⟩ := h.rl
  exact Pn.mk (h.own.ldL (rBaseTerm_ok r hR))
theorem Vw.cSnap {R : ByteArray → World → Prop} (h : Vw w s X L es) (hR : R L.snap w) : Pn (some (⟨s, 0, none⟩ : Addr)) fun a => LdP a w fun x => rlog_Log_Snap.Call x w R := by
  obtain ⟨t, d, D, F, A, r⟩ := h.rl
  exact Pn.mk (h.own.ldL (rSnap_ok r hR))
theorem Vw.cLast {R : Int → World → Prop} (h : Vw w s X L es) (hR : R L.last w) : Pn (some (⟨s, 0, none⟩ : Addr)) fun a => LdP a w fun x => rlog_Log_Last.Call x w R := by
  obtain ⟨t, d, D, F, A, r⟩ := h.rl
  exact Pn.mk (h.own.ldL (rLast_ok r hR))
theorem Vw.cTermAt {i : Int} {R : Int → Int → World → Prop} (h : Vw w s X L es) (hi : -9223372036854775808 ≤ i ∧ i ≤ 9223372036854775807) (hR : ∀ w', Ext [] w w' → R (termL L i).1 (termL L i).2 w') : Pn (some (⟨s, 0, none⟩ : Addr)) fun a => LdP a w fun x => rlog_Log_TermAt.Call x i w R := by
  obtain ⟨t, d, D, F, A, r⟩ := h.rl
  obtain ⟨Y, y1, y2⟩ := r.rl
  exact Pn.mk (h.own.ldL (rTermAt_ok hi y1 y2 r.ok hR))
theorem Vw.cAt {i : Int} {R : Int → ByteArray → Int → World → Prop} (h : Vw w s X L es) (hi : -9223372036854775808 ≤ i ∧ i ≤ 9223372036854775807) (hR : ∀ w', Ext [] w w' → R (atL L i).1.1 (atL L i).1.2 (atL L i).2 w') : Pn (some (⟨s, 0, none⟩ : Addr)) fun a => LdP a w fun x => rlog_Log_At.Call x i w R := by
  obtain ⟨t, d, D, F, A, r⟩ := h.rl
  obtain ⟨Y, y1, y2⟩ := r.rl
  exact Pn.mk (h.own.ldL (rAt_ok hi y1 y2 r.ok hR))
theorem Vw.eId {R : Int → World → Prop} (h : Vw w s X L es) (hR : R es.id w) : Pn (some (⟨s, 0, none⟩ : Addr)) fun a => LdP (Addr.add a 1) w fun x => elect_Elect_Id.Call x w R := Pn.mk (h.own.ldE (El.realId_ok h.el hR))
theorem Vw.eTerm {R : Int → World → Prop} (h : Vw w s X L es) (hR : R es.term w) : Pn (some (⟨s, 0, none⟩ : Addr)) fun a => LdP (Addr.add a 1) w fun x => elect_Elect_Term.Call x w R := Pn.mk (h.own.ldE (El.realTerm_ok h.el hR))
theorem Vw.eVote {R : Int → World → Prop} (h : Vw w s X L es) (hw : es.Wf) (hR : R es.vote w) : Pn (some (⟨s, 0, none⟩ : Addr)) fun a => LdP (Addr.add a 1) w fun x => elect_Elect_Vote.Call x w R := Pn.mk (h.own.ldE (El.raw_vote h.el hw.role hw.vote hw.leader hR))
theorem Vw.eRole {R : Int → World → Prop} (h : Vw w s X L es) (hw : es.Wf) (hR : R es.role w) : Pn (some (⟨s, 0, none⟩ : Addr)) fun a => LdP (Addr.add a 1) w fun x => elect_Elect_Role.Call x w R := Pn.mk (h.own.ldE (El.raw_role h.el hw.role hw.vote hw.leader hR))
theorem Vw.eLeader {R : Int → World → Prop} (h : Vw w s X L es) (hw : es.Wf) (hR : R es.leader w) : Pn (some (⟨s, 0, none⟩ : Addr)) fun a => LdP (Addr.add a 1) w fun x => elect_Elect_Leader.Call x w R := Pn.mk (h.own.ldE (El.raw_leader h.el hw.role hw.vote hw.leader hR))
end
section
variable {w0 w w' : World} {s l t d e : Nat} {D0 : DiskS} {F0 : List Nat} {N : Int} {L0 : LogS} {X : SyR} {L : LogS} {es : El.ES} {Y : YS} {B : List ME} {S T : List LogS}
theorem EvX.vw (h : EvX w0 s l t d e D0 F0 N L0 w X L es B S) : Vw w s X L es := by
  obtain ⟨D, F, A, r, _⟩ := h.cor
  exact ⟨h.own, by rw [h.xe]; exact h.el, t, d, D, F, A, by rw [h.xl]; exact r⟩
theorem Ev.vw (h : Ev w0 s l t d e D0 F0 N L0 w Y B S) : ∃ bx, Vw w s (syX l e Y bx B.length) Y.L Y.e := by
  obtain ⟨bx, h, _⟩ := h
  exact ⟨bx, h.vw⟩
theorem Ev.lok (h : Ev w0 s l t d e D0 F0 N L0 w Y B S) : LogOk Y.L := by
  obtain ⟨bx, h⟩ := h.vw
  exact h.ok
theorem CTs {T : TypeId} (h : T ∈ CT) {w w' : World} {k : Nat} {cs : Array Value} (ho : Own w k cs T) (he : Ext [k] w w') : ExtT w w' CT := (ExtT.of he (Tys.one ho)).mono (fun t ht => by simp only [List.mem_singleton] at ht; rw [ht]; exact h)
theorem refresh_ok {R : World → Prop} (h : EvX w0 s l t d e D0 F0 N L0 w X L es B S) (hR : ∀ w', EvX w0 s l t d e D0 F0 N L0 w' { X with last := L.last, lt := (termL L L.last).1 } L es B S → ExtT w w' CT → R w') : sync_Sync_refresh.Call (some ⟨s, 0, none⟩) w R := by
  apply sync_Sync_refresh.sound
  unfold sync_Sync_refresh.B0
  have hl := h.vw.ok.last
  have hb := h.vw.ok.base
  refine h.vw.cLast (Pn.mk (h.own.stLast fun w2 hs2 o2 he2 => ?_))
  have h2 := (h.st o2 rfl rfl he2).ext0 (Ext.drew [] w2)
  obtain ⟨D, F, A, r, _⟩ := h2.cor
  obtain ⟨Z, z1, z2⟩ := r.rl
  refine Pn.mk (h2.own.ldL (Pn.mk (h2.own.ldI (o := 9) (by omega) rfl ?_)))
  show rlog_Log_TermAt.Call (some ⟨X.l, 0, none⟩) L.last w2.drew _
  rw [h.xl]
  refine rTermAt_ok (by unfold LogS.last; omega) z1 z2 r.ok fun w3 he3 => Pn.mk ((h2.ext0 he3).own.stLt fun w4 hs4 o4 he4 => hR w4 ((h2.ext0 he3).st o4 rfl rfl he4) ?_)
  exact ((CTs (by simp) h.own he2).trans (ExtT.nil ((Ext.drew _ _).trans he3) _)).trans (CTs (by simp) (h2.ext0 he3).own he4)
theorem last_append {tm : Int} {dd : ByteArray} (L : LogS) (h : (appendS tm dd L).1 = 0) : (finL L (appendS tm dd L).2).last = L.last + 1 ∧ (termL (finL L (appendS tm dd L).2) (finL L (appendS tm dd L).2).last).1 = tm := by
  unfold appendS at h ⊢
  split
  · rename_i c; rw [if_pos c] at h; cases h
  · rename_i c
    rw [if_neg c] at h
    split
    · rename_i c2; rw [if_pos c2] at h; cases h
    · have e : finL L [{ L with ents := L.ents ++ [(tm, dd)] }] = { L with ents := L.ents ++ [(tm, dd)] } := rfl
      simp only [e]
      unfold termL atL LogS.last
      simp only [List.length_append, List.length_singleton]
      refine ⟨by omega, ?_⟩
      rw [if_neg (by omega), if_neg (by omega), if_neg (by omega)]
      simp only
      rw [show (L.base + ((L.ents.length + 1 : Nat) : Int) - L.base - 1).toNat = L.ents.length by omega]
      simp
theorem append_err {tm : Int} {dd : ByteArray} {L : LogS} (h : (appendS tm dd L).1 ≠ 0) : (appendS tm dd L).2 = [] := by
  unfold appendS at h ⊢
  split
  · rfl
  · rename_i c
    rw [if_neg c] at h
    split
    · rfl
    · rename_i c2; rw [if_neg c2] at h; exact absurd rfl h
theorem grow_ok {tm : Int} {dd : ByteArray} {R : Int → World → Prop} (h : Ev w0 s l t d e D0 F0 N L0 w Y B S) (hlog : D0.log.length + 20 * S.length ≤ 900)
    (hR : ∀ w', Ev w0 s l t d e D0 F0 N L0 w' (setL Y (appendS tm dd Y.L).2) B (S ++ (appendS tm dd Y.L).2) → ExtT w w' CT → R (appendS tm dd Y.L).1 w') : sync_Sync_grow.Call (some ⟨s, 0, none⟩) tm dd w R := by
  apply sync_Sync_grow.sound
  unfold sync_Sync_grow.B0
  refine New.mk fun eb w1 e1 s1 o1 he1 => ?_
  have E1 : Ext [] w w1.drew := he1.trans (Ext.drew _ _)
  obtain ⟨bx, h, hb⟩ := h
  have h1 := h.ext0 E1
  have o1d : Own w1.drew eb #[.int .i64 tm, .string dd] T_api_Entry := o1
  refine Pn.mk (h1.own.ldL (LdI.mk o1d rfl (LdS.mk o1d rfl ?_)))
  rw [show (syX l e Y bx B.length).l = l from rfl]
  obtain ⟨D, F, A, r, p, q, g, z⟩ := h1.cor
  refine realAppend_ok r p (by rw [h1.fin]; exact finL_mem _ _) (by omega) fun w2 d2 => ?_
  obtain ⟨h2, x2⟩ := h1.did r q g z p d2
  have o2 := x2.own o1d (by decide)
  have hl := h1.vw.ok.last
  have hbs := h1.vw.ok.base
  refine Bm.mk (fun hok => ?_) fun hno => ?_
  · have hok' : (appendS tm dd Y.L).1 = 0 := by simpa using hok
    obtain ⟨la, lt⟩ := last_append Y.L hok'
    refine Pn.mk (h2.own.ldI (o := 9) (by omega) rfl (Pn.mk (h2.own.stLast fun w3 hs3 o3 he3 => ?_)))
    have h3 := h2.st o3 rfl rfl he3
    have c3 := CTs (by simp) h2.own he3
    refine LdI.mk (c3.own o2 (by decide)) rfl (Pn.mk (h3.own.stLt fun w4 hs4 o4 he4 => hR w4 ⟨bx, ?_, hb⟩ ?_))
    · have h4 : EvX w0 s l t d e D0 F0 N L0 w4 (SyR.mk l e Y.cm Y.nx Y.mt (IntKind.i64.wrap (Y.L.last + 1)) tm bx (B.length : Int)) (finL Y.L (appendS tm dd Y.L).2) Y.e B (S ++ (appendS tm dd Y.L).2) := h3.st o4 rfl rfl he4
      have ex : SyR.mk l e Y.cm Y.nx Y.mt (IntKind.i64.wrap (Y.L.last + 1)) tm bx (B.length : Int) = syX l e (setL Y (appendS tm dd Y.L).2) bx B.length := by
        show _ = SyR.mk l e Y.cm Y.nx Y.mt (finL Y.L (appendS tm dd Y.L).2).last (termL (finL Y.L (appendS tm dd Y.L).2) (finL Y.L (appendS tm dd Y.L).2).last).1 bx (B.length : Int)
        rw [lt, la, w64 (by unfold LogS.last; omega) (by unfold LogS.last; omega)]
      rw [ex] at h4
      exact h4
    · exact ((ExtT.nil E1 _).trans x2).trans (c3.trans (CTs (by simp) h3.own he4))
  · have hno' : (appendS tm dd Y.L).1 ≠ 0 := by simpa using hno
    refine hR w2 ⟨bx, ?_, hb⟩ ((ExtT.nil E1 _).trans x2)
    have en := append_err hno'
    rw [en] at h2 ⊢
    exact h2
theorem persist_ok {R : World → Prop} (h : Ev w0 s l t d e D0 F0 N L0 w Y B S) (hw : Y.e.Wf) (hN : N + (S.length : Int) ≤ 4611686018427387904) (hlog : D0.log.length + 20 * S.length ≤ 900)
    (hR : ∀ w', Ev w0 s l t d e D0 F0 N L0 w' (persF Y) B (S ++ persS Y) → ExtT w w' CT → R w') : sync_Sync_persist.Call (some ⟨s, 0, none⟩) w R := by
  apply sync_Sync_persist.sound
  unfold sync_Sync_persist.B0
  obtain ⟨bx, h, hb⟩ := h
  refine h.vw.eTerm (h.vw.eVote hw (h.vw.cTerm (h.vw.cVote ?_)))
  have yes : (Y.e.term ≠ Y.L.term ∨ Y.e.vote ≠ Y.L.vote) → sync_Sync_persist.B1 (some ⟨s, 0, none⟩) Y.e.term Y.e.vote true w R := fun hc => by
    unfold sync_Sync_persist.B1
    refine Bm.pos rfl (Pn.mk (h.own.ldL ?_))
    rw [show (syX l e Y bx B.length).l = l from rfl]
    obtain ⟨D, F, A, r, p, q, g, z⟩ := h.cor
    have hp : persS Y = (setTermS Y.e.term Y.e.vote Y.L).2 := by unfold persS; rw [if_pos hc]
    refine realSetTerm_ok r p (by rw [h.fin]; exact finL_mem _ _) hN (by omega) fun w2 d2 => ?_
    obtain ⟨h2, x2⟩ := h.did r q g z p d2
    refine hR w2 ⟨bx, ?_, hb⟩ x2
    have ex : syX l e (persF Y) bx B.length = syX l e Y bx B.length := by
      unfold persF
      rw [hp]
      unfold setTermS
      split <;> rfl
    rw [ex]
    unfold persF setL
    rw [hp]
    exact h2
  by_cases c1 : Y.e.term = Y.L.term
  · refine Bm.neg (by simpa using c1) ?_
    by_cases c2 : Y.e.vote = Y.L.vote
    · rw [show (Y.e.vote != Y.L.vote) = false by simpa using c2]
      unfold sync_Sync_persist.B1
      have hp : persS Y = [] := by unfold persS; rw [if_neg (by simp [c1, c2])]
      refine Bm.neg rfl (hR w ⟨bx, ?_, hb⟩ (ExtT.refl _ _))
      unfold persF
      rw [hp, List.append_nil]
      exact h
    · rw [show (Y.e.vote != Y.L.vote) = true by simpa using c2]
      exact yes (.inr c2)
  · exact Bm.pos (by simpa using c1) (yes (.inl c1))
/-- The box's cells turned. -/
theorem SyAt.stBx {K : World → Prop} {i : Nat} {vs : List Value} (h : SyAt w s X) (hv : vs.length = 10) (hi : i < 3) (h1 : vs.all Value.oneCell' = true) (hk : ∀ w', w'.heap.size = w.heap.size → SyAt w' s { X with bx := fun o => if i * 10 ≤ o ∧ o < i * 10 + 10 then vs.getD (o - i * 10) undef else X.bx o } → Ext [s] w w' → K w') : Sts vs (Addr.add (Addr.add ⟨s, 0, none⟩ 11) ((i : Int).toNat * 10)) 0 w K := by
  rw [add_mk, add_mk, Int.toNat_natCast]
  refine Sts.fn (g := syF { X with bx := fun o => if i * 10 ≤ o ∧ o < i * 10 + 10 then vs.getD (o - i * 10) undef else X.bx o }) h (by rw [hv]; omega) h1 (fun j hj => ?_) hk
  unfold fnPut
  rw [hv]
  by_cases c : 11 ≤ j ∧ j < 41
  · obtain ⟨o, rfl⟩ : ∃ o, j = 11 + o := ⟨j - 11, by omega⟩
    rw [syF_bx (by omega), syF_bx (by omega)]
    by_cases c2 : i * 10 ≤ o ∧ o < i * 10 + 10
    · rw [if_pos (by omega)]
      show _ = if i * 10 ≤ o ∧ o < i * 10 + 10 then vs.getD (o - i * 10) undef else X.bx o
      rw [if_pos c2, show 11 + o - (0 + 11 + i * 10) = o - i * 10 by omega]
    · rw [if_neg (by omega)]
      show _ = if i * 10 ≤ o ∧ o < i * 10 + 10 then vs.getD (o - i * 10) undef else X.bx o
      rw [if_neg c2]
  · rw [if_neg (by omega)]
    by_cases c11 : j < 11
    · unfold syF
      by_cases a0 : j = 0
      · simp [a0]
      · by_cases a1 : j = 1
        · simp [a1]
        · by_cases a2 : j = 2
          · simp [a2]
          · by_cases a3 : j < 6
            · simp only [if_neg a0, if_neg a1, if_neg a2, if_pos a3]
            · by_cases a4 : j < 9
              · simp only [if_neg a0, if_neg a1, if_neg a2, if_neg a3, if_pos a4]
              · by_cases a5 : j = 9
                · simp [a5]
                · have a6 : j = 10 := by omega
                  simp [a6]
    · have a7 : j = 41 := by omega
      subst a7
      rfl
theorem post_ok {m : MsgV} {b : Option Addr} {ll c : Nat} {R : World → Prop} (h : Ev w0 s l t d e D0 F0 N L0 w Y B S) (hB : B.length < 3) (hl : m.ents.length = ll) (hE : EA w b m.ents.length c m.ents) (hg : ∀ k ∈ rowBlk b, w0.heap.size ≤ k) (hap : ∀ x ∈ B, ∀ k ∈ rowBlk x.2.1, k ∉ rowBlk b)
    (hR : ∀ w', Ev w0 s l t d e D0 F0 N L0 w' Y (B ++ [(m, b, c)]) S → ExtT w w' CT → R w') : sync_Sync_post.Call (some ⟨s, 0, none⟩) m.kind m.fr m.to m.term m.idx m.lt m.cm m.ok b ll c m.data w R := by
  apply sync_Sync_post.sound
  unfold sync_Sync_post.B0
  subst hl
  refine New.mk fun mb w1 e1 s1 o1 he1 => ?_
  have E1 : Ext [] w w1.drew := he1.trans (Ext.drew _ _)
  obtain ⟨bx, h, hb⟩ := h
  have ha := h.ext0 he1
  have h1 := h.ext0 E1
  have om : Own w1.drew mb (msgC m b m.ents.length c).toArray T_api_Msg := o1
  refine Pn.mk (ha.own.ldI (o := 41) (by omega) rfl (Bm.pos (by show decide ((B.length : Int) < 3) = true; simp; omega) (Pn.mk (h1.own.ldI (o := 41) (by omega) rfl ?_))))
  refine LdI.mk om rfl (LdI.mk om rfl (LdI.mk om rfl (LdI.mk om rfl (LdI.mk om rfl (LdI.mk om rfl (LdI.mk om rfl (LdB.mk om rfl (LdL.mk om rfl (LdS.mk om rfl (Pn.mk ⟨⟨?_, ?_⟩, ?_⟩))))))))))
  · show (0 : Int) ≤ (B.length : Int); omega
  · show (B.length : Int) < _; omega
  show Sts (msgC m b m.ents.length c) (Addr.add (Addr.add ⟨s, 0, none⟩ 11) ((B.length : Int).toNat * 10)) 0 w1.drew _
  refine h1.own.stBx rfl hB rfl fun w2 hs2 o2 he2 => ?_
  have h2 := h1.st o2 rfl rfl he2
  have c2 := CTs (by simp) h1.own he2
  refine Pn.mk (h2.own.ldI (o := 41) (by omega) rfl (Pn.mk (h2.own.stNb fun w3 hs3 o3 he3 => ?_)))
  have h3 := h2.st o3 rfl rfl he3
  have c3 := CTs (by simp) h2.own he3
  have cc := (ExtT.nil E1 CT).trans (c2.trans c3)
  refine hR w3 ⟨fun o => if B.length * 10 ≤ o ∧ o < B.length * 10 + 10 then (msgC m b m.ents.length c).getD (o - B.length * 10) undef else bx o, ⟨?_, rfl, rfl, h3.el, h3.cor, h3.fin, ⟨fun x hx => ?_, ?_, fun x hx => ?_⟩, h3.ext⟩, fun i x hi j hj => ?_⟩ cc
  · have e41 : IntKind.i64.wrap ((B.length : Int) + 1) = (((B ++ [(m, b, c)] : List ME).length : Nat) : Int) := by
      rw [w64 (by omega) (by omega)]; simp
    have o3' := o3
    show SyAt w3 s ⟨l, e, Y.cm, Y.nx, Y.mt, Y.L.last, Y.lastT, _, (((B ++ [(m, b, c)] : List ME).length : Nat) : Int)⟩
    rw [← e41]
    exact o3'
  · rcases List.mem_append.1 hx with q | q
    · exact h3.bd.dat x q
    · simp at q
      subst q
      exact cc.row hE (by decide)
  · refine List.pairwise_append.2 ⟨h3.bd.apart, List.pairwise_singleton _ _, fun x hx y hy => ?_⟩
    simp at hy
    subst hy
    exact hap x hx
  · rcases List.mem_append.1 hx with q | q
    · exact h3.bd.ge x q
    · simp at q
      subst q
      exact hg
  · show (if B.length * 10 ≤ i * 10 + j ∧ i * 10 + j < B.length * 10 + 10 then (msgC m b m.ents.length c).getD (i * 10 + j - B.length * 10) undef else bx (i * 10 + j)) = _
    have hil := (List.getElem?_eq_some_iff.1 hi).1
    simp at hil
    by_cases c4 : i < B.length
    · rw [List.getElem?_append_left c4] at hi
      rw [if_neg (by omega)]
      exact hb i x hi j hj
    · have ei : i = B.length := by omega
      subst ei
      rw [List.getElem?_append_right (Nat.le_refl _), Nat.sub_self] at hi
      simp at hi
      subst hi
      rw [if_pos (by omega), show B.length * 10 + j - B.length * 10 = j by omega]
      rfl
theorem reply_ok {k p i : Int} {ok : Bool} {R : World → Prop} (h : Ev w0 s l t d e D0 F0 N L0 w Y B S) (hB : B.length < 3)
    (hR : ∀ w', Ev w0 s l t d e D0 F0 N L0 w' Y (B ++ [(replyF k p ok i Y, none, 0)]) S → ExtT w w' CT → R w') : sync_Sync_reply.Call (some ⟨s, 0, none⟩) k p ok i w R := by
  apply sync_Sync_reply.sound
  unfold sync_Sync_reply.B0
  obtain ⟨bx, v⟩ := h.vw
  refine v.eId (v.eTerm ?_)
  exact post_ok (m := replyF k p ok i Y) h hB rfl (EA.nil w) (fun k hk => by cases hk) (fun x hx k hk hz => by cases hz) hR
end
end Go.Proofs.Qxb6500430aGreat
