/-
  rlog: the model's observers and changing calls.
-/
import Derived.Test.Qxb6500430aGreatRlF
set_option linter.unusedVariables false
set_option linter.unusedSimpArgs false
open Go.Vc
namespace Go.Proofs.Qxb6500430aGreat

theorem finL_app (L : LogS) (S T : List LogS) : finL (finL L S) T = finL L (S ++ T) := by
  unfold finL
  cases T with
  | nil => simp
  | cons a T => simp [List.getLastD_eq_getLast?, List.getLast?_append]
theorem popsN_snoc : ∀ (k : Nat) (L : LogS), popsN (k + 1) L = popsN k L ++ [popL (popK k L)]
  | 0, L => rfl
  | k + 1, L => by
    show popL L :: popsN (k + 1) (popL L) = popL L :: popsN k (popL L) ++ [popL (popK k (popL L))]
    rw [popsN_snoc k (popL L)]
    rfl
theorem pop_getD (L : LogS) {q : Nat} : (popL L).ents.getD q ze = if q = L.ents.length - 1 then ze else L.ents.getD q ze := by
  show L.ents.dropLast.getD q ze = _
  rw [List.getD_eq_getElem?_getD, List.getD_eq_getElem?_getD, List.getElem?_dropLast]
  by_cases c : q < L.ents.length - 1
  · rw [if_pos c, if_neg (by omega)]
  · rw [if_neg c]
    by_cases e : q = L.ents.length - 1
    · rw [if_pos e]; rfl
    · rw [if_neg e, List.getElem?_eq_none (by omega)]
theorem app_getD (L : LogS) (e : Int × ByteArray) {q : Nat} : (L.ents ++ [e]).getD q ze = if q = L.ents.length then e else L.ents.getD q ze := by
  rw [List.getD_eq_getElem?_getD, List.getD_eq_getElem?_getD]
  by_cases c : q < L.ents.length
  · rw [List.getElem?_append_left c, if_neg (by omega)]
  · rw [List.getElem?_append_right (by omega)]
    by_cases h : q = L.ents.length
    · rw [if_pos h, h, Nat.sub_self]; rfl
    · rw [if_neg h, List.getElem?_eq_none (by simp; omega), List.getElem?_eq_none (by omega)]
structure MDid (w : World) (q : Nat) (M : MSt) (L : LogS) (S : List LogS) (M' : MSt) (w' : World) : Prop where
  at_ : MdAt w' q M'
  A : M'.A = gs (finL L S)
  A0 : M'.A0 = M.A0
  H : M'.H.map (·.2) = M.H.map (·.2) ++ S.map gs
  s : M'.s = M.s
  ext : Ext (M.foot q) w w'
  grew : Grew w (M.foot q) (M'.foot q)
section
variable {w w' w1 : World} {q : Nat} {M M' M1 : MSt} {L : LogS} {S T : List LogS}
theorem MdAt.ldQ {K : Option Addr → Prop} (h : MdAt w q M) (hk : K (some ⟨M.s, 0, none⟩)) : LdP ⟨q, 0, none⟩ w K := LdP.mk h.own rfl hk
theorem MdAt.ldI {K : Int → Prop} (o : Nat) (x : Int) (h : MdAt w q M) (ho : o < 18) (hv : gF M.A.L M.A.n o = .int .i64 x) (hk : K x) : LdI .i64 ⟨M.s, o, none⟩ w K := LdI.fn h.cur ho hv hk
theorem MdAt.ldS {K : ByteArray → Prop} (o : Nat) (x : ByteArray) (h : MdAt w q M) (ho : o < 18) (hv : gF M.A.L M.A.n o = .string x) (hk : K x) : LdS ⟨M.s, o, none⟩ w K := LdS.fn h.cur ho hv hk
theorem MDid.len (h : MDid w q M L S M' w') : M'.H.length = M.H.length + S.length := by
  have := congrArg List.length h.H
  simpa using this
theorem MDid.refl (h : MdAt w q M) (hA : M.A = gs L) (he : Ext [] w w') : MDid w q M L [] M w' :=
  ⟨h.ext0 he, hA, rfl, by simp, rfl, he.nil, Grew.refl _ _⟩
theorem MDid.trans (h : MDid w q M L S M1 w1) (h2 : MDid w1 q M1 (finL L S) T M' w') : MDid w q M L (S ++ T) M' w' :=
  ⟨h2.at_, by rw [h2.A, finL_app], by rw [h2.A0, h.A0], by rw [h2.H, h.H]; simp, by rw [h2.s, h.s], h.ext.trans' h2.ext (fun x hx hlt => by
    rcases h.grew x hx with z | z
    · exact z
    · omega), h.grew.trans h.ext.size h2.grew⟩
theorem MDid.ext0 (h : MDid w1 q M L S M' w') (he : Ext [] w w1) : MDid w q M L S M' w' :=
  ⟨h.at_, h.A, h.A0, h.H, h.s, he.nil.trans h.ext, fun k hk => (h.grew k hk).imp id (fun z => by have := he.size; omega)⟩
theorem MDid.ext1 (h : MDid w q M L S M' w1) (he : Ext [] w1 w') : MDid w q M L S M' w' :=
  ⟨h.at_.ext0 he, h.A, h.A0, h.H, h.s, h.ext.trans he.nil, h.grew⟩
theorem mdFin {L' : LogS} {R : World → Prop} (h1 : MdAt w1 q { M with A := gs L' }) (hl : M.H.length ≤ 1000) (he : Ext [M.s] w w1) (hR : ∀ M' w', MDid w q M L [L'] M' w' → R w') : rlogm_Log_step.Call (some ⟨q, 0, none⟩) w1 R := by
  refine mdStep_ok h1 hl fun n hb hc w2 hn h2 he2 hb2 => ?_
  have hz := he.size
  refine hR _ w2 ⟨h2, rfl, rfl, by simp, rfl, ?_, fun k hk => ?_⟩
  · refine (he.mono (fun x hx _ => by simp at hx; simp [MSt.foot, hx])).trans (he2.mono (fun x hx _ => ?_))
    simp only [List.mem_cons] at hx
    simp only [MSt.foot, List.mem_cons]
    rcases hx with e | e
    · exact .inl e
    · exact .inr (.inr e)
  · simp only [MSt.foot, List.mem_cons] at hk ⊢
    rcases hk with e | e | e
    · exact .inl (.inl e)
    · exact .inl (.inr (.inl e))
    · rcases hb2 k e with q1 | q1
      · exact .inl (.inr (.inr q1))
      · exact .inr (by omega)
theorem mTerm_ok {R : Int → World → Prop} (h : MdAt w q M) (hA : M.A = gs L) (hR : R L.term w) : rlogm_Log_Term.Call (some ⟨q, 0, none⟩) w R := by
  apply rlogm_Log_Term.sound
  unfold rlogm_Log_Term.B0
  exact Pn.mk (h.ldQ (Pn.mk (h.ldI 0 L.term (by omega) (by rw [hA]; rfl) hR)))
theorem mVote_ok {R : Int → World → Prop} (h : MdAt w q M) (hA : M.A = gs L) (hR : R L.vote w) : rlogm_Log_Vote.Call (some ⟨q, 0, none⟩) w R := by
  apply rlogm_Log_Vote.sound
  unfold rlogm_Log_Vote.B0
  exact Pn.mk (h.ldQ (Pn.mk (h.ldI 1 L.vote (by omega) (by rw [hA]; rfl) hR)))
theorem mBase_ok {R : Int → World → Prop} (h : MdAt w q M) (hA : M.A = gs L) (hR : R L.base w) : rlogm_Log_Base.Call (some ⟨q, 0, none⟩) w R := by
  apply rlogm_Log_Base.sound
  unfold rlogm_Log_Base.B0
  exact Pn.mk (h.ldQ (Pn.mk (h.ldI 2 L.base (by omega) (by rw [hA]; rfl) hR)))
theorem mBaseTerm_ok {R : Int → World → Prop} (h : MdAt w q M) (hA : M.A = gs L) (hR : R L.bterm w) : rlogm_Log_BaseTerm.Call (some ⟨q, 0, none⟩) w R := by
  apply rlogm_Log_BaseTerm.sound
  unfold rlogm_Log_BaseTerm.B0
  exact Pn.mk (h.ldQ (Pn.mk (h.ldI 3 L.bterm (by omega) (by rw [hA]; rfl) hR)))
theorem mSnap_ok {R : ByteArray → World → Prop} (h : MdAt w q M) (hA : M.A = gs L) (hR : R L.snap w) : rlogm_Log_Snap.Call (some ⟨q, 0, none⟩) w R := by
  apply rlogm_Log_Snap.sound
  unfold rlogm_Log_Snap.B0
  exact Pn.mk (h.ldQ (Pn.mk (h.ldS 4 L.snap (by omega) (by rw [hA]; rfl) hR)))
theorem mLast_ok {R : Int → World → Prop} (h : MdAt w q M) (hA : M.A = gs L) (hk : LogOk L) (hR : R L.last w.drew) : rlogm_Log_Last.Call (some ⟨q, 0, none⟩) w R := by
  apply rlogm_Log_Last.sound
  unfold rlogm_Log_Last.B0
  have hb := hk.base
  have hla := hk.last
  have hd := h.ext0 (Ext.drew [] w)
  refine Pn.mk (hd.ldQ (Pn.mk (hd.ldI 2 L.base (by omega) (by rw [hA]; rfl) (Pn.mk (hd.ldQ (Pn.mk (hd.ldI 5 (L.ents.length : Int) (by omega) (by rw [hA]; rfl) ?_)))))))
  rw [w64 (by omega) (by omega)]
  exact hR
theorem mAt_ok {i : Int} {R : Int → ByteArray → Int → World → Prop} (hi : -9223372036854775808 ≤ i ∧ i ≤ 9223372036854775807) (h : MdAt w q M) (hA : M.A = gs L) (hk : LogOk L) (hR : ∀ w', Ext [] w w' → R (atL L i).1.1 (atL L i).1.2 (atL L i).2 w') : rlogm_Log_At.Call (some ⟨q, 0, none⟩) i w R := by
  apply rlogm_Log_At.sound
  unfold rlogm_Log_At.B0
  have hb := hk.base
  have hl := hk.last
  have hn := hk.len
  refine New.mk fun r w1 e1 s1 o1 he1 => ?_
  have h1 := h.ext0 he1
  have fin : ∀ w2, Ext [r] w1 w2 → Ext [] w w2 := fun w2 h => he1.trans' h (fun x hx hlt => by simp at hx; omega)
  unfold atL at hR
  refine Pn.mk (h1.ldQ (Pn.mk (h1.ldI 2 L.base (by omega) (by rw [hA]; rfl) ?_)))
  refine Bm.ite (fun hc => ?_) fun hc => mLast_ok h1 hA hk ?_
  · rw [if_pos hc] at hR
    exact Sts.full (vs := [.int .i64 0, .string estr]) o1 rfl rfl fun w2 hs2 o2 he2 => LdI.mk o2 rfl (LdS.mk o2 rfl (hR w2 (fin w2 he2)))
  rw [if_neg hc] at hR
  have o1d := Own.drew o1
  have h1d := h1.ext0 (Ext.drew [] w1)
  have h1dd := h1d.ext0 (Ext.drew [] w1.drew)
  refine Bm.ite (fun hc2 => ?_) fun hc2 => ?_
  · rw [if_pos hc2] at hR
    exact Sts.full (w := w1.drew) (vs := [.int .i64 0, .string estr]) o1d rfl rfl fun w2 hs2 o2 he2 => LdI.mk o2 rfl (LdS.mk o2 rfl (hR w2 (fin w2 ((Ext.drew _ _).trans he2))))
  rw [if_neg hc2] at hR
  unfold LogS.last at hc2
  refine Pn.mk (h1dd.ldQ (Pn.mk (h1dd.ldQ (Pn.mk (h1dd.ldI 2 L.base (by omega) (by rw [hA]; rfl) (Pn.mk ?_))))))
  rw [w64 (x := i - L.base) (by omega) (by omega), w64 (by omega) (by omega)]
  refine ⟨⟨by omega, by omega⟩, ?_⟩
  simp only [add_mk, Nat.zero_add]
  refine h1dd.ldI _ (L.ents.getD (i - L.base - 1).toNat ze).1 (by omega) (by rw [hA]; exact gF_t _ _ _) (h1dd.ldS _ (L.ents.getD (i - L.base - 1).toNat ze).2 (by omega) (by rw [hA]; exact gF_d _ _ _) ?_)
  exact Sts.full (w := w1.drew.drew) (vs := [.int .i64 (L.ents.getD (i - L.base - 1).toNat ze).1, .string (L.ents.getD (i - L.base - 1).toNat ze).2]) (Own.drew o1d) rfl rfl fun w2 hs2 o2 he2 => LdI.mk o2 rfl (LdS.mk o2 rfl (hR w2 (fin w2 (((Ext.drew _ _).trans (Ext.drew _ _)).trans he2))))
theorem mTermAt_ok {i : Int} {R : Int → Int → World → Prop} (hi : -9223372036854775808 ≤ i ∧ i ≤ 9223372036854775807) (h : MdAt w q M) (hA : M.A = gs L) (hk : LogOk L) (hR : ∀ w', Ext [] w w' → R (termL L i).1 (termL L i).2 w') : rlogm_Log_TermAt.Call (some ⟨q, 0, none⟩) i w R := by
  apply rlogm_Log_TermAt.sound
  unfold rlogm_Log_TermAt.B0
  unfold termL at hR
  refine Pn.mk (h.ldQ (Pn.mk (h.ldI 2 L.base (by omega) (by rw [hA]; rfl) ?_)))
  by_cases e : i = L.base
  · rw [if_pos e] at hR
    exact Bm.pos (by simpa using e) (Pn.mk (h.ldQ (Pn.mk (h.ldI 3 L.bterm (by omega) (by rw [hA]; rfl) (hR w (Ext.refl _ _))))))
  · rw [if_neg e] at hR
    refine Bm.neg (by simpa using e) (mAt_ok hi h hA hk fun w1 he1 => New.mk fun r w2 e2 s2 o2 he2 => Sts.full (vs := [.int .i64 (atL L i).1.1, .string (atL L i).1.2]) o2 rfl rfl fun w3 hs3 o3 he3 => LdI.mk o3 rfl (hR w3 ((he1.trans he2).trans' he3 (fun x hx hlt => by simp at hx; have := he1.size; omega))))
/-! ### changing calls -/
theorem mSetTerm_ok {tm vt : Int} {R : Int → World → Prop} (h : MdAt w q M) (hA : M.A = gs L) (hl : M.H.length ≤ 1000) (hR : ∀ M' w', MDid w q M L (setTermS tm vt L).2 M' w' → R (setTermS tm vt L).1 w') : rlogm_Log_SetTerm.Call (some ⟨q, 0, none⟩) tm vt w R := by
  apply rlogm_Log_SetTerm.sound
  unfold rlogm_Log_SetTerm.B0
  unfold setTermS at hR
  have bad : (tm < 0 ∨ 72057594037927936 < tm ∨ vt < -1 ∨ 3 ≤ vt) → rlogm_Log_SetTerm.B1 (some ⟨q, 0, none⟩) tm vt true w R := fun hc => by
    unfold rlogm_Log_SetTerm.B1
    rw [if_pos hc] at hR
    exact Bm.pos rfl (hR M w (.refl h hA (Ext.refl _ _)))
  refine Bm.ite (fun q => bad (.inl q)) fun a1 => Bm.ite (fun q => bad (.inr (.inl q))) fun a2 => Bm.ite (fun q => bad (.inr (.inr (.inl q)))) fun a3 => ?_
  by_cases a4 : vt ≥ 3
  · rw [decide_eq_true a4]; exact bad (.inr (.inr (.inr a4)))
  rw [decide_eq_false a4]
  rw [if_neg (by omega)] at hR
  unfold rlogm_Log_SetTerm.B1
  have hd := h.ext0 (Ext.drew [] w)
  refine Bm.neg rfl (Pn.mk (hd.ldQ (Pn.mk (hd.ldQ (Pn.mk (hd.stS (o := 0) (A' := ⟨{ L with term := tm }, L.ents.length⟩) (by simp) rfl (by rw [hA]; exact gput_term _ _ _) fun w1 hs1 hd1 he1 => Pn.mk (hd1.stS (o := 1) (A' := gs { L with term := tm, vote := vt }) (by simp) rfl (gput_vote _ _ _) fun w2 hs2 hd2 he2 => ?_)))))))
  exact mdFin (M := M) hd2 hl ((Ext.drew [M.s] w).trans (he1.trans he2)) hR
theorem mAppend_ok {tm : Int} {dd : ByteArray} {R : Int → World → Prop} (h : MdAt w q M) (hA : M.A = gs L) (hk : LogOk L) (hl : M.H.length ≤ 1000) (hR : ∀ M' w', MDid w q M L (appendS tm dd L).2 M' w' → R (appendS tm dd L).1 w') : rlogm_Log_Append.Call (some ⟨q, 0, none⟩) tm dd w R := by
  apply rlogm_Log_Append.sound
  unfold rlogm_Log_Append.B0
  unfold appendS at hR
  have hb := hk.base
  have hla := hk.last
  refine New.mk fun eb w1 e1 s1 o1 he1 => ?_
  have h1 := h.ext0 he1
  have bad : (tm < 0 ∨ 72057594037927936 < tm ∨ 24 < dd.size) → rlogm_Log_Append.B1 (some ⟨q, 0, none⟩) eb true w1 R := fun hc => by
    unfold rlogm_Log_Append.B1
    rw [if_pos hc] at hR
    exact Bm.pos rfl (hR M w1 (.refl h hA he1))
  refine LdI.mk o1 rfl (Bm.ite (fun q => bad (.inl q)) fun a1 => LdI.mk o1 rfl (Bm.ite (fun q => bad (.inr (.inl q))) fun a2 => LdS.mk o1 rfl ?_))
  by_cases a3 : ((dd.size : Nat) : Int) > 24
  · rw [decide_eq_true a3]; exact bad (.inr (.inr (by omega)))
  rw [decide_eq_false a3]
  rw [if_neg (by omega)] at hR
  unfold rlogm_Log_Append.B1
  have full : (6 ≤ L.ents.length ∨ 72057594037927936 ≤ L.last) → ∀ w2, Ext [] w w2 → rlogm_Log_Append.B2 (some ⟨q, 0, none⟩) eb true w2 R := fun hc w2 he2 => by
    unfold rlogm_Log_Append.B2
    rw [if_pos hc] at hR
    exact Bm.pos rfl (hR M _ (.refl h hA he2))
  refine Bm.neg rfl (Pn.mk (h1.ldQ (Pn.mk (h1.ldI 5 (L.ents.length : Int) (by omega) (by rw [hA]; rfl) ?_))))
  refine Bm.ite (fun q => full (.inl (by omega)) _ he1) fun b1 => mLast_ok h1 hA hk ?_
  have exd : Ext [] w w1.drew := he1.trans (Ext.drew _ _)
  by_cases b2 : L.last ≥ 72057594037927936
  · rw [decide_eq_true b2]; exact full (.inr b2) _ exd
  rw [decide_eq_false b2]
  rw [if_neg (by omega)] at hR
  unfold rlogm_Log_Append.B2
  have hd := h.ext0 (exd.trans (Ext.drew [] _))
  have od : Own w1.drew.drew eb #[.int .i64 tm, .string dd] T_api_Entry := o1
  refine Bm.neg rfl (Pn.mk (hd.ldQ (Pn.mk (hd.ldQ (Pn.mk (hd.ldI 5 (L.ents.length : Int) (by omega) (by rw [hA]; rfl) (LdI.mk (w := w1.drew.drew) od rfl (LdS.mk (w := w1.drew.drew) od rfl (Pn.mk ⟨⟨by omega, by omega⟩, ?_⟩)))))))))
  simp only [add_mk, Nat.zero_add, Int.toNat_natCast]
  refine hd.stS (A' := ⟨{ L with ents := L.ents ++ [(tm, dd)] }, L.ents.length⟩) (by simp; omega) rfl (by rw [hA]; exact gput_ent L _ (by omega) (tm, dd) _ (fun q hq => app_getD L _)) fun w2 hs2 hd2 he2 => Pn.mk (hd2.ldQ (Pn.mk (LdI.fn (o := 5) hd2.cur (by omega) (show _ = Value.int .i64 (L.ents.length : Int) from rfl) (Pn.mk ?_))))
  rw [w64 (by omega) (by omega)]
  have hd2' := hd2
  refine hd2.stS (o := 5) (A' := gs { L with ents := L.ents ++ [(tm, dd)] }) (by simp) rfl (fun j hj => ?_) fun w3 hs3 hd3 he3 => ?_
  · have := gput_n { L with ents := L.ents ++ [(tm, dd)] } (L.ents.length : Int) ((L.ents.length : Int) + 1) j hj
    rw [show ((gs { L with ents := L.ents ++ [(tm, dd)] }).n) = (L.ents.length : Int) + 1 by simp]
    exact this
  exact mdFin (M := M) (w := w) hd3 hl ((exd.trans (Ext.drew [] _)).nil.trans (he2.trans he3)) hR
theorem mPop_ok {R : World → Prop} (h : MdAt w q M) (hA : M.A = gs L) (hl : M.H.length ≤ 1000) (hn : 0 < L.ents.length) (hn6 : L.ents.length ≤ 6) (hR : ∀ M' w', MDid w q M L [popL L] M' w' → R w') : rlogm_Log_pop.Call (some ⟨q, 0, none⟩) w R := by
  apply rlogm_Log_pop.sound
  unfold rlogm_Log_pop.B0
  refine Pn.mk (h.ldQ (Pn.mk (h.ldI 5 (L.ents.length : Int) (by omega) (by rw [hA]; rfl) (Pn.mk ?_))))
  rw [w64 (by omega) (by omega)]
  refine h.stS (o := 5) (A' := ⟨L, (L.ents.length : Int) - 1⟩) (by simp) rfl (by rw [hA]; exact gput_n _ _ _) fun w1 hs1 h1 he1 => ?_
  have hd := h1.ext0 (Ext.drew [] w1)
  refine Pn.mk (hd.ldQ (Pn.mk (hd.ldQ (Pn.mk (LdI.fn (o := 5) hd.cur (by omega) (show _ = Value.int .i64 ((L.ents.length : Int) - 1) from rfl) (Pn.mk ⟨⟨by omega, by omega⟩, ?_⟩))))))
  simp only [add_mk, Nat.zero_add]
  rw [show ((L.ents.length : Int) - 1).toNat = L.ents.length - 1 by omega]
  refine hd.stS (A' := gs (popL L)) (by simp; omega) rfl (fun j hj => ?_) fun w2 hs2 h2 he2 => mdFin (M := M) (w := w) h2 hl (he1.trans ((Ext.drew [M.s] w1).trans he2)) hR
  rw [show (gs (popL L)).n = (L.ents.length : Int) - 1 by show ((popL L).ents.length : Int) = _; rw [popL_len]; omega]
  exact gput_ent L _ (by omega) ze (popL L).ents (fun q hq => pop_getD L) j hj
theorem mTrunc_ok {i : Int} {R : Int → World → Prop} (h : MdAt w q M) (hA : M.A = gs L) (hk : LogOk L) (hl : M.H.length ≤ 900) (hR : ∀ M' w', MDid w q M L (truncS i L).2 M' w' → R (truncS i L).1 w') : rlogm_Log_TruncateFrom.Call (some ⟨q, 0, none⟩) i w R := by
  apply rlogm_Log_TruncateFrom.sound
  unfold rlogm_Log_TruncateFrom.B0
  unfold truncS at hR
  have hn := hk.len
  refine Pn.mk (h.ldQ (Pn.mk (h.ldI 2 L.base (by omega) (by rw [hA]; rfl) ?_)))
  refine Bm.ite (fun hc => ?_) fun hc => ?_
  · rw [if_pos hc] at hR
    exact hR M w (.refl h hA (Ext.refl _ _))
  rw [if_neg hc] at hR
  unfold rlogm_Log_TruncateFrom.L1
  generalize hkk : (L.last - i + 1).toNat = k at hR
  unfold LogS.last at hkk
  refine ⟨fun mm l' i' w' => ∃ (j : Nat) (M' : MSt), j ≤ k ∧ mm = k - j ∧ some ⟨q, 0, none⟩ = l' ∧ i = i' ∧ MDid w q M L (popsN j L) M' w', _, ⟨0, M, by omega, rfl, rfl, rfl, .refl h hA (Ext.refl _ _)⟩, ?_⟩
  rintro mm l' i' w1 ⟨j, M1, hj, rfl, rfl, rfl, d1⟩
  have eA := d1.A
  rw [popsN_last] at eA
  obtain ⟨sb, sl', _⟩ := popK_same j L
  have okj : LogOk (popK j L) := by
    have : ∀ j, LogOk (popK j L) := fun j => by
      induction j with
      | zero => exact hk
      | succ j ih => rw [popK_succ]; exact popL_ok ih
    exact this j
  unfold rlogm_Log_TruncateFrom.L1b
  refine mLast_ok d1.at_ eA okj ?_
  have ela : (popK j L).last = L.base + ((L.ents.length - j : Nat) : Int) := by unfold LogS.last; rw [sb, sl']
  rw [ela]
  refine Bm.ite (fun hc2 => ?_) fun hc2 => ?_
  · have hlen := d1.len
    rw [popsN_len] at hlen
    refine mPop_ok (d1.at_.ext0 (Ext.drew [] w1)) eA (by omega) (by omega) (by omega) fun M2 w2 d2 => ⟨k - (j + 1), by omega, j + 1, M2, by omega, rfl, rfl, rfl, ?_⟩
    rw [popsN_snoc]
    refine d1.trans ?_
    rw [popsN_last]
    exact d2.ext0 (Ext.drew [] w1)
  · have : j = k := by omega
    subst this
    exact hR M1 _ (d1.ext1 (Ext.drew [] w1))
/-! ### rebase -/
def eF (E : List (Int × ByteArray)) (j : Nat) : Value := if j % 2 = 0 then .int .i64 (E.getD (j / 2) ze).1 else .string (E.getD (j / 2) ze).2
theorem eput (E E' : List (Int × ByteArray)) {i : Nat} (e : Int × ByteArray) (hE : ∀ q, q < 6 → E'.getD q ze = if q = i then e else E.getD q ze) : ∀ j, j < 12 → fnPut (eF E) (i * 2) [.int .i64 e.1, .string e.2] j = eF E' j := by
  intro j hj
  unfold fnPut
  by_cases c : i * 2 ≤ j ∧ j < i * 2 + 2
  · rw [if_pos (by simpa using c)]
    unfold eF
    have h3 : j / 2 = i := by omega
    rw [hE _ (by omega), if_pos h3]
    have : j = i * 2 ∨ j = i * 2 + 1 := by omega
    rcases this with rfl | rfl
    · rw [if_pos (by omega)]; simp
    · rw [if_neg (by omega), show i * 2 + 1 - i * 2 = 1 by omega]; rfl
  · rw [if_neg (by simpa using c)]
    unfold eF
    rw [hE _ (by omega), if_neg (show ¬ (j / 2 = i) by omega)]
theorem mRebase_ok {k : Nat} {tm : Int} {sn : ByteArray} {R : World → Prop} (h : MdAt w q M) (hA : M.A = gs L) (hk : LogOk L) (hl : M.H.length ≤ 1000) (hkn : k ≤ L.ents.length) (hR : ∀ M' w', MDid w q M L [rebL k tm sn L] M' w' → R w') : rlogm_Log_rebase.Call (some ⟨q, 0, none⟩) (L.base + (k : Int)) tm sn w R := by
  apply rlogm_Log_rebase.sound
  unfold rlogm_Log_rebase.B0
  have hb := hk.base
  have hn := hk.len
  have hla := hk.last
  refine Pn.mk (h.ldQ (Pn.mk (h.ldI 2 L.base (by omega) (by rw [hA]; rfl) (New.mk fun e w1 he hs1 o1 he1 => ?_))))
  rw [w64 (by omega) (by omega), show L.base + (k : Int) - L.base = (k : Int) by omega]
  have oe : Own w1 e (fnArr 12 (eF [])) 206 := o1
  unfold rlogm_Log_rebase.L1
  refine ⟨fun mm l' idx' tm' sn' k' e' j' w' => ∃ n : Nat, k + n ≤ L.ents.length ∧ mm = L.ents.length - (k + n) ∧ some ⟨q, 0, none⟩ = l' ∧ L.base + (k : Int) = idx' ∧ tm = tm' ∧ sn = sn' ∧ (k : Int) = k' ∧ e = e' ∧ j' = (k : Int) + (n : Int) ∧ Own w' e (fnArr 12 (eF ((L.ents.drop k).take n))) 206 ∧ Ext [] w w', _, ⟨0, by omega, rfl, rfl, rfl, rfl, rfl, rfl, rfl, by omega, by simpa using oe, he1⟩, ?_⟩
  rintro mm l' idx' tm' sn' k' e' j' w2 ⟨n, hkn2, rfl, rfl, rfl, rfl, rfl, rfl, rfl, rfl, o2, hE⟩
  unfold rlogm_Log_rebase.L1b
  have h2 := h.ext0 hE
  refine Pn.mk (h2.ldQ (Pn.mk (h2.ldI 5 (L.ents.length : Int) (by omega) (by rw [hA]; rfl) ?_)))
  refine Bm.ite (fun hc => Pn.mk (h2.ldQ (Pn.mk ⟨⟨by omega, by omega⟩, ?_⟩))) fun hc => ?_
  · simp only [add_mk, Nat.zero_add]
    rw [show ((k : Int) + (n : Int)).toNat = k + n by omega]
    refine h2.ldI _ (L.ents.getD (k + n) ze).1 (by omega) (by rw [hA]; exact gF_t _ _ _) (h2.ldS _ (L.ents.getD (k + n) ze).2 (by omega) (by rw [hA]; exact gF_d _ _ _) ?_)
    rw [w64 (by omega) (by omega), show (k : Int) + (n : Int) - (k : Int) = (n : Int) by omega, Int.toNat_natCast]
    refine ⟨⟨by omega, by omega⟩, ?_⟩
    refine Sts.fn o2 (by simp; omega) rfl (eput _ ((L.ents.drop k).take (n + 1)) _ (fun q hq => ?_)) fun w3 hs3 o3 he3 => ⟨L.ents.length - (k + (n + 1)), by omega, n + 1, by omega, rfl, by trivial, by trivial, by trivial, by trivial, by trivial, by trivial, by rw [w64 (by omega) (by omega)]; omega, o3, hE.trans' he3 (fun x hx hlt => by simp at hx; omega)⟩
    rw [List.getD_eq_getElem?_getD, List.getD_eq_getElem?_getD, List.getD_eq_getElem?_getD, List.getElem?_take, List.getElem?_take]
    by_cases e : q = n
    · subst e
      rw [if_pos (by omega), if_pos rfl, List.getElem?_drop]
    · rw [if_neg e]
      by_cases c : q < n
      · rw [if_pos c, if_pos (by omega)]
      · rw [if_neg c, if_neg (by omega)]
  · have en : (L.ents.drop k).take n = L.ents.drop k := List.take_of_length_le (by simp; omega)
    rw [en] at o2
    have hd := h2.ext0 (Ext.drew [] w2)
    have od : Own w2.drew e (fnArr 12 (eF (L.ents.drop k))) 206 := Own.drew o2
    have ldI : ∀ (o : Nat) {x : Int} {K : Int → Prop}, o < 12 → eF (L.ents.drop k) o = .int .i64 x → K x → LdI .i64 ⟨e, o, none⟩ w2.drew K := fun o {x K} ho hx hk => LdI.fn od ho hx hk
    have ldS : ∀ (o : Nat) {x : ByteArray} {K : ByteArray → Prop}, o < 12 → eF (L.ents.drop k) o = .string x → K x → LdS ⟨e, o, none⟩ w2.drew K := fun o {x K} ho hx hk => LdS.fn od ho hx hk
    refine Pn.mk (hd.ldQ (Pn.mk (hd.ldQ (ldI 0 (by omega) rfl (ldS 1 (by omega) rfl (ldI 2 (by omega) rfl (ldS 3 (by omega) rfl (ldI 4 (by omega) rfl (ldS 5 (by omega) rfl (ldI 6 (by omega) rfl (ldS 7 (by omega) rfl (ldI 8 (by omega) rfl (ldS 9 (by omega) rfl (ldI 10 (by omega) rfl (ldS 11 (by omega) rfl (Pn.mk (hd.ldQ (Pn.mk (hd.ldI 5 (L.ents.length : Int) (by omega) (by rw [hA]; rfl) (Pn.mk ?_))))))))))))))))))))
    refine hd.stS (o := 6) (vs := vals12 (L.ents.drop k)) (A' := ⟨{ L with ents := L.ents.drop k }, L.ents.length⟩) (by simp [vals12]) rfl (by rw [hA]; exact gput_all _ _ _) fun w3 hs3 h3 he3 => Pn.mk ?_
    rw [w64 (by omega) (by omega)]
    refine h3.stS (o := 5) (A' := ⟨{ L with ents := L.ents.drop k }, (L.ents.length : Int) - (k : Int)⟩) (by simp) rfl (gput_n _ _ _) fun w4 hs4 h4 he4 => ?_
    have h4d := h4.ext0 (Ext.drew [] w4)
    refine Pn.mk (h4d.ldQ (Pn.mk (h4d.ldQ (Pn.mk (h4d.ldQ (Pn.mk ?_))))))
    refine h4d.stS (o := 2) (A' := ⟨{ L with ents := L.ents.drop k, base := L.base + (k : Int) }, (L.ents.length : Int) - (k : Int)⟩) (by simp) rfl (gput_base _ _ _) fun w5 hs5 h5 he5 => Pn.mk ?_
    refine h5.stS (o := 3) (A' := ⟨{ L with ents := L.ents.drop k, base := L.base + (k : Int), bterm := tm }, (L.ents.length : Int) - (k : Int)⟩) (by simp) rfl (gput_bterm _ _ _) fun w6 hs6 h6 he6 => Pn.mk ?_
    refine h6.stS (o := 4) (A' := ⟨rebL k tm sn L, (L.ents.length : Int) - (k : Int)⟩) (by simp) rfl (gput_snap _ _ _) fun w7 hs7 h7 he7 => ?_
    have eg : (⟨rebL k tm sn L, (L.ents.length : Int) - (k : Int)⟩ : GS) = gs (rebL k tm sn L) := by
      show GS.mk _ _ = GS.mk _ _
      congr 1
      show _ = ((L.ents.drop k).length : Int)
      rw [List.length_drop]
      omega
    rw [eg] at h7
    exact mdFin (M := M) (w := w) h7 hl (hE.nil.trans ((Ext.drew [M.s] w2).trans (he3.trans (he4.trans ((Ext.drew [M.s] w4).trans (he5.trans (he6.trans he7))))))) hR
theorem mCompact_ok {u : Int} {sn : ByteArray} {R : Int → World → Prop} (h : MdAt w q M) (hA : M.A = gs L) (hk : LogOk L) (hl : M.H.length ≤ 900) (hR : ∀ M' w', MDid w q M L (compactS u sn L).2 M' w' → R (compactS u sn L).1 w') : rlogm_Log_Compact.Call (some ⟨q, 0, none⟩) u sn w R := by
  apply rlogm_Log_Compact.sound
  unfold rlogm_Log_Compact.B0
  unfold compactS at hR
  have hb := hk.base
  have hla := hk.last
  refine Bm.ite (fun hc => ?_) fun hc => Pn.mk (h.ldQ (Pn.mk (h.ldI 2 L.base (by omega) (by rw [hA]; rfl) ?_)))
  · rw [if_pos (by omega)] at hR
    exact hR M w (.refl h hA (Ext.refl _ _))
  rw [if_neg (by omega)] at hR
  refine Bm.ite (fun hc2 => ?_) fun hc2 => mLast_ok h hA hk ?_
  · rw [if_pos hc2] at hR
    exact hR M w (.refl h hA (Ext.refl _ _))
  rw [if_neg hc2] at hR
  refine Bm.ite (fun hc3 => ?_) fun hc3 => ?_
  · rw [if_pos hc3] at hR
    exact hR M _ (.refl h hA (Ext.drew [] w))
  rw [if_neg hc3] at hR
  unfold LogS.last at hc3
  have hd := h.ext0 (Ext.drew [] w)
  refine mTermAt_ok (by omega) hd hA hk fun w1 he1 => ?_
  have et : (termL L u).1 = (L.ents.getD (u - L.base - 1).toNat (0, estr)).1 := by
    unfold termL atL
    rw [if_neg (by omega), if_neg (by omega), if_neg (by unfold LogS.last; omega)]
  rw [et]
  have eu : u = L.base + (((u - L.base).toNat : Nat) : Int) := by omega
  have key := mRebase_ok (R := fun w => R 0 w) (k := (u - L.base).toNat) (tm := (L.ents.getD (u - L.base - 1).toNat (0, estr)).1) (sn := sn) (hd.ext0 he1) hA hk (by omega) (by omega) fun M' w' d => hR M' w' (d.ext0 ((Ext.drew [] w).trans he1))
  rw [← eu] at key
  exact key
theorem mInstall_ok {idx tm : Int} {sn : ByteArray} {R : Int → World → Prop} (h : MdAt w q M) (hA : M.A = gs L) (hk : LogOk L) (hl : M.H.length ≤ 900) (hR : ∀ M' w', MDid w q M L (installS idx tm sn L).2 M' w' → R (installS idx tm sn L).1 w') : rlogm_Log_Install.Call (some ⟨q, 0, none⟩) idx tm sn w R := by
  apply rlogm_Log_Install.sound
  unfold rlogm_Log_Install.B0
  unfold installS at hR
  have hb := hk.base
  have hla := hk.last
  have hn := hk.len
  have bad : (idx < 0 ∨ 72057594037927936 < idx ∨ tm < 0 ∨ 72057594037927936 < tm) → rlogm_Log_Install.B1 (some ⟨q, 0, none⟩) idx tm sn true w R := fun hc => by
    unfold rlogm_Log_Install.B1
    rw [if_pos hc] at hR
    exact Bm.pos rfl (hR M w (.refl h hA (Ext.refl _ _)))
  refine Bm.ite (fun q => bad (.inl q)) fun a1 => Bm.ite (fun q => bad (.inr (.inl q))) fun a2 => Bm.ite (fun q => bad (.inr (.inr (.inl q)))) fun a3 => ?_
  by_cases a4 : tm > 72057594037927936
  · rw [decide_eq_true a4]; exact bad (.inr (.inr (.inr a4)))
  rw [decide_eq_false a4]
  rw [if_neg (by omega)] at hR
  unfold rlogm_Log_Install.B1
  refine Bm.neg rfl (Bm.ite (fun hc => ?_) fun hc => Pn.mk (h.ldQ (Pn.mk (h.ldI 2 L.base (by omega) (by rw [hA]; rfl) ?_))))
  · rw [if_pos (by omega)] at hR
    exact hR M w (.refl h hA (Ext.refl _ _))
  rw [if_neg (by omega)] at hR
  refine Bm.ite (fun hc2 => ?_) fun hc2 => mTermAt_ok (by omega) h hA hk fun w1 he1 => ?_
  · rw [if_pos hc2] at hR
    exact hR M w (.refl h hA (Ext.refl _ _))
  rw [if_neg hc2] at hR
  have h1 := h.ext0 he1
  have other : termL L idx ≠ (tm, 0) → rlogm_Log_Install.B2 (some ⟨q, 0, none⟩) idx tm sn false w1 R := fun hne => by
    rw [if_neg hne] at hR
    unfold rlogm_Log_Install.B2 rlogm_Log_Install.L1
    refine Bm.neg rfl ?_
    refine ⟨fun mm l' idx' tm' sn' w' => ∃ (j : Nat) (M' : MSt), j ≤ L.ents.length ∧ mm = L.ents.length - j ∧ some ⟨q, 0, none⟩ = l' ∧ idx = idx' ∧ tm = tm' ∧ sn = sn' ∧ MDid w q M L (popsN j L) M' w', _, ⟨0, M, by omega, rfl, rfl, rfl, rfl, rfl, .refl h hA he1⟩, ?_⟩
    rintro mm l' idx' tm' sn' w2 ⟨j, M2, hj, rfl, rfl, rfl, rfl, rfl, d2⟩
    have eA := d2.A
    rw [popsN_last] at eA
    obtain ⟨sb, sl', _⟩ := popK_same j L
    have hlen := d2.len
    rw [popsN_len] at hlen
    unfold rlogm_Log_Install.L1b
    refine Pn.mk (d2.at_.ldQ (Pn.mk (d2.at_.ldI 5 ((popK j L).ents.length : Int) (by omega) (by rw [eA]; rfl) ?_)))
    rw [sl']
    refine Bm.ite (fun hc3 => ?_) fun hc3 => ?_
    · refine mPop_ok d2.at_ eA (by omega) (by omega) (by omega) fun M3 w3 d3 => ⟨L.ents.length - (j + 1), by omega, j + 1, M3, by omega, rfl, rfl, rfl, rfl, rfl, ?_⟩
      rw [popsN_snoc]
      refine d2.trans ?_
      rw [popsN_last]
      exact d3
    · have ej : j = L.ents.length := by omega
      subst ej
      have hnil : (popK L.ents.length L).ents = [] := List.eq_nil_of_length_eq_zero (by omega)
      generalize hP : popK L.ents.length L = P at eA hnil hR
      have hd := d2.at_.ext0 (Ext.drew [] w2)
      refine Pn.mk (hd.ldQ (Pn.mk (hd.ldQ (Pn.mk (hd.ldQ (Pn.mk ?_))))))
      refine hd.stS (o := 2) (A' := ⟨{ P with base := idx }, P.ents.length⟩) (by simp) rfl (by rw [eA]; exact gput_base _ _ _) fun w5 hs5 h5 he5 => Pn.mk ?_
      refine h5.stS (o := 3) (A' := ⟨{ P with base := idx, bterm := tm }, P.ents.length⟩) (by simp) rfl (gput_bterm _ _ _) fun w6 hs6 h6 he6 => Pn.mk ?_
      refine h6.stS (o := 4) (A' := ⟨{ P with base := idx, bterm := tm, snap := sn }, P.ents.length⟩) (by simp) rfl (gput_snap _ _ _) fun w7 hs7 h7 he7 => ?_
      have eg : (⟨{ P with base := idx, bterm := tm, snap := sn }, P.ents.length⟩ : GS) = gs (insL idx tm sn P) := by
        show GS.mk _ _ = GS.mk _ _
        unfold insL
        rw [hnil]
      rw [eg] at h7
      refine mdFin (M := M2) (w := w2) h7 (by omega) ((Ext.drew [M2.s] w2).trans (he5.trans (he6.trans he7))) fun M' w' d => hR M' w' (d2.trans d)
  by_cases e0 : (termL L idx).2 = 0
  · refine Bm.pos (by simpa using e0) ?_
    by_cases et : (termL L idx).1 = tm
    · rw [show ((termL L idx).1 == tm) = true by simpa using et]
      have eq : termL L idx = (tm, 0) := Prod.ext et e0
      rw [if_pos eq] at hR
      unfold rlogm_Log_Install.B2
      have hin : idx ≤ L.last := by
        unfold termL at e0
        rw [if_neg (by omega)] at e0
        unfold atL at e0
        rw [if_neg (by omega)] at e0
        by_cases c : L.last < idx
        · rw [if_pos c] at e0; cases e0
        · omega
      unfold LogS.last at hin
      have eu : idx = L.base + (((idx - L.base).toNat : Nat) : Int) := by omega
      have key := mRebase_ok (R := fun w => R 0 w) (k := (idx - L.base).toNat) (tm := tm) (sn := sn) h1 hA hk (by omega) (by omega) fun M' w' d => hR M' w' (d.ext0 he1)
      rw [← eu] at key
      exact Bm.pos rfl key
    · rw [show ((termL L idx).1 == tm) = false by simpa using et]
      exact other fun q => et (by rw [q])
  · refine Bm.neg (by simpa using e0) (other fun q => e0 (by rw [q]))
end
end Go.Proofs.Qxb6500430aGreat
