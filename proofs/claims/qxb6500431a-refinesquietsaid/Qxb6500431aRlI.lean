/-
  rlog: the walk and the law.
-/
import Derived.Test.Qxb6500431aRlH
import Derived.Test.Qxb6500431aScript
set_option linter.unusedVariables false
set_option linter.unusedSimpArgs false
open Go.Vc
namespace Go.Proofs.Qxb6500431a

abbrev BelAt (w : World) (b d t : Nat) : Prop := Own w b #[.pointer (some ⟨d, 0, none⟩), .pointer (some ⟨t, 0, none⟩)] T_rloglaw_Below
structure Inv (w0 : World) (b l q : Nat) (N : Int) (w : World) (t d : Nat) (D : DiskS) (F : List Nat) (A : AbsS) (M : MSt) (L : LogS) (S : List LogS) : Prop where
  real : Real w l t d D F A (finL L S)
  path : Path D (L :: S) N
  log : D.log.length ≤ 20
  md : MdAt w q M
  mA : M.A = gs (finL L S)
  mA0 : M.A0 = gs L
  mH : M.H.map (·.2) = S.map gs
  ok : ∀ X ∈ L :: S, LogOk X
  len : S.length ≤ 7
  bel : BelAt w b d t
  ext : Ext [] w0 w
  foot : ∀ k ∈ pf l t q F M, w0.heap.size ≤ k
  b0 : w0.heap.size ≤ b
def InvE (w0 : World) (b l q : Nat) (N : Int) (w : World) : Prop := ∃ t d D F A M L S, Inv w0 b l q N w t d D F A M L S
theorem estr_eq : (estr.toList == (ByteArray.mk #[]).toList) = true := (str_beq _ _).2 rfl
section
variable {w0 w w' : World} {b l t q d : Nat} {D : DiskS} {F : List Nat} {A : AbsS} {M : MSt} {N : Int} {L : LogS} {S : List LogS}
theorem Inv.ext0 (h : Inv w0 b l q N w t d D F A M L S) (he : Ext [] w w') : Inv w0 b l q N w' t d D F A M L S := ⟨h.real.ext0 he, h.path, h.log, h.md.ext0 he, h.mA, h.mA0, h.mH, h.ok, h.len, he.own h.bel (by simp), h.ext.trans he, h.foot, h.b0⟩
theorem Inv.up {N' : Int} (h : Inv w0 b l q N w t d D F A M L S) (hn : N ≤ N') : Inv w0 b l q N' w t d D F A M L S := ⟨h.real, h.path.mono (fun x hx => hx) hn, h.log, h.md, h.mA, h.mA0, h.mH, h.ok, h.len, h.bel, h.ext, h.foot, h.b0⟩
theorem Inv.hlen (h : Inv w0 b l q N w t d D F A M L S) : M.H.length = S.length := by simpa using congrArg List.length h.mH
theorem Real.marked {L : LogS} {F' : List Nat} (h : Real w l t d D F A L) (he : Ext F w w') (hD : DiskAt w' d D.marked F') : Real w' l t d D.marked F' A L := by
  obtain ⟨X, x1, x2⟩ := h.rl
  have he' : Ext (t :: F) w w' := he.mono (fun x hx _ => List.mem_cons_of_mem _ hx)
  have hopenM : openR d D.marked = openR d D := openR_now rfl
  exact ⟨⟨by rw [hopenM]; exact he.own h.st.st h.st.tF, hD, h.st.like⟩, ⟨X, ownT he' h.st.tys x1 (by decide), x2⟩, h.ok, h.holds, h.clean⟩
theorem Inv.next {M1 M' : MSt} {D1 D' : DiskS} {F1 F' : List Nat} {A' : AbsS} {S' : List LogS} {w1 : World} {N' : Int} {L' : LogS} (h : Inv w0 b l q N w t d D F A M L S) (he1 : Ext (pf l t q F M) w w1) (hg1 : Grew w (pf l t q F M) (pf l t q F1 M1)) (h0 : M1.A0 = gs L') (hk : LogOk L') (hH : M1.H = []) (hl : D1.log.length = 0) (hp : PDid w1 l t q d D1 F1 M1 L' N' S' w' D' F' A' M') : Inv w0 b l q (N' + 1) w' t d D' F' A' M' L' S' := by
  have hz := h.ext.size
  have he : Ext (pf l t q F M) w w' := he1.trans' hp.ext (fun x hx hlt => by
    rcases hg1 x hx with z | z
    · exact z
    · omega)
  refine ⟨hp.real, hp.path, by have := hp.log; omega, hp.md, hp.mA, by rw [hp.mA0]; exact h0, by rw [hp.mH, hH]; rfl, fun X hX => ?_, hp.len, ownT he (Tys.two h.real h.md) h.bel (by decide), h.ext.trans' he (fun x hx hlt => by have := h.foot x hx; omega), fun k hk => ?_, h.b0⟩
  · rcases List.mem_cons.1 hX with e | e
    · rw [e]; exact hk
    · exact hp.ok X e
  · rcases hp.grew k hk with z | z
    · rcases hg1 k z with y | y
      · exact h.foot k y
      · omega
    · have := he1.size
      omega
/-- What a cut leaves. -/
theorem Inv.cut (h : Inv w0 b l q N w t d D F A M L S) (a : Int) : Good (img (cutI D a.toNat)) N ∧ ∃ A' L', L' ∈ L :: S ∧ Holds A' L' ∧ LikeI (cutI D a.toNat) A' ∧ (a ≤ 0 → L' = L) ∧ ((D.log.length : Int) ≤ a → L' = finL L S) := by
  have hall : Good (img (cutI D a.toNat)) N ∧ PV (L :: S) (cutI D a.toNat) := by
    by_cases c : a.toNat ≤ D.log.length
    · exact h.path.all _ c
    · rw [cutI_over (by omega)]
      exact h.path.all _ (Nat.le_refl _)
  obtain ⟨hg, A', L', hin, hh, hl⟩ := hall
  have okL := h.ok L' hin
  refine ⟨hg, A', L', hin, hh, hl, fun h0 => ?_, fun h1 => ?_⟩
  · have e0 : a.toNat = 0 := by omega
    have e1 : cutI D 0 = D.mark := by unfold cutI; simp
    rw [e0, e1] at hl
    obtain ⟨A2, L2, hin2, hh2, hl2⟩ := h.path.first L rfl
    simp at hin2
    subst hin2
    exact holds_uniq hl hl2 hh hh2 okL (h.ok _ (by simp))
  · have e1 : cutI D a.toNat = D.now := by rw [cutI_over (by omega), h.path.fin]
    rw [e1] at hl
    exact holds_uniq hl h.real.st.like hh h.real.holds okL h.real.ok
theorem b2_ok {sb : Option Addr} {n c : Nat} {ops : Nat → OpV} {steady quiet : Bool} {i : Int} {N1 : Option Addr → Nat → Nat → Bool → Bool → Nat → Option Addr → Option Addr → Int → World → Prop} {R : Int → Int → World → Prop} (hs : ScriptIs w0 sb n ops) (i0 : 0 ≤ i) (hi : i < (n : Int)) (hi2 : i < 4398046511104) (hI : Inv w0 b l q i w t d D F A M L S)
    (hgo : ∀ {w9 : World} {l q : Nat}, InvE w0 b l q (i + 1) w9 → N1 sb n c steady quiet b (some ⟨l, 0, none⟩) (some ⟨q, 0, none⟩) (i + 1) w9) : rloglaw_walk.B2 sb n c steady quiet b (some ⟨l, 0, none⟩) (some ⟨q, 0, none⟩) i true w N1 R := by
  unfold rloglaw_walk.B2
  refine Bm.pos rfl ?_
  have hE' := hI.ext
  obtain ⟨x, rfl, hop⟩ := hs.2 i.toNat (by omega)
  have cl : ∀ {y : Addr} {v : Value}, y.block = (x.add (i.toNat * 6)).block → w0.cell? y = some v → w.cell? y = some v := fun {y v} hy hv => by
    rw [hE'.cell (by rw [hy]; exact hop.blk) (by simp)]
    exact hv
  have bk : ∀ j, ((x.add (i.toNat * 6)).add j).block = (x.add (i.toNat * 6)).block := fun j => by unfold Addr.add; split <;> rfl
  refine Pn.mk ⟨⟨i0, hi⟩, ⟨_, cl rfl hop.k, ⟨_, cl (bk 1) hop.a, ⟨_, cl (bk 2) hop.b, ⟨_, cl (bk 3) hop.c, ⟨_, cl (bk 4) hop.s, ⟨_, cl (bk 5) hop.t, ?_⟩⟩⟩⟩⟩⟩⟩
  refine NewSet.mk rfl rfl fun o w2 ho hs2 oo2 he2 => LdI.mk oo2 rfl ?_
  have hI2 := hI.ext0 he2
  have aa := hop.wf.a
  generalize ops i.toNat = op at oo2 aa
  have go : ∀ {w9 : World} {l q : Nat}, InvE w0 b l q (i + 1) w9 → rloglaw_walk.B5 (some x) n c steady quiet b (some ⟨l, 0, none⟩) (some ⟨q, 0, none⟩) i w9 N1 R := fun {w9 l q} hI9 => by
    unfold rloglaw_walk.B5
    rw [w64 (by omega) (by omega)]
    exact hgo hI9
  refine Bm.mk (fun hk6 => ?_) (fun hk6 => ?_)
  · -- an op that is no cut
    refine LdP.mk hI2.bel rfl (LdP.mk hI2.bel rfl (lMark_ok hI2.real.st.dk fun w3 F3 hD3 he3 hg3 => ?_))
    have hz2 := he2.size
    have hz3 := he3.size
    have r3 := hI2.real.marked he3 hD3
    have he3' : Ext (l :: t :: F) w2 w3 := he3.mono (fun x hx _ => List.mem_cons_of_mem _ (List.mem_cons_of_mem _ hx))
    have m3 := md_after hI2.real hI2.md he3'
    refine mdMark_ok m3 fun nm w4 hnm m4 he4 => ?_
    have r4 := r3.extY he4 (Tys.one m3.own) (fun q hq => by simp at hq; subst hq; decide)
    have he24 : Ext (pf l t q F M) w2 w4 := (he3'.mono (fun x hx _ => List.mem_append.2 (.inl hx))).trans (he4.mono (fun x hx _ => by simp at hx; simp [pf, MSt.foot, hx]))
    have hg24 : Grew w2 (pf l t q F M) (pf l t q F3 { M with mb := nm, A0 := M.A, H := [], hb := none, hc := 0 }) := fun k hk => by
      simp only [pf, MSt.foot, rowBlk, List.mem_cons, List.mem_append, List.not_mem_nil, or_false] at hk ⊢
      rcases hk with (e | e | e) | e | e
      · exact .inl (.inl (.inl e))
      · exact .inl (.inl (.inr (.inl e)))
      · rcases hg3 k e with q1 | q1
        · exact .inl (.inl (.inr (.inr q1)))
        · exact .inr q1
      · exact .inl (.inr (.inl e))
      · exact .inl (.inr (.inr (.inl e)))
    have p4 : Path D.marked [finL L S] i := path_marked hI2.path.good hI2.real.st.like hI2.real.holds
    have oo4 := ownT he24 (Tys.two hI2.real hI2.md) oo2 (by decide)
    refine LdI.mk oo4 rfl (LdI.mk oo4 rfl (LdI.mk oo4 rfl (LdI.mk oo4 rfl (LdS.mk oo4 rfl (LdS.mk oo4 rfl (playL_ok r4 p4 (by omega) (by simp [DiskS.marked]) m4 hI2.mA (by simp) aa fun S5 M5 w5 hpd => ?_))))))
    obtain ⟨D5, F5, A5, pd⟩ := hpd
    have hI5 : Inv w0 b l q (i + 1) w5 t d D5 F5 A5 M5 (finL L S) S5 := hI2.next he24 hg24 hI2.mA hI2.real.ok rfl rfl pd
    refine Bm.neg rfl (LdP.mk hI5.bel rfl (LdP.mk hI5.bel rfl (idle_ok hI5.real.st.dk hI5.md (fun e => ?_) fun w6 he6 => ?_)))
    · have hm := hI5.mH
      rw [e] at hm
      have hS5 : S5 = [] := by
        cases S5 with
        | nil => rfl
        | cons a s => cases hm
      rw [pd.idle hS5]
      rfl
    · have hI6 := hI5.ext0 he6
      refine Bm.neg rfl (LdP.mk hI6.bel rfl (LdP.mk hI6.bel rfl (lSteps_ok hI6.real.st.dk fun w7 he7 => ?_)))
      have hI7 := hI6.ext0 he7
      refine Bm.mk (fun _ => ?_) (fun _ => ?_)
      · refine LdP.mk hI7.bel rfl (LdP.mk hI7.bel rfl (seenL_ok hI7.real hI7.md hI7.mA fun w8 he8 => ?_))
        unfold rloglaw_walk.B3
        exact Bm.neg rfl (go ⟨t, d, D5, F5, A5, M5, _, S5, hI7.ext0 he8⟩)
      · unfold rloglaw_walk.B3
        exact Bm.neg rfl (go ⟨t, d, D5, F5, A5, M5, _, S5, hI7⟩)
  · -- a cut
    refine Bm.mk (fun _ => ?_) (fun _ => go ⟨t, d, D, F, A, M, L, S, hI2.up (by omega)⟩)
    refine LdP.mk hI2.bel rfl (LdP.mk hI2.bel rfl (lSteps_ok hI2.real.st.dk fun w3 he3 => ?_))
    have hI3 := hI2.ext0 he3
    refine LdP.mk hI3.bel rfl (LdP.mk hI3.bel rfl (NewSet.mk rfl rfl fun b0 w5 hb0 hs5 ob5 he5 => LdP.mk ob5 rfl (LdP.mk ob5 rfl ?_)))
    have hI5 := hI3.ext0 he5
    have oo5 := he5.own (he3.own oo2 (by simp)) (by simp)
    obtain ⟨hgood, A', L', hin, hh, hlk, hfoot0, hwork⟩ := hI5.cut op.a
    have okL := hI5.ok L' hin
    have hlog := hI5.log
    have hz2 := he2.size
    have hz3 := he3.size
    have hz5 := he5.size
    have hzw := hI.ext.size
    have hbl3 := hI3.bel.lt
    have hb0w := hI.b0
    refine LdI.mk oo5 rfl (lAfter_ok hI5.real.st.dk hI5.path.mark hI5.path.log (by omega) hgood.wf hlk fun d' t' F' w6 hF' ht' st6 he6 => ?_)
    have hI6 := hI5.ext0 he6
    refine Sts.full hI6.bel rfl rfl fun w7 hs7 bel7 he7 => LdP.mk bel7 rfl ?_
    have hz6 := he6.size
    have st7 := st6.extT he7 (Tys.one hI6.bel) (fun q hq => by simp at hq; subst hq; decide)
    refine sound_ok st7 hh okL fun w8 he8 => ?_
    have st8 := st7.ext0 he8
    have bel8 := he8.own bel7 (by simp)
    have p8 : Path (img (cutI D op.a.toNat)) [L'] i := path_marked (D := img (cutI D op.a.toNat)) hgood hlk hh
    have hz8 := he8.size
    refine LdP.mk bel8 rfl (openL_ok st8 p8 (by simp [img]) hh okL fun l' w9 D9 F9 A9 hl' r9 p9 q9 _ he9 hg9 => ?_)
    have hlog9 : D9.log.length ≤ 12 := by simpa [img] using q9
    have bel9 := ownT he9 st8.tys bel8 (by decide)
    have E57 : Ext [b] w5 w7 := he6.nil.trans he7
    have E59 : Ext [b] w5 w9 := (E57.trans he8.nil).trans' he9 (fun x hx hlt => by
      rcases List.mem_cons.1 hx with e | e
      · omega
      · have := hF' x e
        omega)
    have hz9 := E59.size
    have oldR := hI5.real.extY E59 (Tys.one hI5.bel) (fun q hq => by simp at hq; subst hq; decide)
    have m9 := hI5.md.extY E59 (Tys.one hI5.bel) (fun q hq => by simp at hq; subst hq; decide)
    have oo9 := ownT E59 (Tys.one hI5.bel) oo5 (by decide)
    have ob9 := E59.own ob5 (by simp; omega)
    have hF9 : ∀ k ∈ F9, w5.heap.size ≤ k := fun k hk => by
      rcases hg9 k hk with z | z
      · exact hF' k z
      · have := he7.size
        omega
    have El' : w5.heap.size ≤ l' := by have := he7.size; omega
    refine LdP.mk bel9 rfl (LdP.mk bel9 rfl (lSteps_ok r9.st.dk fun w10 he10 => checkL_ok (r9.ext0 he10) fun w11 he11 => ?_))
    have E11 := he10.trans he11
    refine match_ok (r9.ext0 E11) (m9.ext0 E11) hI.mA0 hI.mH (by have := hI.len; omega) hI.ok hin fun j w12 hj hjmin he12 => ?_
    have E12 := E11.trans he12
    have hml := hI.hlen
    have hslen := hI.len
    refine mdSteps_ok (m9.ext0 E12) (mdAfter_ok (m9.ext0 E12) (by omega) fun q2 M2 w13 hq2 m13 hA13 _ _ he13 => ?_)
    have E13 := E12.trans he13
    rw [hml, at_get hI.mA0 hI.mH (fin_get L S)] at hA13
    refine alike_ok (r9.ext0 E13) m13 hA13 (hI.real.ok) fun xx w14 hxx he14 => ?_
    have E14 := E13.trans he14
    have bel14 := E14.own bel9 (by simp)
    refine Bm.neg (by rw [estr_eq]; rfl) (Bm.neg (by rw [estr_eq]; rfl) (LdP.mk bel14 rfl (LdP.mk bel14 rfl (lSteps_ok (r9.ext0 E14).st.dk fun w15 he15 => ?_))))
    have E15 := E14.trans he15
    rw [show (((D9.log.length : Nat) : Int) != (D9.log.length : Int)) = false by simp]
    have oo15 := E15.own oo9 (by simp)
    have b7 : ∀ tt, tt = false → rloglaw_walk.B7 (some x) n c steady quiet b (some ⟨l', 0, none⟩) (some ⟨q, 0, none⟩) i o b0 (j : Int) tt w15 N1 R := fun tt htt => by
      unfold rloglaw_walk.B7
      refine Bm.neg htt (mdAfter_ok (m9.ext0 E15) (by omega) fun q' M' w16 hq' m16 hA16 hA016 hH16 he16 => ?_)
      rw [at_get hI.mA0 hI.mH hj] at hA16 hA016
      have E16 := E15.trans he16
      have hz16 := E16.size
      have hz15 := E15.size
      have bel16 := E16.own bel9 (by simp)
      have E516 : Ext [b] w5 w16 := E59.trans E16.nil
      have X16 : Ext [] w0 w16 := hI5.ext.trans' E516 (fun x hx hlt => by simp at hx; omega)
      have hzw5 := hI5.ext.size
      have mk : ∀ {w19 : World} {d2 t2 l2 : Nat} {D2 : DiskS} {F2 : List Nat} {A2 : AbsS}, Ext [] w0 w19 → MdAt w19 q' M' → BelAt w19 b d2 t2 → Real w19 l2 t2 d2 D2 F2 A2 L' → Path D2 [L'] i → D2.log.length ≤ 20 → (∀ k ∈ l2 :: t2 :: F2, w0.heap.size ≤ k) → InvE w0 b l2 q' (i + 1) w19 := fun {w19 d2 t2 l2 D2 F2 A2} hx hm hbel hr hp hlg hft =>
        ⟨t2, d2, D2, F2, A2, M', L', [], hr, hp.mono (fun x hx => hx) (by omega), hlg, hm, hA16, hA016, by rw [hH16]; rfl, fun X hX => by simp at hX; subst hX; exact okL, by simp, hbel, hx, fun k hk => by
          rcases List.mem_append.1 hk with e | e
          · exact hft k e
          · have := hq' k e
            omega, hb0w⟩
      refine Bm.mk (fun _ => ?_) (fun _ => ?_)
      · have ob16 := E16.own ob9 (by simp)
        have oldR16 := oldR.ext0 E16
        refine LdP.mk ob16 rfl (LdP.mk ob16 rfl (LdI.mk (E16.own oo9 (by simp)) rfl (lAfter_ok oldR16.st.dk hI5.path.mark hI5.path.log (by omega) hgood.wf hlk fun d2 t2 F2 w17 hF2 ht2 st17 he17 => ?_)))
        have bel17 := he17.own bel16 (by simp)
        refine Sts.full bel17 rfl rfl fun w18 hs18 bel18 he18 => LdP.mk bel18 rfl ?_
        have st18 := st17.extT he18 (Tys.one bel17) (fun q hq => by simp at hq; subst hq; decide)
        have m18 := (m16.ext0 he17).extY he18 (Tys.one bel17) (fun q hq => by simp at hq; subst hq; decide)
        have hz17 := he17.size
        refine openL_ok st18 p8 (by simp [img]) hh okL fun l2 w19 D19 F19 A19 hl2 r19 p19 q19 _ he19 hg19 => ?_
        have m19 := m18.extY he19 st18.tys (fun q hq => by
          simp at hq
          rcases hq with e | e | e | e <;> subst e <;> decide)
        have X19 : Ext [] w0 w19 := (X16.trans' (he17.nil.trans he18) (fun x hx hlt => by simp at hx; omega)).trans' he19 (fun x hx hlt => by
          rcases List.mem_cons.1 hx with e | e
          · omega
          · have := hF2 x e
            omega)
        have hlog19 : D19.log.length ≤ 12 := by simpa [img] using q19
        refine go (mk X19 m19 (ownT he19 st18.tys bel18 (by decide)) r19 p19 (by omega) fun k hk => ?_)
        rcases List.mem_cons.1 hk with e | hk
        · omega
        · rcases List.mem_cons.1 hk with e | hk
          · omega
          · rcases hg19 k hk with z | z
            · have := hF2 k z
              omega
            · omega
      · refine go (mk X16 m16 bel16 (r9.ext0 E16) p9 (by omega) fun k hk => ?_)
        rcases List.mem_cons.1 hk with e | hk
        · omega
        · rcases List.mem_cons.1 hk with e | hk
          · omega
          · have := hF9 k hk
            omega
    have b6 : ∀ tt, tt = false → rloglaw_walk.B6 (some x) n c steady quiet b (some ⟨l', 0, none⟩) (some ⟨q, 0, none⟩) i o (D.log.length : Int) b0 (j : Int) xx tt w15 N1 R := fun tt htt => by
      unfold rloglaw_walk.B6
      refine Bm.neg htt (LdI.mk oo15 rfl (Bm.ite (fun hge => b7 _ ?_) fun hge => b7 false rfl))
      have : xx = true := hxx.2 (hwork hge)
      rw [this]
      rfl
    unfold rloglaw_walk.B4
    refine Bm.neg rfl (Bm.neg (decide_eq_false (by omega)) (LdI.mk oo15 rfl (Bm.ite (fun h0 => b6 _ ?_) fun h0 => b6 false rfl)))
    have hj0 : j = 0 := by
      cases j with
      | zero => rfl
      | succ j =>
        have := hjmin 0 (by omega)
        rw [hfoot0 h0] at this
        exact absurd rfl this
    rw [hj0]
    rfl
theorem walk_ok {w : World} {sb : Option Addr} {n c : Nat} {ops : Nat → OpV} {steady quiet : Bool} {R : Int → Int → World → Prop} (hs : ScriptIs w sb n ops) (hR : ∀ m w', Ext [] w w' → R (-1) m w') : rloglaw_walk.Call sb n c steady quiet w R := by
  apply rloglaw_walk.sound
  unfold rloglaw_walk.B0
  have hnn := hs.1
  refine groundL_ok fun d t F w1 hF ht st1 he1 => NewSet.mk rfl rfl fun b w3 hb hs3 ob3 he3 => LdP.mk ob3 rfl ?_
  have E3 : Ext [] w w3 := he1.trans he3
  have st3 := st1.ext0 he3
  have hz1 := he1.size
  have hz3 := E3.size
  apply rlog_New.sound
  unfold rlog_New.B0
  have p0 : Path freshDisk [L0] 0 := path_marked (D := freshDisk) fresh_good st1.like holds_0
  refine openL_ok st3 p0 (by simp [freshDisk]) holds_0 L0_ok fun l w4 D4 F4 A4 hl r4 p4 q4 z4 he4 hg4 => mdNew_ok fun q M w5 hq hM5 hA hA0 hH he5 => ?_
  have hD4 := z4 clean_0
  subst hD4
  have ob4 := ownT he4 st3.tys ob3 (by decide)
  have E4 : Ext [] w w4 := E3.trans' he4 (fun x hx hlt => by
    rcases List.mem_cons.1 hx with e | e
    · omega
    · have := hF x e
      omega)
  have hz4 := E4.size
  have E5 := E4.trans he5
  have ob5 := he5.own ob4 (by simp)
  have hinv : Inv w b l q 0 w5 t d freshDisk F4 A4 M L0 [] := ⟨r4.ext0 he5, p4, by simp [freshDisk], hM5, hA, by rw [hA0, hA], by rw [hH]; rfl, fun X hX => by simp at hX; subst hX; exact L0_ok, by simp, ob5, E5, fun k hk => by
    rcases List.mem_append.1 hk with e | e
    · rcases List.mem_cons.1 e with e | e
      · omega
      · rcases List.mem_cons.1 e with e | e
        · omega
        · rcases hg4 k e with z | z
          · exact hF k z
          · omega
    · have := hq k e
      omega, by omega⟩
  refine LdP.mk ob5 rfl (LdP.mk ob5 rfl (lSteps_ok hinv.real.st.dk fun w6 he6 => Bm.neg rfl ?_))
  have hinv6 := hinv.ext0 he6
  have main : ∀ w7, Inv w b l q 0 w7 t d freshDisk F4 A4 M L0 [] → rloglaw_walk.B1 sb n c steady quiet b (some ⟨l, 0, none⟩) (some ⟨q, 0, none⟩) false w7 R := by
    intro w7 hI7
    unfold rloglaw_walk.B1
    refine Bm.neg rfl ?_
    unfold rloglaw_walk.L1
    refine ⟨fun m sb' n' c' st' qu' b' x' m' i w' => sb = sb' ∧ n = n' ∧ c = c' ∧ steady = st' ∧ quiet = qu' ∧ b = b' ∧ 0 ≤ i ∧ i ≤ n ∧ i ≤ 4398046511104 ∧ m = (n - i).toNat ∧ ∃ l q, some ⟨l, 0, none⟩ = x' ∧ some ⟨q, 0, none⟩ = m' ∧ InvE w b l q i w', n, ⟨rfl, rfl, rfl, rfl, rfl, rfl, by omega, by omega, by omega, by omega, l, q, rfl, rfl, t, d, freshDisk, F4, A4, M, L0, [], hI7⟩, ?_⟩
    rintro m sb' n' c' st' qu' b' x' m' i w' ⟨rfl, rfl, rfl, rfl, rfl, rfl, i0, i1, i2, rfl, l, q, rfl, rfl, t, d, D, F, A, M, L, S, hI⟩
    unfold rloglaw_walk.L1b
    have stop : ∀ tt : Bool, tt = false → ∀ N1, rloglaw_walk.B2 sb n c steady quiet b (some ⟨l, 0, none⟩) (some ⟨q, 0, none⟩) i tt w' N1 R := by
      intro tt htt N1
      unfold rloglaw_walk.B2
      generalize (decide (((n : Nat) : Int) < 4398046511104)) = bb
      exact Bm.neg htt (Bm.mk (fun _ => hR _ w' hI.ext) (fun _ => hR _ w' hI.ext))
    by_cases hi : i < (n : Int)
    rotate_left
    · generalize hf : false = ff
      exact Bm.neg (decide_eq_false hi) (stop ff hf.symm _)
    refine Bm.pos (decide_eq_true hi) ?_
    by_cases hi2 : i < 4398046511104
    rotate_left
    · exact stop _ (decide_eq_false hi2) _
    rw [decide_eq_true hi2]
    exact b2_ok hs i0 hi hi2 hI fun {w9 l q} h9 => ⟨(n - (i + 1)).toNat, by omega, rfl, rfl, rfl, rfl, rfl, rfl, by omega, by omega, by omega, rfl, l, q, rfl, rfl, h9⟩
  refine Bm.mk (fun _ => ?_) (fun _ => main w6 hinv6)
  refine LdP.mk hinv6.bel rfl (LdP.mk hinv6.bel rfl (seenL_ok (D := freshDisk) hinv6.real hinv6.md hinv6.mA fun w7 he7 => main w7 (hinv6.ext0 he7)))
end
theorem refines_law {w : World} {sb : Option Addr} {n c : Nat} {ops : Nat → OpV} (hs : ScriptIs w sb n ops) {R : Bool → World → Prop} (hR : ∀ w', Ext [] w w' → R true w') : rloglaw_Refines.Call sb n c w R := by
  apply rloglaw_Refines.sound
  unfold rloglaw_Refines.B0
  apply rloglaw_RefinesUpTo.sound
  unfold rloglaw_RefinesUpTo.B0
  exact walk_ok hs fun m w' he => hR w' he
theorem refinesSteady_law {w : World} {sb : Option Addr} {n c : Nat} {ops : Nat → OpV} (hs : ScriptIs w sb n ops) {R : Bool → World → Prop} (hR : ∀ w', Ext [] w w' → R true w') : rloglaw_RefinesSteady.Call sb n c w R := by
  apply rloglaw_RefinesSteady.sound
  unfold rloglaw_RefinesSteady.B0
  exact walk_ok hs fun m w' he => hR w' he
theorem refinesQuiet_law {w : World} {sb : Option Addr} {n c : Nat} {ops : Nat → OpV} (hs : ScriptIs w sb n ops) {R : Bool → World → Prop} (hR : ∀ w', Ext [] w w' → R true w') : rloglaw_RefinesQuiet.Call sb n c w R := by
  apply rloglaw_RefinesQuiet.sound
  unfold rloglaw_RefinesQuiet.B0
  exact walk_ok hs fun m w' he => hR w' he
end Go.Proofs.Qxb6500431a
