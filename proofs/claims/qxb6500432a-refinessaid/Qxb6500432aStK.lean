/-
  storelaw: Play and the walk.
-/
import Derived.Test.Qxb6500432aStJ
set_option linter.unusedVariables false
set_option linter.unusedSimpArgs false
open Go.Vc
namespace Go.Proofs.Qxb6500432a

theorem DiskAt.ty {w : World} {d : Nat} {D : DiskS} {F : List Nat} (h : DiskAt w d D F) {k : Nat} (hk : k ∈ F) : ∃ cs T, Own w k cs T ∧ (T = T_diskm_Disk ∨ T = T_string ∨ T = T_diskm_half) := by
  obtain ⟨nb, mb, rb, rl, rc, rfl, hne, hd, hn, hnl, hm, hml, hr, hrl⟩ := h
  simp only [List.mem_cons] at hk
  rcases hk with rfl | rfl | rfl | hk
  · exact ⟨_, _, hd, .inl rfl⟩
  · exact ⟨_, _, hn, .inr (.inl rfl)⟩
  · exact ⟨_, _, hm, .inr (.inl rfl)⟩
  · rcases hr.2.2 with ⟨e, _⟩ | ⟨k', cs, e, ho, _⟩
    · rw [e] at hk; simp [rowBlk] at hk
    · rw [e] at hk; simp [rowBlk] at hk; subst hk; exact ⟨_, _, ho, .inr (.inr rfl)⟩
structure Pair (w : World) (t q d : Nat) (D : DiskS) (F : List Nat) (M : MSt) : Prop where
  st : StoreAt w t (openR d D)
  dk : DiskAt w d D F
  md : MdAt w q M
def pfoot (t q : Nat) (F : List Nat) (M : MSt) : List Nat := t :: (F ++ M.foot q)
def HistOk (M : MSt) : Prop := (M.H = [] ∧ M.A = M.A0) ∨ ∃ n, M.H = [(n, M.A)]
section
variable {w w' : World} {t q d : Nat} {D : DiskS} {F : List Nat} {M : MSt} {N : Int}
theorem Pair.ext0 (h : Pair w t q d D F M) (he : Ext [] w w') : Pair w' t q d D F M := ⟨he.own h.st (by simp), h.dk.ext he (by simp), h.md.ext0 he⟩
theorem Pair.tF (h : Pair w t q d D F M) : t ∉ F := fun hk => by
  obtain ⟨cs, T, ho, hT⟩ := h.dk.ty hk
  have := (Own.unique h.st ho).2
  rcases hT with e | e | e <;> rw [e] at this <;> exact absurd this (by decide)
theorem mfoot_ty (h : MdAt w q M) {k : Nat} (hk : k ∈ M.foot q) : ∃ cs T, Own w k cs T ∧ (T = T_storem_Store ∨ T = T_storem_state ∨ T = PTS) := by
  simp only [MSt.foot, List.mem_cons] at hk
  rcases hk with e | e | e
  · rw [e]; exact ⟨_, _, h.own, .inl rfl⟩
  · rw [e]; exact ⟨_, _, h.cur, .inr (.inl rfl)⟩
  · obtain ⟨cs, ho⟩ := h.rowT e
    exact ⟨cs, _, ho, .inr (.inr rfl)⟩
theorem Pair.lt (h : Pair w t q d D F M) {k : Nat} (hk : k ∈ pfoot t q F M) : k < w.heap.size := by
  simp only [pfoot, List.mem_cons, List.mem_append] at hk
  rcases hk with e | e | e
  · rw [e]; exact Own.lt h.st
  · exact h.dk.lt k e
  · exact h.md.lt e
theorem Pair.ty (h : Pair w t q d D F M) {k : Nat} (hk : k ∈ pfoot t q F M) : ∃ cs T, Own w k cs T ∧ T ≠ T_storelaw_Below ∧ T ≠ T_api_Op := by
  simp only [pfoot, List.mem_cons, List.mem_append] at hk
  rcases hk with e | e | e
  · rw [e]; exact ⟨_, _, h.st, by decide, by decide⟩
  · obtain ⟨cs, T, ho, hT⟩ := h.dk.ty e
    refine ⟨cs, T, ho, ?_⟩
    rcases hT with e | e | e <;> rw [e] <;> decide
  · obtain ⟨cs, T, ho, hT⟩ := mfoot_ty h.md e
    refine ⟨cs, T, ho, ?_⟩
    rcases hT with e | e | e <;> rw [e] <;> decide
/-- The real side has moved. -/
theorem Pair.md2 (h : Pair w t q d D F M) (he : Ext (t :: F) w w') : MdAt w' q M := h.md.extT he (fun k hk cs T ho => by
  rcases List.mem_cons.1 hk with e | hk
  · rw [e] at ho
    have := (ho.unique h.st).2
    rw [this]
    decide
  · obtain ⟨cs', T', ho', hT⟩ := h.dk.ty hk
    have := (ho.unique ho').2
    rw [this]
    rcases hT with e | e | e <;> rw [e] <;> decide)
theorem Pair.step (h : Pair w t q d D F M) {w2 w3 : World} {D' : DiskS} {F' : List Nat} {M' : MSt} {A' : AbsS} (st2 : StoreAt w2 t (openR d D')) (dk2 : DiskAt w2 d D' F') (he : Ext (t :: F) w w2) (hg : Grew w F F') (ms : MStep w2 q M A' M' w3) :
    Pair w3 t q d D' F' M' ∧ Ext (pfoot t q F M) w w3 ∧ Grew w (pfoot t q F M) (pfoot t q F' M') := by
  have m2 := h.md2 he
  have hz := he.size
  refine ⟨⟨ms.ext.own st2 (fun hk => ?_), dk2.ext ms.ext (fun k hk hk2 => ?_), ms.at_⟩, ?_, fun k hk => ?_⟩
  · obtain ⟨cs, T, ho, hT⟩ := mfoot_ty m2 hk
    have := (Own.unique st2 ho).2
    rcases hT with e | e | e <;> rw [e] at this <;> exact absurd this (by decide)
  · obtain ⟨cs, T, ho, hT⟩ := mfoot_ty m2 hk2
    obtain ⟨cs', T', ho', hT'⟩ := dk2.ty hk
    have := (Own.unique ho ho').2
    rcases hT with e | e | e <;> rcases hT' with e' | e' | e' <;> rw [e, e'] at this <;> exact absurd this (by decide)
  · refine (he.mono (fun x hx _ => ?_)).trans (ms.ext.mono (fun x hx _ => ?_))
    · simp only [List.mem_cons] at hx
      simp only [pfoot, List.mem_cons, List.mem_append]
      rcases hx with e | e
      · exact .inl e
      · exact .inr (.inl e)
    · simp only [pfoot, List.mem_cons, List.mem_append]
      exact .inr (.inr hx)
  · simp only [pfoot, List.mem_cons, List.mem_append] at hk ⊢
    rcases hk with e | e | e
    · exact .inl (.inl e)
    · rcases hg k e with q1 | q1
      · exact .inl (.inr (.inl q1))
      · exact .inr q1
    · rcases ms.grew k e with q1 | q1
      · exact .inl (.inr (.inr q1))
      · exact .inr (by omega)
theorem putErr_congr {slot idx term : Int} {n : Nat} {u v : Bool} (h : 0 ≤ slot → slot < 6 → u = v) : putErr slot idx term n u = putErr slot idx term n v := by
  unfold putErr
  by_cases c : slot < 0 ∨ 6 ≤ slot
  · rw [if_pos c, if_pos c]
  · rw [h (by omega) (by omega)]
theorem delErr_congr {slot : Int} {u v : Bool} (h : 0 ≤ slot → slot < 6 → u = v) : delErr slot u = delErr slot v := by
  unfold delErr
  by_cases c : slot < 0 ∨ 6 ≤ slot
  · rw [if_pos c, if_pos c]
  · rw [h (by omega) (by omega)]
theorem play_ok {o0 o1 o2 o3 : Int} {s s5 : ByteArray} {R : Bool → Bool → World → Prop} (h : Pair w t q d D F M) (hP : Pend D M.A N) (hD0 : D.log = []) (hA : M.A0 = M.A) (hH : M.H = []) (hN : N ≤ 4611686018427387903) (hs : s.size ≤ 140737488351232)
    (hR : ∀ ch w' D' F' M', Pair w' t q d D' F' M' → Cuts D' M'.A0 M'.A (N + 1) → HistOk M' → (ch = false → D'.log = []) → D'.log.length ≤ 10 → Ext (pfoot t q F M) w w' → Grew w (pfoot t q F M) (pfoot t q F' M') → R true ch w') : storelaw_Play.Call (some ⟨t, 0, none⟩) (some ⟨q, 0, none⟩) o0 o1 o2 o3 s s5 w R := by
  apply storelaw_Play.sound
  unfold storelaw_Play.B0
  refine New.mk fun o w1 ho hs1 oo1 he1 => LdI.mk oo1 rfl ?_
  obtain ⟨hG, hLI⟩ := hP.now
  have hL := likeI_of (d := d) hLI
  have h1 := h.ext0 he1
  have hz1 := he1.size
  have hc0 : Cuts D M.A0 M.A (N + 1) := by
    have := hP.cuts.mono (M := N + 1) (by omega)
    rw [← hA] at this
    rw [← hA]
    exact this
  have hist0 : HistOk M := .inl ⟨hH, hA.symm⟩
  have hl0 : D.log.length = 0 := by rw [hD0]; rfl
  have hm0 : M.H.length = 0 := by rw [hH]; rfl
  -- nothing has changed
  have stay : ∀ w', Ext [] w1 w' → R true false w' := fun w' he => hR false w' D F M (h1.ext0 he) hc0 hist0 (fun _ => hD0) (by omega) ((he1.trans he).nil) (Grew.refl _ _)
  have oP : ∀ {w' : World} {M' : MSt} {F' : List Nat}, Ext (t :: F) w1 w' → Own w' o #[.int .i64 o0, .int .i64 o1, .int .i64 o2, .int .i64 o3, .string s, .string s5] T_api_Op := fun {w' M' F'} he => he.own oo1 (fun hk => by
    rcases List.mem_cons.1 hk with e | hk
    · exact Own.ne_type oo1 h1.st (by decide) e
    · have := h.dk.lt o hk
      omega)
  -- both have changed
  have moved : ∀ {w2 w3 : World} {D' : DiskS} {F' : List Nat} {M' : MSt} {A' : AbsS}, StoreAt w2 t (openR d D') → DiskAt w2 d D' F' → Ext (t :: F) w1 w2 → Grew w1 F F' → MStep w2 q M A' M' w3 → Cuts D' M.A A' (N + 1) → D'.log.length ≤ 10 → R true true w3 := fun {w2 w3 D' F' M' A'} st2 dk2 he2 hg2 ms hc hlen => by
    obtain ⟨p1, p2, p3⟩ := h1.step st2 dk2 he2 hg2 ms
    refine hR true w3 D' F' M' p1 ?_ ?_ (fun e => by cases e) hlen (he1.nil.trans p2) (fun k hk => ?_)
    · rw [ms.A0, ms.A, hA]
      exact hc
    · obtain ⟨n, hn⟩ := ms.H
      rw [hH, List.nil_append, ← ms.A] at hn
      exact .inr ⟨n, hn⟩
    · rcases p3 k hk with q1 | q1
      · exact .inl q1
      · exact .inr (by omega)
  have errR : ∀ {w' : World} {e : Int}, e ≠ 0 → Ext [] w1 w' → R (e == e) (e == 0) w' := fun {w' e} hne he => by
    have e1 : (e == e) = true := by simp
    have e2 : (e == 0) = false := by simpa using hne
    rw [e1, e2]
    exact stay w' he
  refine Bm.mk (fun _ => ?_) (fun _ => Bm.mk (fun _ => ?_) (fun _ => Bm.mk (fun _ => ?_) (fun _ => Bm.mk (fun _ => ?_) (fun _ => Bm.mk (fun _ => ?_) (fun _ => Bm.mk (fun _ => ?_) (fun _ => Bm.mk (fun _ => ?_) (fun _ => Bm.mk (fun _ => ?_) (fun _ => stay w1 (Ext.refl _ _)))))))))
  · refine LdI.mk oo1 rfl (LdI.mk oo1 rfl (setMeta_ok h1.st h1.dk h1.tF hG (by omega) (by omega) (fun he => ?_) (fun he w2 F' st2 dk2 he2 hg2 => ?_)))
    · refine LdI.mk oo1 rfl (LdI.mk oo1 rfl (mdSetMeta_ok h1.md (by omega) (fun he' => errR he (Ext.refl _ _)) (fun he' => absurd he' he)))
    · have oo2 := oP (M' := M) (F' := F) he2
      refine LdI.mk oo2 rfl (LdI.mk oo2 rfl (mdSetMeta_ok (h1.md2 he2) (by omega) (fun he' => absurd he he') (fun _ M' w3 ms => moved st2 dk2 he2 hg2 ms (setMeta_cuts hP (by omega) he) (by simp [DiskS.write, hl0]))))
  · refine LdI.mk oo1 rfl (LdI.mk oo1 rfl (LdS.mk oo1 rfl (setSnap_ok h1.st h1.dk h1.tF hG (by omega) (by omega) hs (fun he => ?_) (fun he w2 F' st2 dk2 he2 hg2 => ?_))))
    · refine LdI.mk oo1 rfl (LdI.mk oo1 rfl (LdS.mk oo1 rfl (mdSetSnap_ok h1.md (by omega) (fun he' => errR he (Ext.refl _ _)) (fun he' => absurd he' he))))
    · have oo2 := oP (M' := M) (F' := F) he2
      have hlen : (snapD D o1 o2 s).log.length ≤ 10 := by
        have hd : s.size ≤ 128 := by
          unfold snapErr at he
          split at he
          · omega
          split at he
          · omega
          · omega
        have := areaW_log D s (oA D) (cnt64 s)
        have hc : cnt64 s ≤ 2 := by unfold cnt64; omega
        simp only [snapD, DiskS.write, List.length_append, this, List.length_cons, List.length_nil]
        omega
      refine LdI.mk oo2 rfl (LdI.mk oo2 rfl (LdS.mk oo2 rfl (mdSetSnap_ok (h1.md2 he2) (by omega) (fun he' => absurd he he') (fun _ M' w3 ms => moved st2 dk2 he2 hg2 ms (setSnap_cuts hP (by omega) he) hlen))))
  · have hcu : putErr o1 o2 o3 s.size ((openR d D).used o1.toNat) = putErr o1 o2 o3 s.size (M.A.used o1.toNat) := putErr_congr (fun h0 h6 => hL.used _ (by omega))
    refine LdI.mk oo1 rfl (LdI.mk oo1 rfl (LdI.mk oo1 rfl (LdS.mk oo1 rfl (putRec_ok h1.st h1.dk h1.tF hG (by omega) (fun he w2 he2 => ?_) (fun he w2 F' st2 dk2 he2 hg2 => ?_)))))
    · have oo2 := he2.own oo1 (by simp)
      have h2 := h1.ext0 he2
      refine LdI.mk oo2 rfl (LdI.mk oo2 rfl (LdI.mk oo2 rfl (LdS.mk oo2 rfl (mdPutRec_ok h2.md (by omega) (fun he' w3 he3 => ?_) (fun he' => absurd he' (by rw [← hcu]; exact he))))))
      rw [hcu] at he ⊢
      exact errR he (he2.trans he3)
    · have oo2 := oP (M' := M) (F' := F) he2
      have he0 : putErr o1 o2 o3 s.size (M.A.used o1.toNat) = 0 := by rw [← hcu]; exact he
      have hrng : (0 ≤ o1 ∧ o1 < 6) ∧ (1 ≤ o2 ∧ o2 ≤ 72057594037927936) ∧ (0 ≤ o3 ∧ o3 ≤ 72057594037927936) ∧ s.size ≤ 24 ∧ M.A.used o1.toNat = false := by
        unfold putErr at he0
        split at he0
        · omega
        split at he0
        · omega
        split at he0
        · omega
        · rename_i q1 q2 q3
          exact ⟨by omega, by omega, by omega, by omega, by simpa using q3⟩
      refine LdI.mk oo2 rfl (LdI.mk oo2 rfl (LdI.mk oo2 rfl (LdS.mk oo2 rfl (mdPutRec_ok (h1.md2 he2) (by omega) (fun he' => absurd he0 he') (fun _ M' w3 ms => moved st2 dk2 he2 hg2 ms ((putRec_cuts hP (by omega) hrng.2.2.2.2 (by omega) (by omega) (by omega)).mono (by omega)) (by simp [DiskS.write, hl0]))))))
  · have hcu : delErr o1 ((openR d D).used o1.toNat) = delErr o1 (M.A.used o1.toNat) := delErr_congr (fun h0 h6 => hL.used _ (by omega))
    refine LdI.mk oo1 rfl (delRec_ok h1.st h1.dk h1.tF hG (by omega) (fun he => ?_) (fun he w2 F' st2 dk2 he2 hg2 => ?_))
    · refine LdI.mk oo1 rfl (mdDelRec_ok h1.md (by omega) (fun he' => ?_) (fun he' => absurd he' (by rw [← hcu]; exact he)))
      rw [hcu] at he ⊢
      exact errR he (Ext.refl _ _)
    · have oo2 := oP (M' := M) (F' := F) he2
      have he0 : delErr o1 (M.A.used o1.toNat) = 0 := by rw [← hcu]; exact he
      have hrng : 0 ≤ o1 ∧ o1 < 6 := by
        unfold delErr at he0
        split at he0
        · omega
        · omega
      refine LdI.mk oo2 rfl (mdDelRec_ok (h1.md2 he2) (by omega) (fun he' => absurd he0 he') (fun _ M' w3 ms => moved st2 dk2 he2 hg2 ms ((delRec_cuts hP (by omega)).mono (by omega)) (by simp [DiskS.write, hl0])))
  · refine LdI.mk oo1 rfl (sameRec'_ok h1.st h1.md fun x w2 hx he2 => ?_)
    rw [hx.2 (recAns_like hL o1)]
    exact stay w2 he2
  · refine sameMeta'_ok h1.st h1.md fun x w2 hx he2 => ?_
    rw [hx.2 ⟨hL.term, hL.vote⟩]
    exact stay w2 he2
  · refine sameSnap'_ok h1.st h1.md fun x w2 hx he2 => ?_
    rw [hx.2 ⟨hL.sidx, hL.sterm, hL.snap⟩]
    exact stay w2 he2
  · refine check'_ok h1.st h1.dk hG (by omega) fun w2 he2 => ?_
    rw [estr_eq]
    exact stay w2 he2
end
end Go.Proofs.Qxb6500432a
