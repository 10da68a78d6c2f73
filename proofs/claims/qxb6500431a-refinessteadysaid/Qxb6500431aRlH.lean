/-
  rlog: the law's looks and plays.
-/
import Derived.Test.Qxb6500431aRlG
set_option linter.unusedVariables false
set_option linter.unusedSimpArgs false
open Go.Vc
namespace Go.Proofs.Qxb6500431a

/-! ### the fresh disk -/
theorem fresh_blk {i : Nat} (h : i < 14) : blk freshDisk i = zblock := by
  unfold blk freshDisk
  simp only [List.getD]
  rw [List.getElem?_replicate, if_pos h]
  rfl
theorem z_whole : whole zblock = false := by
  unfold whole
  have e : byteAt zblock 0 = 0 := by
    have := byteAt_nat zblock 0
    have h2 : ubyte zblock 0 = 0 := zbytes_get 64 0
    rw [h2] at this
    exact this
  rw [e]
  simp
theorem fresh_pick : pickM freshDisk = false ∧ pickH freshDisk = false := by
  constructor
  · unfold pickM
    rw [fresh_blk (by omega), decMeta_torn z_whole]
    rfl
  · unfold pickH
    rw [fresh_blk (by omega), decHead_torn z_whole]
    rfl
theorem decMeta_z : decMeta zblock = ⟨false, 0, 0, 0⟩ := by
  unfold decMeta
  rw [if_neg (by simp [z_whole])]
theorem decHead_z : decHead zblock = ⟨false, 0, 0, 0, 0, 0⟩ := by
  unfold decHead headOk
  rw [z_whole]
  rfl
theorem fresh_cur : curM freshDisk = ⟨false, 0, 0, -1⟩ ∧ curH freshDisk = ⟨false, 0, 0, 0, 1, 0⟩ := by
  have e1 : rawM freshDisk = ⟨false, 0, 0, 0⟩ := by
    unfold rawM
    rw [if_neg (by simp [fresh_pick.1]), fresh_blk (by omega), decMeta_z]
  have e2 : rawH freshDisk = ⟨false, 0, 0, 0, 0, 0⟩ := by
    unfold rawH
    rw [if_neg (by simp [fresh_pick.2]), fresh_blk (by omega), decHead_z]
  constructor
  · unfold curM
    rw [e1]
    rfl
  · unfold curH
    rw [e2]
    rfl
theorem fresh_good : Good freshDisk 0 := by
  have hb : ∀ i, i < 14 → blk freshDisk i = zblock := fun i hi => fresh_blk hi
  refine ⟨by simp [freshDisk], fun i hi => by rw [hb i hi]; exact zbytes_size 64, by rw [fresh_cur.1]; simp, fun hok => ?_, by rw [fresh_cur.2]; simp, fun hok => ?_⟩
  · have hs : slotM freshDisk = 1 := by unfold slotM; rw [if_neg (by simp [fresh_pick.1])]
    rw [hs, hb _ (by decide), decMeta_z] at hok
    cases hok
  · have hs : slotH freshDisk = 1 := by unfold slotH; rw [if_neg (by simp [fresh_pick.2])]
    rw [hs, hb _ (by decide), decHead_z] at hok
    cases hok
theorem fresh_like {d : Nat} : Like (openR d freshDisk) ⟨0, -1, 0, 0, estr, fun _ => false, fun _ => ⟨0, 0, estr⟩⟩ := by
  have em : (openR d freshDisk).m = curM freshDisk := rfl
  have eh : (openR d freshDisk).h = curH freshDisk := rfl
  have es : (openR d freshDisk).snap = areaV freshDisk (curH freshDisk).area (curH freshDisk).size := rfl
  refine ⟨by rw [em, fresh_cur.1], by rw [em, fresh_cur.1], by rw [eh, fresh_cur.2], by rw [eh, fresh_cur.2], ?_, fun s hs => ?_, fun s hs hu => by cases hu⟩
  · rw [es, fresh_cur.2]
    rfl
  · rw [openR_used hs, fresh_blk (by omega)]
    exact recOk_torn z_whole

/-! ### plain -/
theorem LogS.ext' {a b : LogS} (h1 : a.term = b.term) (h2 : a.vote = b.vote) (h3 : a.base = b.base) (h4 : a.bterm = b.bterm) (h5 : a.snap = b.snap) (h6 : a.ents = b.ents) : a = b := by
  cases a
  cases b
  simp only at h1 h2 h3 h4 h5 h6
  subst h1 h2 h3 h4 h5 h6
  rfl
theorem holds_uniq {I : List ByteArray} {A A' : AbsS} {L L' : LogS} (hi : LikeI I A) (hi' : LikeI I A') (h : Holds A L) (h' : Holds A' L') (hk : LogOk L) (hk' : LogOk L') : L = L' := by
  unfold LikeI at hi hi'
  have hu : ∀ s, s < 6 → A.used s = A'.used s := fun s hs => by rw [← hi.used s hs, hi'.used s hs]
  have hr : ∀ s, s < 6 → A.used s = true → A.recs s = A'.recs s := fun s hs u => by rw [← hi.recs s hs u, hi'.recs s hs (by rw [← hu s hs]; exact u)]
  have eb : L.base = L'.base := by rw [← h.base, ← h'.base, ← hi.sidx, hi'.sidx]
  have key : ∀ {A A' : AbsS} {L L' : LogS}, (∀ s, s < 6 → A.used s = A'.used s) → (∀ s, s < 6 → A.used s = true → A.recs s = A'.recs s) → L.base = L'.base → Holds A L → Holds A' L' → LogOk L → LogOk L' → L'.ents.length ≤ L.ents.length := fun {A A' L L'} hu hr eb h h' hk hk' => by
    rcases Nat.lt_or_ge L.ents.length L'.ents.length with q | q
    · have hl := h'.live L.ents.length _ (getD_some' q)
      have := hk'.len
      rw [← eb] at hl
      have u : A.used (sl (L.base + 1 + (L.ents.length : Int))) = true := by rw [hu _ (sl_lt _)]; exact hl.1
      have hne := h.next (by omega) u
      rw [hr _ (sl_lt _) u, hl.2] at hne
      exact absurd rfl hne
    · exact q
  have l1 := key hu hr eb h h' hk hk'
  have l2 := key (fun s hs => (hu s hs).symm) (fun s hs u => (hr s hs (by rw [hu s hs]; exact u)).symm) eb.symm h' h hk' hk
  refine LogS.ext' (by rw [← h.term, ← h'.term, ← hi.term, hi'.term]) (by rw [← h.vote, ← h'.vote, ← hi.vote, hi'.vote]) eb (by rw [← h.bterm, ← h'.bterm, ← hi.sterm, hi'.sterm]) (by rw [← h.snap, ← h'.snap, ← hi.snap, hi'.snap]) ?_
  refine List.ext_getElem? fun n => ?_
  rcases Nat.lt_or_ge n L.ents.length with q | q
  · have a := h.live n _ (getD_some' q)
    have b := h'.live n _ (getD_some' (show n < L'.ents.length by omega))
    rw [← eb, ← hr _ (sl_lt _) a.1, a.2] at b
    rw [getD_some' q, getD_some' (show n < L'.ents.length by omega)]
    have e := b.2
    simp only [RecS.mk.injEq, true_and] at e
    rw [Prod.ext e.1 e.2]
  · rw [List.getElem?_eq_none q, List.getElem?_eq_none (by omega)]
theorem ents_eq {L L' : LogS} (eb : L.base = L'.base) (el : L.last = L'.last) (h : ∀ i, L'.base - 1 ≤ i → i ≤ L'.last + 1 → atL L i = atL L' i) : L.ents = L'.ents := by
  have hlen : L.ents.length = L'.ents.length := by unfold LogS.last at el; omega
  refine List.ext_getElem? fun n => ?_
  rcases Nat.lt_or_ge n L.ents.length with q | q
  · have := h (L'.base + 1 + (n : Int)) (by omega) (by unfold LogS.last; omega)
    unfold atL at this
    have c1 : ¬ (L'.base + 1 + (n : Int) ≤ L'.base) := by omega
    have c2 : ¬ (L'.last < L'.base + 1 + (n : Int)) := by unfold LogS.last; omega
    rw [eb, el, if_neg c1, if_neg c1, if_neg c2, if_neg c2, show (L'.base + 1 + (n : Int) - L'.base - 1).toNat = n by omega] at this
    rw [getD_some' q, getD_some' (show n < L'.ents.length by omega)]
    simp only [Prod.mk.injEq, and_true] at this
    rw [this]
  · rw [List.getElem?_eq_none q, List.getElem?_eq_none (by omega)]
theorem no_iff {P Q : Prop} (hx : (false = true) ↔ P) (hq : Q → P) : (false = true) ↔ Q := ⟨fun e => (by cases e), fun e => by have := hx.2 (hq e); cases this⟩
theorem pops_ok {L : LogS} (hk : LogOk L) : ∀ (k : Nat), LogOk (popK k L)
  | 0 => hk
  | k + 1 => by rw [popK_succ]; exact popL_ok (pops_ok hk k)
theorem popsN_ok : ∀ {L : LogS} (hk : LogOk L) (k : Nat), ∀ X ∈ popsN k L, LogOk X
  | L, hk, 0 => fun X hX => by cases hX
  | L, hk, k + 1 => fun X hX => by
    rcases List.mem_cons.1 hX with e | e
    · rw [e]; exact popL_ok hk
    · exact popsN_ok (popL_ok hk) k X e
/-- All the states on the way are in order, if the last is. -/
theorem okS_le1 {L : LogS} {S : List LogS} (hS : S.length ≤ 1) (hf : LogOk (finL L S)) : ∀ X ∈ S, LogOk X := fun X hX => by
  match S, hS with
  | [], _ => cases hX
  | [a], _ => simp at hX; subst hX; exact hf
theorem okS_trunc {i : Int} {L : LogS} (hk : LogOk L) : ∀ X ∈ (truncS i L).2, LogOk X := by
  unfold truncS
  by_cases c : i ≤ L.base
  · rw [if_pos c]; intro X hX; cases hX
  · rw [if_neg c]; exact popsN_ok hk _
theorem okS_install {idx tm : Int} {sn : ByteArray} {L : LogS} (hk : LogOk L) (hf : LogOk (finL L (installS idx tm sn L).2)) : ∀ X ∈ (installS idx tm sn L).2, LogOk X := by
  unfold installS at hf ⊢
  split
  · intro X hX; cases hX
  · rename_i c1
    rw [if_neg c1] at hf
    split
    · intro X hX; cases hX
    · rename_i c2
      rw [if_neg c2] at hf
      split
      · intro X hX; cases hX
      · rename_i c3
        rw [if_neg c3] at hf
        split
        · rename_i c4
          rw [if_pos c4] at hf
          exact okS_le1 (by simp) hf
        · rename_i c4
          rw [if_neg c4] at hf
          intro X hX
          rcases List.mem_append.1 hX with e | e
          · exact popsN_ok hk _ X e
          · simp at e
            subst e
            have : finL L (popsN L.ents.length L ++ [insL idx tm sn (popK L.ents.length L)]) = insL idx tm sn (popK L.ents.length L) := by unfold finL; simp
            rw [this] at hf
            exact hf
theorem len_setTerm (tm vt : Int) (L : LogS) : (setTermS tm vt L).2.length ≤ 1 := by unfold setTermS; split <;> simp
theorem len_append (tm : Int) (dd : ByteArray) (L : LogS) : (appendS tm dd L).2.length ≤ 1 := by
  unfold appendS
  split
  · simp
  · split <;> simp
theorem len_compact (u : Int) (sn : ByteArray) (L : LogS) : (compactS u sn L).2.length ≤ 1 := by
  unfold compactS
  split
  · simp
  · split
    · simp
    · split <;> simp
theorem len_trunc {i : Int} {L : LogS} (hk : LogOk L) : (truncS i L).2.length ≤ 7 := by
  unfold truncS
  split
  · simp
  · rename_i c
    have := hk.len
    simp only [popsN_len]
    unfold LogS.last
    omega
theorem len_install {idx tm : Int} {sn : ByteArray} {L : LogS} (hk : LogOk L) : (installS idx tm sn L).2.length ≤ 7 := by
  have := hk.len
  unfold installS
  split
  · simp
  · split
    · simp
    · split
      · simp
      · split
        · simp
        · simp [popsN_len]; omega
/-! ### the two sides -/
section
variable {w w' w1 w2 : World} {l t q d : Nat} {D D' : DiskS} {F F' : List Nat} {A A' : AbsS} {L Lm : LogS} {S : List LogS} {N : Int} {M M' : MSt}
theorem Real.tys (h : Real w l t d D F A L) : Tys w (l :: t :: F) [T_rlog_Log, T_store_Store, T_diskm_Disk, T_string, T_diskm_half] := fun k hk hz => by
  rcases List.mem_cons.1 hk with rfl | hk
  · obtain ⟨X, x1, _⟩ := h.rl
    exact ⟨_, _, x1, by simp⟩
  · obtain ⟨cs, T, ho, hT⟩ := h.st.tys k hk hz
    exact ⟨cs, T, ho, List.mem_cons_of_mem _ hT⟩
theorem MdAt.tys (h : MdAt w q M) : Tys w (M.foot q) [T_rlogm_Log, T_rlogm_state, PTS] := fun k hk hz => by
  simp only [MSt.foot, List.mem_cons] at hk
  rcases hk with rfl | rfl | e
  · exact ⟨_, _, h.own, by simp⟩
  · exact ⟨_, _, h.cur, by simp⟩
  · obtain ⟨cs, ho⟩ := h.rowT e
    exact ⟨_, _, ho, by simp⟩
theorem Real.extY {X : List Nat} {ts : List TypeId} (h : Real w l t d D F A L) (he : Ext X w w') (hX : Tys w X ts) (ht : ∀ q ∈ ts, q ≠ T_rlog_Log ∧ q ≠ T_store_Store ∧ q ≠ T_diskm_Disk ∧ q ≠ T_string ∧ q ≠ T_diskm_half) : Real w' l t d D F A L := by
  obtain ⟨Y, y1, y2⟩ := h.rl
  exact ⟨h.st.extT he hX (fun q hq => (ht q hq).2), ⟨Y, ownT he hX y1 (fun hx => (ht _ hx).1 rfl), y2⟩, h.ok, h.holds, h.clean⟩
theorem MdAt.extY {X : List Nat} {ts : List TypeId} (h : MdAt w q M) (he : Ext X w w') (hX : Tys w X ts) (ht : ∀ q ∈ ts, q ≠ T_rlogm_Log ∧ q ≠ T_rlogm_state ∧ q ≠ PTS) : MdAt w' q M :=
  h.extT he fun k hk cs T ho => by
    obtain ⟨cs', T', ho', hT⟩ := hX k hk ho.lt
    rw [(ho.unique ho').2]
    exact ht _ hT
def pf (l t q : Nat) (F : List Nat) (M : MSt) : List Nat := (l :: t :: F) ++ M.foot q
structure PDid (w : World) (l t q d : Nat) (D : DiskS) (F : List Nat) (M : MSt) (L : LogS) (N : Int) (S : List LogS) (w' : World) (D' : DiskS) (F' : List Nat) (A' : AbsS) (M' : MSt) : Prop where
  real : Real w' l t d D' F' A' (finL L S)
  path : Path D' (L :: S) (N + 1)
  log : D'.log.length ≤ D.log.length + 20
  md : MdAt w' q M'
  mA : M'.A = gs (finL L S)
  mA0 : M'.A0 = M.A0
  mH : M'.H.map (·.2) = M.H.map (·.2) ++ S.map gs
  idle : S = [] → D' = D
  ok : ∀ X ∈ S, LogOk X
  len : S.length ≤ 7
  ext : Ext (pf l t q F M) w w'
  grew : Grew w (pf l t q F M) (pf l t q F' M')
theorem Tys.two (h : Real w l t d D F A L) (hm : MdAt w q M) : Tys w (pf l t q F M) [T_rlog_Log, T_store_Store, T_diskm_Disk, T_string, T_diskm_half, T_rlogm_Log, T_rlogm_state, PTS] := Tys.app h.tys hm.tys
theorem pdid (hm : MdAt w1 q M) (d1 : Did w l t d D F N (L :: S) (finL L S) w1) (d2 : MDid w1 q M L S M' w2) (hok : LogOk (finL L S) → ∀ X ∈ S, LogOk X) (hlen : S.length ≤ 7) : ∃ D' F' A', PDid w l t q d D F M L N S w2 D' F' A' M' := by
  obtain ⟨⟨D', F', A', r1, p1, q1, g1, z1⟩, e1⟩ := d1
  refine ⟨D', F', A', r1.extY d2.ext hm.tys (fun q hq => ?_), p1, q1, d2.at_, d2.A, d2.A0, d2.H, fun e => z1 (by rw [e]; rfl), hok r1.ok, hlen, ?_, fun k hk => ?_⟩
  · simp at hq
    rcases hq with e | e | e <;> subst e <;> decide
  · exact (e1.mono (fun x hx _ => List.mem_append.2 (.inl hx))).trans (d2.ext.mono (fun x hx _ => List.mem_append.2 (.inr hx)))
  · rcases List.mem_append.1 hk with e | e
    · rcases List.mem_cons.1 e with e | e
      · exact .inl (by rw [e]; simp [pf])
      · rcases List.mem_cons.1 e with e | e
        · exact .inl (by rw [e]; simp [pf])
        · rcases g1 k e with z | z
          · exact .inl (by simp [pf, z])
          · exact .inr z
    · rcases d2.grew k e with z | z
      · exact .inl (List.mem_append.2 (.inr z))
      · exact .inr (by have := e1.size; omega)
theorem pdid0 (h : Real w l t d D F A L) (hp : Path D [L] N) (hm : MdAt w q M) (hA : M.A = gs L) (he : Ext [] w w') : ∃ D' F' A', PDid w l t q d D F M L N [] w' D' F' A' M :=
  ⟨D, F, A, h.ext0 he, hp.mono (fun x hx => hx) (by omega), by omega, hm.ext0 he, hA, rfl, by simp, fun _ => rfl, fun X hX => (by cases hX), by simp, he.nil, Grew.refl _ _⟩
theorem md_after (h : Real w l t d D F A L) (hm : MdAt w q M) (he : Ext (l :: t :: F) w w1) : MdAt w1 q M :=
  hm.extY he h.tys (fun q hq => by
    simp at hq
    rcases hq with e | e | e | e | e <;> subst e <;> decide)
/-! ### the looks -/
theorem sameTerm_ok {R : Bool → World → Prop} (h : Real w l t d D F A L) (hm : MdAt w q M) (hA : M.A = gs Lm) (hR : ∀ x w', (x = true ↔ L.term = Lm.term) → Ext [] w w' → R x w') : rloglaw_SameTerm.Call (some ⟨l, 0, none⟩) (some ⟨q, 0, none⟩) w R := by
  apply rloglaw_SameTerm.sound
  unfold rloglaw_SameTerm.B0
  exact rTerm_ok h (mTerm_ok hm hA (hR _ w (beq_iff_eq) (Ext.refl _ _)))
theorem sameVote_ok {R : Bool → World → Prop} (h : Real w l t d D F A L) (hm : MdAt w q M) (hA : M.A = gs Lm) (hR : ∀ x w', (x = true ↔ L.vote = Lm.vote) → Ext [] w w' → R x w') : rloglaw_SameVote.Call (some ⟨l, 0, none⟩) (some ⟨q, 0, none⟩) w R := by
  apply rloglaw_SameVote.sound
  unfold rloglaw_SameVote.B0
  exact rVote_ok h (mVote_ok hm hA (hR _ w (beq_iff_eq) (Ext.refl _ _)))
theorem sameBase_ok {R : Bool → World → Prop} (h : Real w l t d D F A L) (hm : MdAt w q M) (hA : M.A = gs Lm) (hR : ∀ x w', (x = true ↔ L.base = Lm.base) → Ext [] w w' → R x w') : rloglaw_SameBase.Call (some ⟨l, 0, none⟩) (some ⟨q, 0, none⟩) w R := by
  apply rloglaw_SameBase.sound
  unfold rloglaw_SameBase.B0
  exact rBase_ok h (mBase_ok hm hA (hR _ w (beq_iff_eq) (Ext.refl _ _)))
theorem sameBaseTerm_ok {R : Bool → World → Prop} (h : Real w l t d D F A L) (hm : MdAt w q M) (hA : M.A = gs Lm) (hR : ∀ x w', (x = true ↔ L.bterm = Lm.bterm) → Ext [] w w' → R x w') : rloglaw_SameBaseTerm.Call (some ⟨l, 0, none⟩) (some ⟨q, 0, none⟩) w R := by
  apply rloglaw_SameBaseTerm.sound
  unfold rloglaw_SameBaseTerm.B0
  exact rBaseTerm_ok h (mBaseTerm_ok hm hA (hR _ w (beq_iff_eq) (Ext.refl _ _)))
theorem sameSnap_ok {R : Bool → World → Prop} (h : Real w l t d D F A L) (hm : MdAt w q M) (hA : M.A = gs Lm) (hR : ∀ x w', (x = true ↔ L.snap = Lm.snap) → Ext [] w w' → R x w') : rloglaw_SameSnap.Call (some ⟨l, 0, none⟩) (some ⟨q, 0, none⟩) w R := by
  apply rloglaw_SameSnap.sound
  unfold rloglaw_SameSnap.B0
  exact rSnap_ok h (mSnap_ok hm hA (hR _ w (str_beq _ _) (Ext.refl _ _)))
theorem sameLast_ok {R : Bool → World → Prop} (h : Real w l t d D F A L) (hm : MdAt w q M) (hA : M.A = gs Lm) (hk : LogOk Lm) (hR : ∀ x w', (x = true ↔ L.last = Lm.last) → Ext [] w w' → R x w') : rloglaw_SameLast.Call (some ⟨l, 0, none⟩) (some ⟨q, 0, none⟩) w R := by
  apply rloglaw_SameLast.sound
  unfold rloglaw_SameLast.B0
  exact rLast_ok h (mLast_ok hm hA hk (hR _ w.drew (beq_iff_eq) (Ext.drew [] w)))
theorem sameAt_ok {i : Int} {R : Bool → World → Prop} (hi : -9223372036854775808 ≤ i ∧ i ≤ 9223372036854775807) (h : Real w l t d D F A L) (hm : MdAt w q M) (hA : M.A = gs Lm) (hk : LogOk Lm) (hR : ∀ x w', (x = true ↔ atL L i = atL Lm i) → Ext [] w w' → R x w') : rloglaw_SameAt.Call (some ⟨l, 0, none⟩) (some ⟨q, 0, none⟩) i w R := by
  apply rloglaw_SameAt.sound
  unfold rloglaw_SameAt.B0
  obtain ⟨X, x1, x2⟩ := h.rl
  refine rAt_ok hi x1 x2 h.ok fun w1 he1 => NewSet.mk rfl rfl fun r w3 hr hs3 or3 he3 => ?_
  have E3 : Ext [] w w3 := he1.trans he3
  refine mAt_ok hi (hm.ext0 E3) hA hk fun w4 he4 => NewSet.mk rfl rfl fun p w6 hp hs6 op6 he6 => ?_
  have or6 := he6.own (he4.own or3 (by simp)) (by simp)
  have E6 : Ext [] w w6 := (E3.trans he4).trans he6
  generalize atL L i = a at hR or6
  generalize atL Lm i = b at hR op6
  obtain ⟨⟨a1, a2⟩, a3⟩ := a
  obtain ⟨⟨b1, b2⟩, b3⟩ := b
  simp only at or6 op6 ⊢
  refine Bm.mk (fun h1 => LdI.mk or6 rfl (LdI.mk op6 rfl (Bm.mk (fun h2 => LdS.mk or6 rfl (LdS.mk op6 rfl (hR _ _ ?_ E6))) (fun h2 => hR _ _ ?_ E6)))) (fun h1 => hR _ _ ?_ E6)
  · have e1 : a3 = b3 := by simpa using h1
    have e2 : a1 = b1 := by simpa using h2
    subst e1 e2
    rw [str_beq]
    constructor
    · intro e; rw [e]
    · intro e
      simp only [Prod.mk.injEq, and_true, true_and] at e
      exact e
  · have e3 : a1 ≠ b1 := by simpa using h2
    refine ⟨fun e => (by cases e), fun e => ?_⟩
    simp only [Prod.mk.injEq] at e
    exact absurd e.1.1 e3
  · have e3 : a3 ≠ b3 := by simpa using h1
    refine ⟨fun e => (by cases e), fun e => ?_⟩
    simp only [Prod.mk.injEq] at e
    exact absurd e.2 e3
theorem sameTermAt_ok {i : Int} {R : Bool → World → Prop} (hi : -9223372036854775808 ≤ i ∧ i ≤ 9223372036854775807) (h : Real w l t d D F A L) (hm : MdAt w q M) (hA : M.A = gs Lm) (hk : LogOk Lm) (hR : ∀ x w', (x = true ↔ termL L i = termL Lm i) → Ext [] w w' → R x w') : rloglaw_SameTermAt.Call (some ⟨l, 0, none⟩) (some ⟨q, 0, none⟩) i w R := by
  apply rloglaw_SameTermAt.sound
  unfold rloglaw_SameTermAt.B0
  obtain ⟨X, x1, x2⟩ := h.rl
  refine rTermAt_ok hi x1 x2 h.ok fun w1 he1 => mTermAt_ok hi (hm.ext0 he1) hA hk fun w2 he2 => ?_
  have E2 := he1.trans he2
  generalize termL L i = a at hR
  generalize termL Lm i = b at hR
  obtain ⟨a1, a2⟩ := a
  obtain ⟨b1, b2⟩ := b
  refine Bm.mk (fun h1 => hR _ _ ?_ E2) (fun h1 => hR _ _ ?_ E2)
  · have e1 : a2 = b2 := by simpa using h1
    rw [beq_iff_eq, e1]
    constructor
    · intro e; exact Prod.ext e rfl
    · intro e; exact (Prod.mk.inj e).1
  · have e3 : a2 ≠ b2 := by simpa using h1
    exact ⟨fun e => (by cases e), fun e => absurd (Prod.mk.inj e).2 e3⟩
theorem alike_ok {R : Bool → World → Prop} (h : Real w l t d D F A L) (hm : MdAt w q M) (hA : M.A = gs Lm) (hk : LogOk Lm) (hR : ∀ x w', (x = true ↔ L = Lm) → Ext [] w w' → R x w') : rloglaw_Alike.Call (some ⟨l, 0, none⟩) (some ⟨q, 0, none⟩) w R := by
  apply rloglaw_Alike.sound
  unfold rloglaw_Alike.B0
  have hb := hk.base
  have hla := hk.last
  refine sameTerm_ok h hm hA fun x1 w1 hx1 e1 => ?_
  cases x1 with
  | false => exact Bm.pos rfl (hR false w1 (no_iff hx1 fun e => by rw [e]) e1)
  | true =>
  refine Bm.neg rfl (sameVote_ok (h.ext0 e1) (hm.ext0 e1) hA fun x2 w2 hx2 e2' => ?_)
  have e2 := e1.trans e2'
  cases x2 with
  | false => exact Bm.pos rfl (hR false w2 (no_iff hx2 fun e => by rw [e]) e2)
  | true =>
  refine Bm.neg rfl (sameBase_ok (h.ext0 e2) (hm.ext0 e2) hA fun x3 w3 hx3 e3' => ?_)
  have e3 := e2.trans e3'
  cases x3 with
  | false => exact Bm.pos rfl (hR false w3 (no_iff hx3 fun e => by rw [e]) e3)
  | true =>
  refine Bm.neg rfl (sameBaseTerm_ok (h.ext0 e3) (hm.ext0 e3) hA fun x4 w4 hx4 e4' => ?_)
  have e4 := e3.trans e4'
  cases x4 with
  | false => exact Bm.pos rfl (hR false w4 (no_iff hx4 fun e => by rw [e]) e4)
  | true =>
  refine Bm.neg rfl (sameSnap_ok (h.ext0 e4) (hm.ext0 e4) hA fun x5 w5 hx5 e5' => ?_)
  have e5 := e4.trans e5'
  cases x5 with
  | false => exact Bm.pos rfl (hR false w5 (no_iff hx5 fun e => by rw [e]) e5)
  | true =>
  refine Bm.neg rfl (sameLast_ok (h.ext0 e5) (hm.ext0 e5) hA hk fun x6 w6 hx6 e6' => ?_)
  have e6 := e5.trans e6'
  cases x6 with
  | false => exact Bm.pos rfl (hR false w6 (no_iff hx6 fun e => by rw [e]) e6)
  | true =>
  refine Bm.neg rfl (mBase_ok (hm.ext0 e6) hA (mLast_ok (hm.ext0 e6) hA hk ?_))
  have e7 := e6.trans (Ext.drew [] w6)
  have elast : Lm.last = Lm.base + (Lm.ents.length : Int) := rfl
  rw [w64 (by omega) (by omega)]
  unfold rloglaw_Alike.L1
  refine ⟨fun m a b la i w' => some ⟨l, 0, none⟩ = a ∧ some ⟨q, 0, none⟩ = b ∧ Lm.last = la ∧ Lm.base - 1 ≤ i ∧ i ≤ Lm.last + 2 ∧ m = (Lm.last + 2 - i).toNat ∧ Ext [] w w' ∧ ∀ k : Int, Lm.base - 1 ≤ k → k < i → atL L k = atL Lm k, _, ⟨rfl, rfl, rfl, by omega, by omega, rfl, e7, fun k h1 h2 => by omega⟩, ?_⟩
  rintro m a b la i w8 ⟨rfl, rfl, rfl, i0, i1, rfl, hE, hall⟩
  unfold rloglaw_Alike.L1b
  rw [w64 (by omega) (by omega)]
  refine Bm.ite (fun hc => ?_) fun hc => ?_
  · refine sameAt_ok (by omega) (h.ext0 hE) (hm.ext0 hE) hA hk fun x9 w9 hx9 e9' => ?_
    have e9 := hE.trans e9'
    cases x9 with
    | false => exact Bm.pos rfl (hR false w9 (no_iff hx9 fun e => by rw [e]) e9)
    | true =>
    refine Bm.neg rfl (sameTermAt_ok (by omega) (h.ext0 e9) (hm.ext0 e9) hA hk fun x10 w10 hx10 e10' => ?_)
    have e10 := e9.trans e10'
    cases x10 with
    | false => exact Bm.pos rfl (hR false w10 (no_iff hx10 fun e => by rw [e]) e10)
    | true =>
    refine Bm.neg rfl ?_
    rw [w64 (by omega) (by omega)]
    refine ⟨(Lm.last + 2 - (i + 1)).toNat, by omega, rfl, rfl, rfl, by omega, by omega, rfl, e10, fun k h1 h2 => ?_⟩
    by_cases e : k = i
    · rw [e]; exact hx9.1 rfl
    · exact hall k h1 (by omega)
  · refine hR true w8 ⟨fun _ => ?_, fun _ => rfl⟩ hE
    exact LogS.ext' (hx1.1 rfl) (hx2.1 rfl) (hx3.1 rfl) (hx4.1 rfl) (hx5.1 rfl) (ents_eq (hx3.1 rfl) (hx6.1 rfl) fun k h1 h2 => hall k h1 (by omega))
theorem lSteps_ok {b1 : Option Addr} {R : Int → World → Prop} (hD : DiskAt w d D F) (hR : ∀ w', Ext [] w w' → R (D.log.length : Int) w') : rloglaw_Steps.Call (some ⟨d, 0, none⟩) b1 w R := by
  apply rloglaw_Steps.sound
  unfold rloglaw_Steps.B0
  exact New.mk fun b w1 hb hs1 ob1 he1 => LdP.mk ob1 rfl (diskSteps_ok (hD.ext he1 (by simp)) (hR w1 he1))
theorem lMark_ok {b1 : Option Addr} {R : World → Prop} (hD : DiskAt w d D F) (hR : ∀ w' F', DiskAt w' d D.marked F' → Ext F w w' → Grew w F F' → R w') : rloglaw_Mark.Call (some ⟨d, 0, none⟩) b1 w R := by
  apply rloglaw_Mark.sound
  unfold rloglaw_Mark.B0
  exact New.mk fun b w1 hb hs1 ob1 he1 => LdP.mk ob1 rfl (diskMark_ok (hD.ext he1 (by simp)) fun w2 F2 hD2 he2 hg2 => hR w2 F2 hD2 (he1.nil.trans he2) (fun k hk => (hg2 k hk).imp id (fun z => by have := he1.size; omega)))
theorem seenL_ok {R : Bool → World → Prop} (h : Real w l t d D F A L) (hm : MdAt w q M) (hA : M.A = gs L) (hR : ∀ w', Ext [] w w' → R true w') : rloglaw_Seen.Call (some ⟨l, 0, none⟩) (some ⟨q, 0, none⟩) (some ⟨d, 0, none⟩) (some ⟨t, 0, none⟩) (D.log.length : Int) w R := by
  apply rloglaw_Seen.sound
  unfold rloglaw_Seen.B0
  refine New.mk fun b w1 hb hs1 ob1 he1 => checkL_ok (h.ext0 he1) fun w2 he2 => ?_
  have E2 := he1.trans he2
  refine Bm.neg (by rw [show (estr.toList == (ByteArray.mk #[]).toList) = true from (str_beq _ _).2 rfl]; rfl) (alike_ok (h.ext0 E2) (hm.ext0 E2) hA h.ok fun x w3 hx he3 => ?_)
  have : x = true := hx.2 rfl
  subst this
  have E3 := E2.trans he3
  have ob3 := he3.own (he2.own ob1 (by simp)) (by simp)
  refine Bm.neg rfl (LdP.mk ob3 rfl (LdP.mk ob3 rfl (lSteps_ok (h.st.dk.ext E3 (by simp)) fun w4 he4 => ?_)))
  rw [beq_self_eq_true]
  exact hR w4 (E3.trans he4)
/-! ### the plays -/
theorem sameSetTerm_ok {tm vt : Int} {R : Bool → World → Prop} (h : Real w l t d D F A L) (hp : Path D [L] N) (hN : N ≤ 4611686018427387904) (hl : D.log.length ≤ 50) (hm : MdAt w q M) (hA : M.A = gs L) (hH : M.H.length ≤ 10) (hR : ∀ M' w', (∃ D' F' A', PDid w l t q d D F M L N (setTermS tm vt L).2 w' D' F' A' M') → R true w') : rloglaw_SameSetTerm.Call (some ⟨l, 0, none⟩) (some ⟨q, 0, none⟩) tm vt w R := by
  apply rloglaw_SameSetTerm.sound
  unfold rloglaw_SameSetTerm.B0
  refine realSetTerm_ok h hp hN (by omega) fun w1 d1 => mSetTerm_ok (md_after h hm d1.ext) hA (by omega) fun M2 w2 d2 => ?_
  rw [beq_self_eq_true]
  exact hR M2 w2 (pdid (md_after h hm d1.ext) d1 d2 (fun hf => okS_le1 (len_setTerm _ _ _) hf) (by have := len_setTerm tm vt L; omega))
theorem sameTruncate_ok {i : Int} {R : Bool → World → Prop} (h : Real w l t d D F A L) (hp : Path D [L] N) (hN : N ≤ 4611686018427387904) (hl : D.log.length ≤ 50) (hm : MdAt w q M) (hA : M.A = gs L) (hH : M.H.length ≤ 10) (hR : ∀ M' w', (∃ D' F' A', PDid w l t q d D F M L N (truncS i L).2 w' D' F' A' M') → R true w') : rloglaw_SameTruncate.Call (some ⟨l, 0, none⟩) (some ⟨q, 0, none⟩) i w R := by
  apply rloglaw_SameTruncate.sound
  unfold rloglaw_SameTruncate.B0
  refine realTrunc_ok h hp (by omega) fun w1 d1 => mTrunc_ok (md_after h hm d1.ext) hA h.ok (by omega) fun M2 w2 d2 => ?_
  rw [beq_self_eq_true]
  exact hR M2 w2 (pdid (md_after h hm d1.ext) d1 d2 (fun _ => okS_trunc h.ok) (len_trunc h.ok))
theorem sameCompact_ok {u : Int} {sn : ByteArray} {R : Bool → World → Prop} (h : Real w l t d D F A L) (hp : Path D [L] N) (hN : N ≤ 4611686018427387904) (hl : D.log.length ≤ 50) (hm : MdAt w q M) (hA : M.A = gs L) (hH : M.H.length ≤ 10) (hR : ∀ M' w', (∃ D' F' A', PDid w l t q d D F M L N (compactS u sn L).2 w' D' F' A' M') → R true w') : rloglaw_SameCompact.Call (some ⟨l, 0, none⟩) (some ⟨q, 0, none⟩) u sn w R := by
  apply rloglaw_SameCompact.sound
  unfold rloglaw_SameCompact.B0
  refine realCompact_ok h hp hN (by omega) fun w1 d1 => mCompact_ok (md_after h hm d1.ext) hA h.ok (by omega) fun M2 w2 d2 => ?_
  rw [beq_self_eq_true]
  exact hR M2 w2 (pdid (md_after h hm d1.ext) d1 d2 (fun hf => okS_le1 (len_compact _ _ _) hf) (by have := len_compact u sn L; omega))
theorem sameInstall_ok {idx tm : Int} {sn : ByteArray} {R : Bool → World → Prop} (h : Real w l t d D F A L) (hp : Path D [L] N) (hN : N ≤ 4611686018427387904) (hl : D.log.length ≤ 50) (hm : MdAt w q M) (hA : M.A = gs L) (hH : M.H.length ≤ 10) (hR : ∀ M' w', (∃ D' F' A', PDid w l t q d D F M L N (installS idx tm sn L).2 w' D' F' A' M') → R true w') : rloglaw_SameInstall.Call (some ⟨l, 0, none⟩) (some ⟨q, 0, none⟩) idx tm sn w R := by
  apply rloglaw_SameInstall.sound
  unfold rloglaw_SameInstall.B0
  refine realInstall_ok h hp hN (by omega) fun w1 d1 => mInstall_ok (md_after h hm d1.ext) hA h.ok (by omega) fun M2 w2 d2 => ?_
  rw [beq_self_eq_true]
  exact hR M2 w2 (pdid (md_after h hm d1.ext) d1 d2 (fun hf => okS_install h.ok hf) (len_install h.ok))
theorem PDid.pre {D' : DiskS} {F' : List Nat} {A' : AbsS} (h : PDid w1 l t q d D F M L N S w' D' F' A' M') (he : Ext [] w w1) : PDid w l t q d D F M L N S w' D' F' A' M' :=
  ⟨h.real, h.path, h.log, h.md, h.mA, h.mA0, h.mH, h.idle, h.ok, h.len, he.nil.trans h.ext, fun k hk => (h.grew k hk).imp id (fun z => by have := he.size; omega)⟩
theorem sameAppend_ok {tm : Int} {dd : ByteArray} {R : Bool → World → Prop} (h : Real w l t d D F A L) (hp : Path D [L] N) (hN : N ≤ 4611686018427387904) (hl : D.log.length ≤ 50) (hm : MdAt w q M) (hA : M.A = gs L) (hH : M.H.length ≤ 10) (hR : ∀ M' w', (∃ D' F' A', PDid w l t q d D F M L N (appendS tm dd L).2 w' D' F' A' M') → R true w') : rloglaw_SameAppend.Call (some ⟨l, 0, none⟩) (some ⟨q, 0, none⟩) tm dd w R := by
  apply rloglaw_SameAppend.sound
  unfold rloglaw_SameAppend.B0
  refine New.mk fun eb w0 he0 hs0 o0 e0 => LdI.mk o0 rfl (LdS.mk o0 rfl ?_)
  have h0 := h.ext0 e0
  have hm0 := hm.ext0 e0
  refine realAppend_ok h0 hp (by omega) fun w1 d1 => ?_
  have o1 := ownT d1.ext h0.tys o0 (by decide)
  refine LdI.mk o1 rfl (LdS.mk o1 rfl (mAppend_ok (md_after h0 hm0 d1.ext) hA h.ok (by omega) fun M2 w2 d2 => ?_))
  rw [beq_self_eq_true]
  obtain ⟨D', F', A', pd⟩ := pdid (md_after h0 hm0 d1.ext) d1 d2 (fun hf => okS_le1 (len_append _ _ _) hf) (by have := len_append tm dd L; omega)
  exact hR M2 w2 ⟨D', F', A', pd.pre e0⟩
theorem playL_ok {o0 o1 o2 o3 : Int} {s s5 : ByteArray} {R : Bool → World → Prop} (h : Real w l t d D F A L) (hp : Path D [L] N) (hN : N ≤ 4611686018427387904) (hl : D.log.length ≤ 50) (hm : MdAt w q M) (hA : M.A = gs L) (hH : M.H.length ≤ 10) (hi : -9223372036854775808 ≤ o1 ∧ o1 ≤ 9223372036854775807) (hR : ∀ S M' w', (∃ D' F' A', PDid w l t q d D F M L N S w' D' F' A' M') → R true w') : rloglaw_Play.Call (some ⟨l, 0, none⟩) (some ⟨q, 0, none⟩) o0 o1 o2 o3 s s5 w R := by
  apply rloglaw_Play.sound
  unfold rloglaw_Play.B0
  refine New.mk fun o w1 ho hs1 oo he1 => LdI.mk oo rfl ?_
  have h1 := h.ext0 he1
  have m1 := hm.ext0 he1
  have go : ∀ {S M' w'}, (∃ D' F' A', PDid w1 l t q d D F M L N S w' D' F' A' M') → R true w' := fun {S M' w'} hx => by
    obtain ⟨D', F', A', pd⟩ := hx
    exact hR S M' w' ⟨D', F', A', pd.pre he1⟩
  have go0 : ∀ {w'}, Ext [] w1 w' → R true w' := fun {w'} he => go (pdid0 h1 hp m1 hA he)
  refine Bm.mk (fun _ => LdI.mk oo rfl (LdI.mk oo rfl (sameSetTerm_ok h1 hp hN hl m1 hA hH fun M' w' hx => go hx))) fun _ => ?_
  refine Bm.mk (fun _ => LdI.mk oo rfl (LdS.mk oo rfl (sameAppend_ok h1 hp hN hl m1 hA hH fun M' w' hx => go hx))) fun _ => ?_
  refine Bm.mk (fun _ => LdI.mk oo rfl (sameTruncate_ok h1 hp hN hl m1 hA hH fun M' w' hx => go hx)) fun _ => ?_
  refine Bm.mk (fun _ => LdI.mk oo rfl (LdS.mk oo rfl (sameCompact_ok h1 hp hN hl m1 hA hH fun M' w' hx => go hx))) fun _ => ?_
  refine Bm.mk (fun _ => LdI.mk oo rfl (LdI.mk oo rfl (LdS.mk oo rfl (sameInstall_ok h1 hp hN hl m1 hA hH fun M' w' hx => go hx)))) fun _ => ?_
  have tru : ∀ {x : Bool} {P : Prop} {w'}, (x = true ↔ P) → P → Ext [] w1 w' → R x w' := fun {x P w'} hx p he => by
    have : x = true := hx.2 p
    subst this
    exact go0 he
  refine Bm.mk (fun _ => LdI.mk oo rfl (sameAt_ok hi h1 m1 hA h.ok fun x w' hx he => tru hx rfl he)) fun _ => ?_
  refine Bm.mk (fun _ => LdI.mk oo rfl (sameTermAt_ok hi h1 m1 hA h.ok fun x w' hx he => tru hx rfl he)) fun _ => ?_
  refine Bm.mk (fun _ => sameTerm_ok h1 m1 hA fun x w' hx he => tru hx rfl he) fun _ => ?_
  refine Bm.mk (fun _ => sameVote_ok h1 m1 hA fun x w' hx he => tru hx rfl he) fun _ => ?_
  refine Bm.mk (fun _ => sameBase_ok h1 m1 hA fun x w' hx he => tru hx rfl he) fun _ => ?_
  refine Bm.mk (fun _ => sameBaseTerm_ok h1 m1 hA fun x w' hx he => tru hx rfl he) fun _ => ?_
  refine Bm.mk (fun _ => sameSnap_ok h1 m1 hA fun x w' hx he => tru hx rfl he) fun _ => ?_
  refine Bm.mk (fun _ => sameLast_ok h1 m1 hA h.ok fun x w' hx he => tru hx rfl he) fun _ => ?_
  refine Bm.mk (fun _ => checkL_ok h1 fun w' he => ?_) fun _ => go0 (Ext.refl _ _)
  rw [show (estr.toList == (ByteArray.mk #[]).toList) = true from (str_beq _ _).2 rfl]
  exact go0 he
/-! ### Match, Idle, After -/
theorem at_get {L0' : LogS} {j : Nat} {X : LogS} (h0 : M.A0 = gs L0') (hH : M.H.map (·.2) = S.map gs) (hX : (L0' :: S)[j]? = some X) : M.at (j : Int) = gs X := by
  have hlen : M.H.length = S.length := by simpa using congrArg List.length hH
  cases j with
  | zero =>
    simp at hX
    subst hX
    unfold MSt.at
    rw [if_pos (by omega), h0]
  | succ j =>
    have hX' : S[j]? = some X := by simpa using hX
    have hj := (List.getElem?_eq_some_iff.1 hX').1
    unfold MSt.at
    rw [if_neg (by omega), show (min ((j + 1 : Nat) : Int) (M.H.length : Int) - 1).toNat = j by omega]
    have e2 : (M.H.map (·.2))[j]? = some (gs X) := by rw [hH, List.getElem?_map, hX']; rfl
    rw [List.getElem?_map] at e2
    cases hg : M.H[j]? with
    | none => rw [hg] at e2; cases e2
    | some e =>
      rw [hg] at e2
      simp at e2
      exact e2
theorem fin_get (L0' : LogS) : ∀ (S : List LogS), (L0' :: S)[S.length]? = some (finL L0' S)
  | [] => rfl
  | [a] => rfl
  | a :: b :: S => by
    have := fin_get a (b :: S)
    show (a :: b :: S)[(b :: S).length]? = _
    rw [this]
    rfl
theorem match_ok {L0' : LogS} {R : Int → World → Prop} (h : Real w l t d D F A L) (hm : MdAt w q M) (h0 : M.A0 = gs L0') (hH : M.H.map (·.2) = S.map gs) (hlen : S.length ≤ 100) (hok : ∀ X ∈ L0' :: S, LogOk X) (hin : L ∈ L0' :: S) (hR : ∀ (j : Nat) w', (L0' :: S)[j]? = some L → (∀ k, k < j → (L0' :: S)[k]? ≠ some L) → Ext [] w w' → R (j : Int) w') : rloglaw_Match.Call (some ⟨l, 0, none⟩) (some ⟨q, 0, none⟩) w R := by
  apply rloglaw_Match.sound
  unfold rloglaw_Match.B0
  have hl : M.H.length = S.length := by simpa using congrArg List.length hH
  refine mdSteps_ok hm ?_
  unfold rloglaw_Match.L1
  refine ⟨fun m a b n j w' => some ⟨l, 0, none⟩ = a ∧ some ⟨q, 0, none⟩ = b ∧ (M.H.length : Int) = n ∧ ∃ k : Nat, j = (k : Int) ∧ k ≤ S.length + 1 ∧ m = S.length + 1 - k ∧ Ext [] w w' ∧ ∀ i, i < k → (L0' :: S)[i]? ≠ some L, _, ⟨rfl, rfl, rfl, 0, rfl, by omega, rfl, Ext.refl _ _, fun i hi => by omega⟩, ?_⟩
  rintro m a b n j w1 ⟨rfl, rfl, rfl, k, rfl, hk, rfl, hE, hno⟩
  unfold rloglaw_Match.L1b
  rw [hl]
  refine Bm.ite (fun hc => ?_) fun hc => ?_
  · obtain ⟨X, hX⟩ : ∃ X, (L0' :: S)[k]? = some X := ⟨_, List.getElem?_eq_getElem (by simp; omega)⟩
    refine mdAfter_ok (hm.ext0 hE) (by omega) fun q' M' w2 hq' hM' hA' hA0' hH' he2 => ?_
    rw [at_get h0 hH hX] at hA'
    have E2 := hE.trans he2
    refine alike_ok (h.ext0 E2) hM' hA' (hok X (List.mem_of_getElem? hX)) fun x w3 hx he3 => ?_
    have E3 := E2.trans he3
    cases x with
    | true =>
      have e := hx.1 rfl
      subst e
      exact Bm.pos rfl (hR k w3 hX hno E3)
    | false =>
      refine Bm.neg rfl ?_
      rw [w64 (by omega) (by omega)]
      refine ⟨S.length + 1 - (k + 1), by omega, rfl, rfl, rfl, k + 1, by omega, by omega, rfl, E3, fun i hi => ?_⟩
      by_cases e : i = k
      · rw [e, hX]
        intro e2
        have := hx.2 (Option.some.inj e2).symm
        cases this
      · exact hno i (by omega)
  · exfalso
    obtain ⟨i, hi⟩ := List.getElem?_of_mem hin
    have := (List.getElem?_eq_some_iff.1 hi).1
    exact hno i (by simp at this; omega) hi
theorem idle_ok {b1 : Option Addr} {R : Bool → World → Prop} (hD : DiskAt w d D F) (hm : MdAt w q M) (hi : M.H = [] → D.log = []) (hR : ∀ w', Ext [] w w' → R true w') : rloglaw_Idle.Call (some ⟨d, 0, none⟩) b1 (some ⟨q, 0, none⟩) w R := by
  apply rloglaw_Idle.sound
  unfold rloglaw_Idle.B0
  refine New.mk fun b w1 hb hs1 ob1 he1 => mdSteps_ok (hm.ext0 he1) (Bm.mk (fun _ => hR w1 he1) fun hz => LdP.mk ob1 rfl (LdP.mk ob1 rfl (lSteps_ok (hD.ext he1 (by simp)) fun w2 he2 => ?_)))
  have : M.H = [] := List.eq_nil_of_length_eq_zero (by simpa using hz)
  rw [hi this]
  exact hR w2 (he1.trans he2)
theorem groundL_ok {R : Option Addr → Option Addr → World → Prop} (hR : ∀ d t F w', (∀ k ∈ F, w.heap.size ≤ k) → w.heap.size ≤ t → St w' t d freshDisk F A0 → Ext [] w w' → R (some ⟨d, 0, none⟩) (some ⟨t, 0, none⟩) w') : rloglaw_Ground.Call w R := by
  apply rloglaw_Ground.sound
  unfold rloglaw_Ground.B0
  refine New.mk fun b w1 hb hs1 ob1 he1 => diskNew_ok fun d F w2 hd hF hD2 he2 => open_ok hD2 fresh_good.wf fun t w3 ht hS3 he3 => ?_
  have hz1 := he1.size
  have hz2 := he2.size
  have hz3 := he3.size
  have hbl := ob1.lt
  have ob3 := he3.own (he2.own ob1 (by simp)) (by simp)
  refine Sts.full ob3 rfl rfl fun w4 hs4 ob4 he4 => LdP.mk ob4 rfl (LdP.mk ob4 rfl (hR d t F w4 (fun k hk => by have := hF k hk; omega) (by omega) ⟨he4.own hS3 (by simp; omega), (hD2.ext he3 (by simp)).ext he4 (fun k hk hx => by simp at hx; have := hF k hk; omega), likeI_mk (d := d) fresh_like⟩ (((he1.trans he2).trans he3).trans' he4 (fun x hx hlt => by simp at hx; omega))))
theorem lAfter_ok {k : Int} {b1 : Option Addr} {R : Option Addr → Option Addr → World → Prop} (hD : DiskAt w d D F) (hm : ImgWf D.mark) (hl : LogWf D) (hL : D.log.length ≤ 1000) (hg : DiskWf (img (cutI D k.toNat))) (hi : LikeI (cutI D k.toNat) A) (hR : ∀ n t F' w', (∀ x ∈ F', w.heap.size ≤ x) → w.heap.size ≤ t → St w' t n (img (cutI D k.toNat)) F' A → Ext [] w w' → R (some ⟨n, 0, none⟩) (some ⟨t, 0, none⟩) w') : rloglaw_After.Call (some ⟨d, 0, none⟩) b1 k w R := by
  apply rloglaw_After.sound
  unfold rloglaw_After.B0
  refine New.mk fun b w1 hb hs1 ob1 he1 => New.mk fun b4 w2 hb4 hs2 ob42 he2 => LdP.mk (he2.own ob1 (by simp)) rfl ?_
  have E2 : Ext [] w w2 := he1.trans he2
  refine diskAfter_ok (hD.ext E2 (by simp)) hm hl hL fun n F' w3 hF' hD3 he3 => diskMark_ok hD3 fun w4 F4 hD4 he4 hg4 => ?_
  have hz2 := E2.size
  have hz3 := he3.size
  have hz4 := he4.size
  have hb4F : b4 ∉ F' := fun hx => by have := hF' b4 hx; omega
  have ob44 := he4.own (he3.own ob42 (by simp)) hb4F
  have E4 : Ext [] w w4 := (E2.trans he3).trans' he4 (fun x hx hlt => by have := hF' x hx; omega)
  have hF4 : ∀ x ∈ F4, w2.heap.size ≤ x := fun x hx => by
    rcases hg4 x hx with q1 | q1
    · exact hF' x q1
    · omega
  refine open_ok (D := img (cutI D k.toNat)) hD4 hg fun t w5 ht hS5 he5 => Sts.full (he5.own ob44 (by simp)) rfl rfl fun w6 hs6 ob6 he6 => LdP.mk ob6 rfl (LdP.mk ob6 rfl ?_)
  have hz5 := he5.size
  exact hR n t F4 w6 (fun x hx => by have := hF4 x hx; omega) (by omega) ⟨he6.own hS5 (by simp; omega), (DiskAt.ext (D := img (cutI D k.toNat)) hD4 he5 (by simp)).ext he6 (fun x hx hx2 => by simp at hx2; have := hF4 x hx; omega), hi⟩ ((E4.trans he5).trans' he6 (fun x hx hlt => by simp at hx; omega))
end
end Go.Proofs.Qxb6500431a
