/-
  rlog: the law's looks and plays.
-/
import Derived.Test.Qxb6500430aGreatRlG
set_option linter.unusedVariables false
set_option linter.unusedSimpArgs false
open Go.Vc
namespace Go.Proofs.Qxb6500430aGreat

/-! ### the fresh disk -/
theorem fresh_blk {i : Nat} (h : i < 14) : blk freshDisk i = zblock := by
  unfold blk freshDisk
  simp only [List.getD]
  rw [List.getElem?_replicate, if_pos h]
  rfl
theorem z_whole : whole zblock = false := by
  unfold whole
  have e : byteAt zblock 0 = 0 := by
    have := byteAt_nat zblock 0
    have h2 : ubyte zblock 0 = 0 := zbytes_get 64 0
    rw [h2] at this
    exact this
  rw [e]
  simp
theorem fresh_pick : pickM freshDisk = false ∧ pickH freshDisk = false := by
  constructor
  · unfold pickM
    rw [fresh_blk (by omega), decMeta_torn z_whole]
    rfl
  · unfold pickH
    rw [fresh_blk (by omega), decHead_torn z_whole]
    rfl
theorem decMeta_z : decMeta zblock = ⟨false, 0, 0, 0⟩ := by
  unfold decMeta
  rw [if_neg (by simp [z_whole])]
theorem decHead_z : decHead zblock = ⟨false, 0, 0, 0, 0, 0⟩ := by
  unfold decHead headOk
  rw [z_whole]
  rfl
theorem fresh_cur : curM freshDisk = ⟨false, 0, 0, -1⟩ ∧ curH freshDisk = ⟨false, 0, 0, 0, 1, 0⟩ := by
  have e1 : rawM freshDisk = ⟨false, 0, 0, 0⟩ := by
    unfold rawM
    rw [if_neg (by simp [fresh_pick.1]), fresh_blk (by omega), decMeta_z]
  have e2 : rawH freshDisk = ⟨false, 0, 0, 0, 0, 0⟩ := by
    unfold rawH
    rw [if_neg (by simp [fresh_pick.2]), fresh_blk (by omega), decHead_z]
  constructor
  · unfold curM
    rw [e1]
    rfl
  · unfold curH
    rw [e2]
    rfl
theorem fresh_good : Good freshDisk 0 := by
  have hb : ∀ i, i < 14 → blk freshDisk i = zblock := fun i hi => fresh_blk hi
  refine ⟨by simp [freshDisk], fun i hi => by rw [hb i hi]; exact zbytes_size 64, by rw [fresh_cur.1]; simp, fun hok => ?_, by rw [fresh_cur.2]; simp, fun hok => ?_⟩
  · have hs : slotM freshDisk = 1 := by unfold slotM; rw [if_neg (by simp [fresh_pick.1])]
    rw [hs, hb _ (by decide), decMeta_z] at hok
    cases hok
  · have hs : slotH freshDisk = 1 := by unfold slotH; rw [if_neg (by simp [fresh_pick.2])]
    rw [hs, hb _ (by decide), decHead_z] at hok
    cases hok
theorem fresh_like {d : Nat} : Like (openR d freshDisk) ⟨0, -1, 0, 0, estr, fun _ => false, fun _ => ⟨0, 0, estr⟩⟩ := by
  have em : (openR d freshDisk).m = curM freshDisk := rfl
  have eh : (openR d freshDisk).h = curH freshDisk := rfl
  have es : (openR d freshDisk).snap = areaV freshDisk (curH freshDisk).area (curH freshDisk).size := rfl
  refine ⟨by rw [em, fresh_cur.1], by rw [em, fresh_cur.1], by rw [eh, fresh_cur.2], by rw [eh, fresh_cur.2], ?_, fun s hs => ?_, fun s hs hu => by cases hu⟩
  · rw [es, fresh_cur.2]
    rfl
  · rw [openR_used hs, fresh_blk (by omega)]
    exact recOk_torn z_whole

/-! ### plain -/
theorem LogS.ext' {a b : LogS} (h1 : a.term = b.term) (h2 : a.vote = b.vote) (h3 : a.base = b.base) (h4 : a.bterm = b.bterm) (h5 : a.snap = b.snap) (h6 : a.ents = b.ents) : a = b := by
  cases a
  cases b
  simp only at h1 h2 h3 h4 h5 h6
  subst h1 h2 h3 h4 h5 h6
  rfl
theorem holds_uniq {I : List ByteArray} {A A' : AbsS} {L L' : LogS} (hi : LikeI I A) (hi' : LikeI I A') (h : Holds A L) (h' : Holds A' L') (hk : LogOk L) (hk' : LogOk L') : L = L' := by
  unfold LikeI at hi hi'
  have hu : ∀ s, s < 6 → A.used s = A'.used s := fun s hs => by rw [← hi.used s hs, hi'.used s hs]
  have hr : ∀ s, s < 6 → A.used s = true → A.recs s = A'.recs s := fun s hs u => by rw [← hi.recs s hs u, hi'.recs s hs (by rw [← hu s hs]; exact u)]
  have eb : L.base = L'.base := by rw [← h.base, ← h'.base, ← hi.sidx, hi'.sidx]
  have key : ∀ {A A' : AbsS} {L L' : LogS}, (∀ s, s < 6 → A.used s = A'.used s) → (∀ s, s < 6 → A.used s = true → A.recs s = A'.recs s) → L.base = L'.base → Holds A L → Holds A' L' → LogOk L → LogOk L' → L'.ents.length ≤ L.ents.length := fun {A A' L L'} hu hr eb h h' hk hk' => by
    rcases Nat.lt_or_ge L.ents.length L'.ents.length with q | q
    · have hl := h'.live L.ents.length _ (getD_some' q)
      have := hk'.len
      rw [← eb] at hl
      have u : A.used (sl (L.base + 1 + (L.ents.length : Int))) = true := by rw [hu _ (sl_lt _)]; exact hl.1
      have hne := h.next (by omega) u
      rw [hr _ (sl_lt _) u, hl.2] at hne
      exact absurd rfl hne
    · exact q
  have l1 := key hu hr eb h h' hk hk'
  have l2 := key (fun s hs => (hu s hs).symm) (fun s hs u => (hr s hs (by rw [hu s hs]; exact u)).symm) eb.symm h' h hk' hk
  refine LogS.ext' (by rw [← h.term, ← h'.term, ← hi.term, hi'.term]) (by rw [← h.vote, ← h'.vote, ← hi.vote, hi'.vote]) eb (by rw [← h.bterm, ← h'.bterm, ← hi.sterm, hi'.sterm]) (by rw [← h.snap, ← h'.snap, ← hi.snap, hi'.snap]) ?_
  refine List.ext_getElem? fun n => ?_
  rcases Nat.lt_or_ge n L.ents.length with q | q
  · have a := h.live n _ (getD_some' q)
    have b := h'.live n _ (getD_some' (show n < L'.ents.length by omega))
    rw [← eb, ← hr _ (sl_lt _) a.1, a.2] at b
    rw [getD_some' q, getD_some' (show n < L'.ents.length by omega)]
    have e := b.2
    simp only [RecS.mk.injEq, true_and] at e
    rw [Prod.ext e.1 e.2]
  · rw [List.getElem?_eq_none q, List.getElem?_eq_none (by omega)]
theorem ents_eq {L L' : LogS} (eb : L.base = L'.base) (el : L.last = L'.last) (h : ∀ i, L'.base - 1 ≤ i → i ≤ L'.last + 1 → atL L i = atL L' i) : L.ents = L'.ents := by
  have hlen : L.ents.length = L'.ents.length := by unfold LogS.last at el; omega
  refine List.ext_getElem? fun n => ?_
  rcases Nat.lt_or_ge n L.ents.length with q | q
  · have := h (L'.base + 1 + (n : Int)) (by omega) (by unfold LogS.last; omega)
    unfold atL at this
    have c1 : ¬ (L'.base + 1 + (n : Int) ≤ L'.base) := by omega
    have c2 : ¬ (L'.last < L'.base + 1 + (n : Int)) := by unfold LogS.last; omega
    rw [eb, el, if_neg c1, if_neg c1, if_neg c2, if_neg c2, show (L'.base + 1 + (n : Int) - L'.base - 1).toNat = n by omega] at this
    rw [getD_some' q, getD_some' (show n < L'.ents.length by omega)]
    simp only [Prod.mk.injEq, and_true] at this
    rw [this]
  · rw [List.getElem?_eq_none q, List.getElem?_eq_none (by omega)]
theorem no_iff {P Q : Prop} (hx : (false = true) ↔ P) (hq : Q → P) : (false = true) ↔ Q := ⟨fun e => (by cases e), fun e => by have := hx.2 (hq e); cases this⟩
theorem pops_ok {L : LogS} (hk : LogOk L) : ∀ (k : Nat), LogOk (popK k L)
  | 0 => hk
  | k + 1 => by rw [popK_succ]; exact popL_ok (pops_ok hk k)
theorem popsN_ok : ∀ {L : LogS} (hk : LogOk L) (k : Nat), ∀ X ∈ popsN k L, LogOk X
  | L, hk, 0 => fun X hX => by cases hX
  | L, hk, k + 1 => fun X hX => by
    rcases List.mem_cons.1 hX with e | e
    · rw [e]; exact popL_ok hk
    · exact popsN_ok (popL_ok hk) k X e
/-- All the states on the way are in order, if the last is. -/
theorem okS_le1 {L : LogS} {S : List LogS} (hS : S.length ≤ 1) (hf : LogOk (finL L S)) : ∀ X ∈ S, LogOk X := fun X hX => by
  match S, hS with
  | [], _ => cases hX
  | [a], _ => simp at hX; subst hX; exact hf
theorem okS_trunc {i : Int} {L : LogS} (hk : LogOk L) : ∀ X ∈ (truncS i L).2, LogOk X := by
  unfold truncS
  by_cases c : i ≤ L.base
  · rw [if_pos c]; intro X hX; cases hX
  · rw [if_neg c]; exact popsN_ok hk _
theorem okS_install {idx tm : Int} {sn : ByteArray} {L : LogS} (hk : LogOk L) (hf : LogOk (finL L (installS idx tm sn L).2)) : ∀ X ∈ (installS idx tm sn L).2, LogOk X := by
  unfold installS at hf ⊢
  split
  · intro X hX; cases hX
  · rename_i c1
    rw [if_neg c1] at hf
    split
    · intro X hX; cases hX
    · rename_i c2
      rw [if_neg c2] at hf
      split
      · intro X hX; cases hX
      · rename_i c3
        rw [if_neg c3] at hf
        split
        · rename_i c4
          rw [if_pos c4] at hf
          exact okS_le1 (by simp) hf
        · rename_i c4
          rw [if_neg c4] at hf
          intro X hX
          rcases List.mem_append.1 hX with e | e
          · exact popsN_ok hk _ X e
          · simp at e
            subst e
            have : finL L (popsN L.ents.length L ++ [insL idx tm sn (popK L.ents.length L)]) = insL idx tm sn (popK L.ents.length L) := by unfold finL; simp
            rw [this] at hf
            exact hf
theorem len_setTerm (tm vt : Int) (L : LogS) : (setTermS tm vt L).2.length ≤ 1 := by unfold setTermS; split <;> simp
theorem len_append (tm : Int) (dd : ByteArray) (L : LogS) : (appendS tm dd L).2.length ≤ 1 := by
  unfold appendS
  split
  · simp
  · split <;> simp
theorem len_compact (u : Int) (sn : ByteArray) (L : LogS) : (compactS u sn L).2.length ≤ 1 := by
  unfold compactS
  split
  · simp
  · split
    · simp
    · split <;> simp
theorem len_trunc {i : Int} {L : LogS} (hk : LogOk L) : (truncS i L).2.length ≤ 7 := by
  unfold truncS
  split
  · simp
  · rename_i c
    have := hk.len
    simp only [popsN_len]
    unfold LogS.last
    omega
theorem len_install {idx tm : Int} {sn : ByteArray} {L : LogS} (hk : LogOk L) : (installS idx tm sn L).2.length ≤ 7 := by
  have := hk.len
  unfold installS
  split
  · simp
  · split
    · simp
    · split
      · simp
      · split
        · simp
        · simp [popsN_len]; omega
/-! ### the two sides -/
section
variable {w w' w1 w2 : World} {l t q d : Nat} {D D' : DiskS} {F F' : List Nat} {A A' : AbsS} {L Lm : LogS} {S : List LogS} {N : Int} {M M' : MSt}
theorem Real.tys (h : Real w l t d D F A L) : Tys w (l :: t :: F) [T_rlog_Log, T_store_Store, T_diskm_Disk, T_string, T_diskm_half] := fun k hk hz => by
  rcases List.mem_cons.1 hk with rfl | hk
  · obtain ⟨X, x1, _⟩ := h.rl
    exact ⟨_, _, x1, by simp⟩
  · obtain ⟨cs, T, ho, hT⟩ := h.st.tys k hk hz
    exact ⟨cs, T, ho, List.mem_cons_of_mem _ hT⟩
theorem MdAt.tys (h : MdAt w q M) : Tys w (M.foot q) [T_rlogm_Log, T_rlogm_state, PTS] := fun k hk hz => by
  simp only [MSt.foot, List.mem_cons] at hk
  rcases hk with rfl | rfl | e
  · exact ⟨_, _, h.own, by simp⟩
  · exact ⟨_, _, h.cur, by simp⟩
  · obtain ⟨cs, ho⟩ := h.rowT e
    exact ⟨_, _, ho, by simp⟩
theorem Real.extY {X : List Nat} {ts : List TypeId} (h : Real w l t d D F A L) (he : Ext X w w') (hX : Tys w X ts) (ht : ∀ q ∈ ts, q ≠ T_rlog_Log ∧ q ≠ T_store_Store ∧ q ≠ T_diskm_Disk ∧ q ≠ T_string ∧ q ≠ T_diskm_half) : Real w' l t d D F A L := by
  obtain ⟨Y, y1, y2⟩ := h.rl
  exact ⟨h.st.extT he hX (fun q hq => (ht q hq).2), ⟨Y, ownT he hX y1 (fun hx => (ht _ hx).1 rfl), y2⟩, h.ok, h.holds, h.clean⟩
theorem MdAt.extY {X : List Nat} {ts : List TypeId} (h : MdAt w q M) (he : Ext X w w') (hX : Tys w X ts) (ht : ∀ q ∈ ts, q ≠ T_rlogm_Log ∧ q ≠ T_rlogm_state ∧ q ≠ PTS) : MdAt w' q M :=
  h.extT he fun k hk cs T ho => by
    obtain ⟨cs', T', ho', hT⟩ := hX k hk ho.lt
    rw [(ho.unique ho').2]
    exact ht _ hT
theorem at_get {L0' : LogS} {j : Nat} {X : LogS} (h0 : M.A0 = gs L0') (hH : M.H.map (·.2) = S.map gs) (hX : (L0' :: S)[j]? = some X) : M.at (j : Int) = gs X := by
  have hlen : M.H.length = S.length := by simpa using congrArg List.length hH
  cases j with
  | zero =>
    simp at hX
    subst hX
    unfold MSt.at
    rw [if_pos (by omega), h0]
  | succ j =>
    have hX' : S[j]? = some X := by simpa using hX
    have hj := (List.getElem?_eq_some_iff.1 hX').1
    unfold MSt.at
    rw [if_neg (by omega), show (min ((j + 1 : Nat) : Int) (M.H.length : Int) - 1).toNat = j by omega]
    have e2 : (M.H.map (·.2))[j]? = some (gs X) := by rw [hH, List.getElem?_map, hX']; rfl
    rw [List.getElem?_map] at e2
    cases hg : M.H[j]? with
    | none => rw [hg] at e2; cases e2
    | some e =>
      rw [hg] at e2
      simp at e2
      exact e2
theorem fin_get (L0' : LogS) : ∀ (S : List LogS), (L0' :: S)[S.length]? = some (finL L0' S)
  | [] => rfl
  | [a] => rfl
  | a :: b :: S => by
    have := fin_get a (b :: S)
    show (a :: b :: S)[(b :: S).length]? = _
    rw [this]
    rfl
theorem Real.marked {L : LogS} {F' : List Nat} (h : Real w l t d D F A L) (he : Ext F w w') (hD : DiskAt w' d D.marked F') : Real w' l t d D.marked F' A L := by
  obtain ⟨X, x1, x2⟩ := h.rl
  have he' : Ext (t :: F) w w' := he.mono (fun x hx _ => List.mem_cons_of_mem _ hx)
  have hopenM : openR d D.marked = openR d D := openR_now rfl
  exact ⟨⟨by rw [hopenM]; exact he.own h.st.st h.st.tF, hD, h.st.like⟩, ⟨X, ownT he' h.st.tys x1 (by decide), x2⟩, h.ok, h.holds, h.clean⟩
theorem estr_eq : (estr.toList == (ByteArray.mk #[]).toList) = true := (str_beq _ _).2 rfl
end
end Go.Proofs.Qxb6500430aGreat
