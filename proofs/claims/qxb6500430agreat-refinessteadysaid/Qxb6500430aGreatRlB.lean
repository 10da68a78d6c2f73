/-
  rlog: the store's calls, with every image on the way.
-/
import Derived.Test.Qxb6500430aGreatRlA
set_option linter.unusedVariables false
set_option linter.unusedSimpArgs false
open Go.Vc
namespace Go.Proofs.Qxb6500430aGreat

structure St (w : World) (t d : Nat) (D : DiskS) (F : List Nat) (A : AbsS) : Prop where
  st : StoreAt w t (openR d D)
  dk : DiskAt w d D F
  like : LikeI D.now A
theorem DiskAt.ty {w : World} {d : Nat} {D : DiskS} {F : List Nat} (h : DiskAt w d D F) {k : Nat} (hk : k ∈ F) : ∃ cs T, Own w k cs T ∧ (T = T_diskm_Disk ∨ T = T_string ∨ T = T_diskm_half) := by
  obtain ⟨nb, mb, rb, rl, rc, rfl, hne, hd, hn, hnl, hmk, hml, hr, hrl⟩ := h
  simp only [List.mem_cons] at hk
  rcases hk with rfl | rfl | rfl | hk
  · exact ⟨_, _, hd, .inl rfl⟩
  · exact ⟨_, _, hn, .inr (.inl rfl)⟩
  · exact ⟨_, _, hmk, .inr (.inl rfl)⟩
  · obtain ⟨cs, ho⟩ := hr.ty hk
    exact ⟨_, _, ho, .inr (.inr rfl)⟩
section
variable {w w' : World} {t d : Nat} {D : DiskS} {F : List Nat} {A : AbsS} {L : LogS} {S : List LogS} {N : Int}
theorem St.ext0 (h : St w t d D F A) (he : Ext [] w w') : St w' t d D F A := ⟨he.own h.st (by simp), h.dk.ext he (by simp), h.like⟩
theorem St.tF (h : St w t d D F A) : t ∉ F := fun hk => by
  obtain ⟨cs, T, ho, hT⟩ := h.dk.ty hk
  have := (Own.unique h.st ho).2
  rcases hT with e | e | e <;> rw [e] at this <;> exact absurd this (by decide)
/-- Blocks of other types stand. -/
theorem St.extT {X : List Nat} {ts : List TypeId} (h : St w t d D F A) (he : Ext X w w') (hX : Tys w X ts) (ht : ∀ q ∈ ts, q ≠ T_store_Store ∧ q ≠ T_diskm_Disk ∧ q ≠ T_string ∧ q ≠ T_diskm_half) : St w' t d D F A := by
  refine ⟨ownT he hX h.st (fun hx => (ht _ hx).1 rfl), h.dk.ext he (fun k hk hx => ?_), h.like⟩
  obtain ⟨cs, T, ho, hT⟩ := h.dk.ty hk
  obtain ⟨cs', T', ho', hT'⟩ := hX k hx ho.lt
  have e := (ho.unique ho').2
  rw [← e] at hT'
  have := ht _ hT'
  rcases hT with q | q | q
  · exact this.2.1 q
  · exact this.2.2.1 q
  · exact this.2.2.2 q
theorem St.tys (h : St w t d D F A) : Tys w (t :: F) [T_store_Store, T_diskm_Disk, T_string, T_diskm_half] := fun k hk _ => by
  rcases List.mem_cons.1 hk with rfl | hk
  · exact ⟨_, _, h.st, by simp⟩
  · obtain ⟨cs, T, ho, hT⟩ := h.dk.ty hk
    exact ⟨cs, T, ho, by rcases hT with q | q | q <;> simp [q]⟩
theorem St.used (h : St w t d D F A) {s : Nat} (hs : s < 6) : (openR d D).used s = A.used s := (likeI_of (d := d) h.like).used s hs
theorem pend_of (h : St w t d D F A) (hp : Path D S N) : Pend D.marked A N := pend_marked hp.good h.like
theorem oMeta_ok {term vote : Int} {R : Int → World → Prop} (h : St w t d D F A) (hp : Path D S N) (hN : N ≤ 4611686018427387904) (hl : D.log.length ≤ 1000) (hA : Holds A L) (hL : L ∈ S) (hL1 : { L with term := term, vote := vote } ∈ S) (he : metaErr term vote = 0)
    (hR : ∀ w' D' F', St w' t d D' F' { A with term := term, vote := vote } → Path D' S (N + 1) → D'.log.length = D.log.length + 2 → Ext (t :: F) w w' → Grew w F F' → R 0 w') : store_Store_SetMeta.Call (some ⟨t, 0, none⟩) term vote w R := by
  refine setMeta_ok h.st h.dk h.tF hp.good hN hl (fun hne => absurd he hne) fun _ w' F' s1 d1 he1 hg1 => ?_
  have hc := setMeta_cuts (pend_of h hp) hN he
  obtain ⟨p1, p2⟩ := hp.step (D' := D.write (oM D : Int) (yMeta D term vote)) (M := D.marked.write (oM D.marked : Int) (yMeta D.marked term vote)) rfl rfl rfl rfl rfl hc (by omega) hL hL1 hA (hA.meta term vote)
  exact hR w' _ F' ⟨s1, d1, p2⟩ p1 (by simp [DiskS.write]) he1 hg1
theorem oPut_ok {s : Nat} {idx term : Int} {data : ByteArray} {L1 : LogS} {R : Int → World → Prop} (h : St w t d D F A) (hp : Path D S N) (hl : D.log.length ≤ 1000) (hA : Holds A L) (hL : L ∈ S) (hs : s < 6) (hu : A.used s = false) (hi : 1 ≤ idx ∧ idx ≤ 72057594037927936) (ht : 0 ≤ term ∧ term ≤ 72057594037927936) (hd : data.size ≤ 24)
    (hA1 : Holds { A with used := upd A.used s true, recs := upd A.recs s ⟨idx, term, data⟩ } L1) (hL1 : L1 ∈ S)
    (hR : ∀ w' D' F', St w' t d D' F' { A with used := upd A.used s true, recs := upd A.recs s ⟨idx, term, data⟩ } → Path D' S N → D'.log.length = D.log.length + 2 → Ext (t :: F) w w' → Grew w F F' → R 0 w') : store_Store_PutRec.Call (some ⟨t, 0, none⟩) (s : Int) idx term data w R := by
  have e0 : putErr (s : Int) idx term data.size ((openR d D).used (s : Int).toNat) = 0 := by
    unfold putErr
    rw [Int.toNat_natCast, h.used hs, hu, if_neg (by omega), if_neg (by omega), if_neg (by decide)]
  refine putRec_ok h.st h.dk h.tF hp.good hl (fun hne => absurd e0 hne) fun _ w' F' s1 d1 he1 hg1 => ?_
  rw [Int.toNat_natCast] at s1 d1
  have hc := putRec_cuts (k := s) (pend_of h hp) hs hu (by omega) (by omega) hd (idx := idx) (term := term) (data := data)
  obtain ⟨p1, p2⟩ := hp.step (D' := D.write ((8 + s : Nat) : Int) (yRec D s idx term data)) (M := D.marked.write ((8 + s : Nat) : Int) (yRec D.marked s idx term data)) rfl rfl rfl rfl rfl hc (Int.le_refl _) hL hL1 hA hA1
  exact hR w' _ F' ⟨s1, d1, p2⟩ p1 (by simp [DiskS.write]) he1 hg1
theorem oDel_ok {s : Nat} {L1 : LogS} {R : Int → World → Prop} (h : St w t d D F A) (hp : Path D S N) (hl : D.log.length ≤ 1000) (hA : Holds A L) (hL : L ∈ S) (hs : s < 6) (hu : A.used s = true)
    (hA1 : Holds { A with used := upd A.used s false, recs := upd A.recs s ⟨0, 0, estr⟩ } L1) (hL1 : L1 ∈ S)
    (hR : ∀ w' D' F', St w' t d D' F' { A with used := upd A.used s false, recs := upd A.recs s ⟨0, 0, estr⟩ } → Path D' S N → D'.log.length = D.log.length + 2 → Ext (t :: F) w w' → Grew w F F' → R 0 w') : store_Store_DelRec.Call (some ⟨t, 0, none⟩) (s : Int) w R := by
  have e0 : delErr (s : Int) ((openR d D).used (s : Int).toNat) = 0 := by
    unfold delErr
    rw [Int.toNat_natCast, h.used hs, hu, if_neg (by omega), if_pos rfl]
  refine delRec_ok h.st h.dk h.tF hp.good hl (fun hne => absurd e0 hne) fun _ w' F' s1 d1 he1 hg1 => ?_
  rw [Int.toNat_natCast] at s1 d1
  have hc := delRec_cuts (k := s) (pend_of h hp) hs
  obtain ⟨p1, p2⟩ := hp.step (D' := D.write ((8 + s : Nat) : Int) (yDel D s)) (M := D.marked.write ((8 + s : Nat) : Int) (yDel D.marked s)) rfl rfl rfl rfl rfl hc (Int.le_refl _) hL hL1 hA hA1
  exact hR w' _ F' ⟨s1, d1, p2⟩ p1 (by simp [DiskS.write]) he1 hg1
theorem areaW_more (D : DiskS) (data : ByteArray) (a : Nat) : ∀ k, (areaW D data a k).mark = D.mark ∧ (areaW D.marked data a k).mark = D.now ∧ (areaW D.marked data a k).now = (areaW D data a k).now ∧ (areaW D data a k).log = D.log ++ (areaW D.marked data a k).log
  | 0 => ⟨rfl, rfl, rfl, by simp [areaW, DiskS.marked]⟩
  | k + 1 => by
    obtain ⟨h1, h2, h3, h4⟩ := areaW_more D data a k
    unfold areaW
    refine ⟨h1, h2, ?_, ?_⟩
    · simp only [DiskS.write, h3]
    · simp only [DiskS.write, h4, h3, List.append_assoc]
theorem oSnap_ok {idx term : Int} {data : ByteArray} {L1 : LogS} {R : Int → World → Prop} (h : St w t d D F A) (hp : Path D S N) (hN : N ≤ 4611686018427387904) (hl : D.log.length ≤ 450) (hA : Holds A L) (hL : L ∈ S) (he : snapErr idx term data.size = 0) (hsz : data.size ≤ 128)
    (hA1 : Holds { A with sidx := idx, sterm := term, snap := data } L1) (hL1 : L1 ∈ S)
    (hR : ∀ w' D' F', St w' t d D' F' { A with sidx := idx, sterm := term, snap := data } → Path D' S (N + 1) → D'.log.length ≤ D.log.length + 6 → Ext (t :: F) w w' → Grew w F F' → R 0 w') : store_Store_SetSnap.Call (some ⟨t, 0, none⟩) idx term data w R := by
  refine setSnap_ok h.st h.dk h.tF hp.good hN hl (by omega) (fun hne => absurd he hne) fun _ w' F' s1 d1 he1 hg1 => ?_
  have hc := setSnap_cuts (pend_of h hp) hN he
  have hcn : cnt64 data ≤ 2 := by unfold cnt64; omega
  obtain ⟨m1, m2, m3, m4⟩ := areaW_more D data (oA D) (cnt64 data)
  have hyH : yHead D.marked idx term data = yHead D idx term data := rfl
  have e1 : (snapD D idx term data).mark = D.mark := m1
  have e2 : (snapD D.marked idx term data).mark = D.now := m2
  have e3 : (snapD D idx term data).now = (snapD D.marked idx term data).now := by
    unfold snapD
    show ((areaW D data (oA D) (cnt64 data)).write (oH D : Int) (yHead D idx term data)).now = ((areaW D.marked data (oA D) (cnt64 data)).write (oH D : Int) (yHead D idx term data)).now
    simp only [DiskS.write, m3]
  have e4 : (snapD D idx term data).log = D.log ++ (snapD D.marked idx term data).log := by
    unfold snapD
    show ((areaW D data (oA D) (cnt64 data)).write (oH D : Int) (yHead D idx term data)).log = D.log ++ ((areaW D.marked data (oA D) (cnt64 data)).write (oH D : Int) (yHead D idx term data)).log
    simp only [DiskS.write, m3, m4, List.append_assoc]
  obtain ⟨p1, p2⟩ := hp.step (D' := snapD D idx term data) (M := snapD D.marked idx term data) (E := (snapD D.marked idx term data).log) e1 e4 e3 e2 rfl hc (by omega) hL hL1 hA hA1
  refine hR w' _ F' ⟨s1, d1, p2⟩ p1 ?_ he1 hg1
  unfold snapD
  have := areaW_log D data (oA D) (cnt64 data)
  simp only [DiskS.write, List.length_append, List.length_cons, List.length_nil]
  omega
end
end Go.Proofs.Qxb6500430aGreat
