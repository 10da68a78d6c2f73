/-
  store: what cuts leave, plainly.
-/
import Derived.Test.Qxb6500430aGreatStF
set_option linter.unusedVariables false
set_option linter.unusedSimpArgs false
open Go.Vc
namespace Go.Proofs.Qxb6500430aGreat

structure AbsS where
  term : Int
  vote : Int
  sidx : Int
  sterm : Int
  snap : ByteArray
  used : Nat → Bool
  recs : Nat → RecS
structure Like (S : StoreS) (A : AbsS) : Prop where
  term : S.m.term = A.term
  vote : S.m.vote = A.vote
  sidx : S.h.idx = A.sidx
  sterm : S.h.term = A.sterm
  snap : S.snap = A.snap
  used : ∀ s, s < 6 → S.used s = A.used s
  recs : ∀ s, s < 6 → A.used s = true → S.recs s = A.recs s
def img (I : List ByteArray) : DiskS := ⟨I, I, []⟩
def LikeI (I : List ByteArray) (A : AbsS) : Prop := Like (openR 0 (img I)) A
theorem likeI_of {d : Nat} {D : DiskS} {A : AbsS} (h : LikeI D.now A) : Like (openR d D) A := by
  have e : openR 0 (img D.now) = openR 0 D := openR_now rfl
  unfold LikeI at h
  rw [e] at h
  exact ⟨h.term, h.vote, h.sidx, h.sterm, h.snap, h.used, h.recs⟩
theorem likeI_mk {d : Nat} {D : DiskS} {A : AbsS} (h : Like (openR d D) A) : LikeI D.now A := by
  have e : openR 0 (img D.now) = openR 0 D := openR_now rfl
  unfold LikeI
  rw [e]
  exact ⟨h.term, h.vote, h.sidx, h.sterm, h.snap, h.used, h.recs⟩
theorem img_put {D : DiskS} {b : Nat} {y : ByteArray} : (img (D.now.set b y)).now = (D.put b y).now := rfl
theorem good_img {D : DiskS} {N : Int} (h : Good D N) : Good (img D.now) N := good_now (D1 := D) (D2 := img D.now) rfl h
theorem Good.img_wf {D : DiskS} {N : Int} (h : Good D N) : ImgWf D.now := ⟨h.len, h.wf⟩
structure Pend (D : DiskS) (A : AbsS) (N : Int) : Prop where
  mark : ImgWf D.mark
  log : LogWf D
  all : ∀ k, k ≤ D.log.length → Good (img (cutI D k)) N ∧ LikeI (cutI D k) A
  fin : cutI D D.log.length = D.now
structure Cuts (D : DiskS) (A0 A1 : AbsS) (N : Int) : Prop where
  mark : ImgWf D.mark
  log : LogWf D
  all : ∀ k, k ≤ D.log.length → Good (img (cutI D k)) N ∧ (LikeI (cutI D k) A0 ∨ LikeI (cutI D k) A1)
  first : LikeI D.mark A0
  last : LikeI D.now A1
  fin : cutI D D.log.length = D.now
theorem Pend.now {D : DiskS} {A : AbsS} {N : Int} (h : Pend D A N) : Good D N ∧ LikeI D.now A := by
  have := h.all D.log.length (Nat.le_refl _)
  rw [h.fin] at this
  exact ⟨good_now (D1 := img D.now) rfl this.1, this.2⟩
theorem Cuts.good {D : DiskS} {A0 A1 : AbsS} {N : Int} (h : Cuts D A0 A1 N) : Good D N := by
  have := (h.all D.log.length (Nat.le_refl _)).1
  rw [h.fin] at this
  exact good_now (D1 := img D.now) rfl this
theorem Cuts.mono {D : DiskS} {A0 A1 : AbsS} {N M : Int} (h : Cuts D A0 A1 N) (hm : N ≤ M) : Cuts D A0 A1 M := ⟨h.mark, h.log, fun k hk => ⟨(h.all k hk).1.mono hm, (h.all k hk).2⟩, h.first, h.last, h.fin⟩
/-- A disk just marked. -/
theorem pend_marked {D : DiskS} {A : AbsS} {N : Int} (h : Good D N) (hl : LikeI D.now A) : Pend D.marked A N :=
  ⟨h.img_wf, fun e he => (by cases he), fun k hk => (by
    have : k = 0 := by simpa [DiskS.marked] using hk
    subst this
    exact ⟨good_img h, hl⟩), rfl⟩
theorem Pend.cuts {D : DiskS} {A : AbsS} {N : Int} (h : Pend D A N) : Cuts D A A N := by
  have h0 := (h.all 0 (by omega)).2
  exact ⟨h.mark, h.log, fun k hk => ⟨(h.all k hk).1, .inl (h.all k hk).2⟩, h0, h.now.2, h.fin⟩
section
variable {D : DiskS} {A A1 : AbsS} {N : Int} {b : Nat} {x : ByteArray}
theorem write_len : (D.write (b : Int) x).log.length = D.log.length + 2 := by simp [DiskS.write]
theorem cutI_write (hfin : cutI D D.log.length = D.now) (hnow : ImgWf D.now) (hb : b < 14) (hx : x.size = 64) :
    (∀ k, k ≤ D.log.length → cutI (D.write (b : Int) x) k = cutI D k) ∧ cutI (D.write (b : Int) x) (D.log.length + 1) = D.now.set b (torn x (D.now.getD b zblock)) ∧ cutI (D.write (b : Int) x) (D.log.length + 2) = D.now.set b x := by
  have h1 : ∀ k, k ≤ D.log.length → cutI (D.write (b : Int) x) k = cutI D k := fun k hk => by
    unfold cutI
    show ((D.log ++ _).take k).foldl hput D.mark = _
    rw [List.take_append_of_le_length hk]
  have g1 : (D.write (b : Int) x).log[D.log.length]? = some ((b : Int), 0, x.extract 0 32) := by
    show (D.log ++ _)[D.log.length]? = _
    rw [List.getElem?_append_right (Nat.le_refl _)]
    simp
  have g2 : (D.write (b : Int) x).log[D.log.length + 1]? = some ((b : Int), 1, x.extract 32 x.size) := by
    show (D.log ++ _)[D.log.length + 1]? = _
    rw [List.getElem?_append_right (by omega)]
    simp
  have ho := hnow.2 b hb
  have e1 : cutI (D.write (b : Int) x) (D.log.length + 1) = D.now.set b (torn x (D.now.getD b zblock)) := by
    rw [cutI_succ g1, h1 _ (Nat.le_refl _), hfin]
    unfold hput
    simp only [Int.toNat_natCast]
    rw [if_pos (by trivial), torn_eq hx ho]
  refine ⟨h1, e1, ?_⟩
  rw [cutI_succ g2, e1]
  unfold hput
  simp only [Int.toNat_natCast]
  rw [if_neg (by simp)]
  have hlen := hnow.1
  have hget : (D.now.set b (torn x (D.now.getD b zblock))).getD b zblock = torn x (D.now.getD b zblock) := by
    simp only [List.getD]
    rw [List.getElem?_set, if_pos rfl, if_pos (by omega)]
    rfl
  rw [hget, List.set_set, full_eq hx]
theorem logWf_write (hl : LogWf D) (hb : b < 14) (hx : x.size = 64) : LogWf (D.write (b : Int) x) := fun e he => by
  rcases List.mem_append.1 he with q | q
  · exact hl e q
  · simp only [List.mem_cons, List.not_mem_nil, or_false] at q
    rcases q with rfl | rfl
    · exact ⟨by show (0 : Int) ≤ b; omega, by show (b : Int) < 14; omega, .inl rfl, size_extract (by omega) (by omega)⟩
    · refine ⟨by show (0 : Int) ≤ b; omega, by show (b : Int) < 14; omega, .inr rfl, ?_⟩
      show (x.extract 32 x.size).size = 32
      rw [size_extract (by omega) (by omega), hx]
theorem Pend.quiet (h : Pend D A N) (hb : b < 14) (hx : x.size = 64) (ht : Good (D.put b (torn x (blk D b))) N ∧ LikeI (D.put b (torn x (blk D b))).now A) (hf : Good (D.put b x) N ∧ LikeI (D.put b x).now A) : Pend (D.write (b : Int) x) A N := by
  obtain ⟨c1, c2, c3⟩ := cutI_write h.fin h.now.1.img_wf hb hx
  refine ⟨h.mark, logWf_write h.log hb hx, fun k hk => ?_, ?_⟩
  · rw [write_len] at hk
    by_cases q : k ≤ D.log.length
    · rw [c1 k q]
      exact h.all k q
    · have : k = D.log.length + 1 ∨ k = D.log.length + 2 := by omega
      rcases this with rfl | rfl
      · rw [c2]
        exact ⟨good_now (D1 := D.put b (torn x (blk D b))) rfl ht.1, ht.2⟩
      · rw [c3]
        exact ⟨good_now (D1 := D.put b x) rfl hf.1, hf.2⟩
  · rw [write_len, c3]
    exact (write_now D b x).symm
theorem Pend.commit {M : Int} (h : Pend D A N) (hNM : N ≤ M) (hb : b < 14) (hx : x.size = 64) (ht : Good (D.put b (torn x (blk D b))) M ∧ (LikeI (D.put b (torn x (blk D b))).now A ∨ LikeI (D.put b (torn x (blk D b))).now A1)) (hf : Good (D.put b x) M ∧ LikeI (D.put b x).now A1) : Cuts (D.write (b : Int) x) A A1 M := by
  obtain ⟨c1, c2, c3⟩ := cutI_write h.fin h.now.1.img_wf hb hx
  refine ⟨h.mark, logWf_write h.log hb hx, fun k hk => ?_, (h.all 0 (by omega)).2, ?_, ?_⟩
  · rw [write_len] at hk
    by_cases q : k ≤ D.log.length
    · rw [c1 k q]
      exact ⟨(h.all k q).1.mono hNM, .inl (h.all k q).2⟩
    · have : k = D.log.length + 1 ∨ k = D.log.length + 2 := by omega
      rcases this with rfl | rfl
      · rw [c2]
        exact ⟨good_now (D1 := D.put b (torn x (blk D b))) rfl ht.1, ht.2⟩
      · rw [c3]
        exact ⟨good_now (D1 := D.put b x) rfl hf.1, .inr hf.2⟩
  · have : (D.write (b : Int) x).now = (D.put b x).now := write_now D b x
    rw [this]
    exact hf.2
  · rw [write_len, c3]
    exact (write_now D b x).symm
theorem stamp_torn {g : Nat → UInt8} {o : ByteArray} : whole (torn (mkStr 64 (stampF g (nextU (ubyte o 63)))) o) = false ∧ byteAt (torn (mkStr 64 (stampF g (nextU (ubyte o 63)))) o) 63 = byteAt o 63 := by
  refine ⟨torn_notWhole ?_, ?_⟩
  · rw [ubyte_mk (by omega)]
    exact nextU_ne _
  · have h1 := byteAt_nat (torn (mkStr 64 (stampF g (nextU (ubyte o 63)))) o) 63
    rw [torn_last] at h1
    have h2 := byteAt_nat o 63
    exact h1.trans h2.symm
theorem setMeta_cuts {term vote : Int} (h : Pend D A N) (hN : N ≤ 4611686018427387904) (he : metaErr term vote = 0) : Cuts (D.write (oM D : Int) (yMeta D term vote)) A { A with term := term, vote := vote } (N + 1) := by
  obtain ⟨hG, hL⟩ := h.now
  have hlt := (oM_lt D).1
  have hL' := likeI_of (d := 0) hL
  obtain ⟨t1, t2⟩ := put_meta_torn (d := 0) (y := torn (yMeta D term vote) (blk D (oM D))) hG (mkStr_size _ _) stamp_torn.1 stamp_torn.2
  obtain ⟨f1, f2⟩ := put_meta_full (d := 0) (y := yMeta D term vote) (s := ((nextU (ubyte (blk D (oM D)) 63)).toNat : Int)) hG (mkStr_size _ _) (yMeta_dec hG hN he) stampF_last
  refine h.commit (by omega) (by omega) (mkStr_size _ _) ⟨t2.mono (by omega), .inl (likeI_mk (d := 0) (by rw [t1]; exact hL'))⟩ ⟨f2, likeI_mk (d := 0) ?_⟩
  rw [f1]
  exact ⟨rfl, rfl, hL'.sidx, hL'.sterm, hL'.snap, hL'.used, hL'.recs⟩
theorem areaW_pend {data : ByteArray} (h : Pend D A N) : ∀ k, k ≤ 2 → Pend (areaW D data (oA D) k) A N
  | 0, _ => h
  | k + 1, hk => by
    have ih := areaW_pend h (data := data) k (by omega)
    obtain ⟨hG, hL⟩ := h.now
    obtain ⟨hGk, hLk⟩ := ih.now
    obtain ⟨q1, q2, q3⟩ := areaW_good (d := 0) (data := data) hG k (by omega)
    obtain ⟨a0, a1, _, _⟩ := curH_bd D
    have ha := oA_lt D
    have hL' := likeI_of (d := 0) hLk
    have hn : 4 + 2 * oA D + k ≠ 4 + 2 * (curH (areaW D data (oA D) k)).area.toNat ∧ 4 + 2 * oA D + k ≠ 5 + 2 * (curH (areaW D data (oA D) k)).area.toNat := by rw [q3]; omega
    obtain ⟨t1, t2⟩ := put_area_any (d := 0) (y := torn (mkStr 64 (chunkF data k)) (blk (areaW D data (oA D) k) (4 + 2 * oA D + k))) hGk (by omega) (by omega) hn (mkStr_size _ _)
    obtain ⟨f1, f2⟩ := put_area_any (d := 0) (y := mkStr 64 (chunkF data k)) hGk (by omega) (by omega) hn (mkStr_size _ _)
    exact ih.quiet (by omega) (mkStr_size _ _) ⟨t2, likeI_mk (d := 0) (by rw [t1]; exact hL')⟩ ⟨f2, likeI_mk (d := 0) (by rw [f1]; exact hL')⟩
theorem setSnap_cuts {idx term : Int} {data : ByteArray} (h : Pend D A N) (hN : N ≤ 4611686018427387904) (he : snapErr idx term data.size = 0) : Cuts (snapD D idx term data) A { A with sidx := idx, sterm := term, snap := data } (N + 1) := by
  obtain ⟨hG, hL⟩ := h.now
  have hd : data.size ≤ 128 := by
    unfold snapErr at he
    split at he
    · omega
    split at he
    · omega
    · omega
  have hc : cnt64 data ≤ 2 := by unfold cnt64; omega
  have ih := areaW_pend (data := data) h (cnt64 data) hc
  obtain ⟨hGk, hLk⟩ := ih.now
  obtain ⟨q1, q2, q3⟩ := areaW_good (d := 0) (data := data) hG (cnt64 data) hc
  have hoh := oH_lt D
  have ho : oH (areaW D data (oA D) (cnt64 data)) = oH D := by
    have := congrArg StoreS.hSlot q1
    show (3 - slotH _).toNat = (3 - slotH D).toNat
    have e2 : slotH (areaW D data (oA D) (cnt64 data)) = slotH D := this
    rw [e2]
  have hb : blk (areaW D data (oA D) (cnt64 data)) (oH D) = blk D (oH D) := blk_areaW hG (by omega) _ hc
  have hst := stamp_torn (g := encHeadF ((curH D).num + 1) idx term (oA D : Int) (data.size : Int)) (o := blk D (oH D))
  have tt := put_head_torn (d := 0) (y := torn (yHead D idx term data) (blk D (oH D))) hGk (mkStr_size _ _) hst.1 (by rw [ho, hb]; exact hst.2)
  rw [ho] at tt
  obtain ⟨t1, t2⟩ := tt
  obtain ⟨s1, s2⟩ := snapD_open (d := 0) hG hN he
  have hL' := likeI_of (d := 0) hLk
  have hL0 := likeI_of (d := 0) hL
  have hw : (snapD D idx term data).now = ((areaW D data (oA D) (cnt64 data)).put (oH D) (yHead D idx term data)).now := write_now _ _ _
  refine ih.commit (by omega) (by omega) (mkStr_size _ _) ⟨?_, .inl ?_⟩ ⟨good_now hw s2, ?_⟩
  · rw [hb]
    exact t2.mono (by omega)
  · rw [hb]
    exact likeI_mk (d := 0) (by rw [t1]; exact hL')
  · rw [← hw]
    refine likeI_mk (d := 0) ?_
    rw [s1]
    exact ⟨hL0.term, hL0.vote, rfl, rfl, rfl, hL0.used, hL0.recs⟩
theorem putRec_cuts {k : Nat} {idx term : Int} {data : ByteArray} (h : Pend D A N) (hk : k < 6) (hu : A.used k = false) (hi : 0 ≤ idx ∧ idx < 9223372036854775808) (ht : 0 ≤ term ∧ term < 9223372036854775808) (hd : data.size ≤ 24) : Cuts (D.write ((8 + k : Nat) : Int) (yRec D k idx term data)) A { A with used := upd A.used k true, recs := upd A.recs k ⟨idx, term, data⟩ } N := by
  obtain ⟨hG, hL⟩ := h.now
  have hL' := likeI_of (d := 0) hL
  have hst := stamp_torn (g := encRecF idx term data) (o := blk D (8 + k))
  obtain ⟨t1, t2⟩ := put_rec_any (d := 0) (y := torn (yRec D k idx term data) (blk D (8 + k))) hG hk (mkStr_size _ _)
  obtain ⟨f1, f2⟩ := put_rec_any (d := 0) (y := yRec D k idx term data) hG hk (mkStr_size _ _)
  have hrec := recOf_enc (s := nextU (ubyte (blk D (8 + k)) 63)) (idx := idx) (term := term) (d := data) (nextU_ne0 _) hi ht hd
  have r1 : recOk (yRec D k idx term data) = true := hrec.1
  have r2 : recOf (yRec D k idx term data) = ⟨idx, term, data⟩ := hrec.2
  refine h.commit (Int.le_refl _) (by omega) (mkStr_size _ _) ⟨t2, .inl (likeI_mk (d := 0) ?_)⟩ ⟨f2, likeI_mk (d := 0) ?_⟩
  · have rt : recOk (torn (yRec D k idx term data) (blk D (8 + k))) = false := recOk_torn hst.1
    rw [t1, rt, recOf_no rt]
    refine ⟨hL'.term, hL'.vote, hL'.sidx, hL'.sterm, hL'.snap, fun s hs => ?_, fun s hs hus => ?_⟩
    · show upd (openR 0 D).used k false s = _
      by_cases e : s = k
      · subst e
        rw [upd_eq, hu]
      · rw [upd_ne _ _ e]
        exact hL'.used s hs
    · show upd (openR 0 D).recs k _ s = _
      have e : s ≠ k := fun e => by
        subst e
        rw [hu] at hus
        cases hus
      rw [upd_ne _ _ e]
      exact hL'.recs s hs hus
  · rw [f1, r1, r2]
    refine ⟨hL'.term, hL'.vote, hL'.sidx, hL'.sterm, hL'.snap, fun s hs => ?_, fun s hs hus => ?_⟩
    · show upd (openR 0 D).used k true s = upd A.used k true s
      by_cases e : s = k
      · subst e
        rw [upd_eq, upd_eq]
      · rw [upd_ne _ _ e, upd_ne _ _ e]
        exact hL'.used s hs
    · show upd (openR 0 D).recs k _ s = upd A.recs k _ s
      have hus' : upd A.used k true s = true := hus
      by_cases e : s = k
      · subst e
        rw [upd_eq, upd_eq]
      · rw [upd_ne _ _ e] at hus' ⊢
        rw [upd_ne _ _ e]
        exact hL'.recs s hs hus'
theorem delRec_cuts {k : Nat} (h : Pend D A N) (hk : k < 6) : Cuts (D.write ((8 + k : Nat) : Int) (yDel D k)) A { A with used := upd A.used k false, recs := upd A.recs k ⟨0, 0, estr⟩ } N := by
  obtain ⟨hG, hL⟩ := h.now
  have hL' := likeI_of (d := 0) hL
  have hst := stamp_torn (g := zeroF) (o := blk D (8 + k))
  obtain ⟨t1, t2⟩ := put_rec_any (d := 0) (y := torn (yDel D k) (blk D (8 + k))) hG hk (mkStr_size _ _)
  obtain ⟨f1, f2⟩ := put_rec_any (d := 0) (y := yDel D k) hG hk (mkStr_size _ _)
  have r1 : recOk (yDel D k) = false := recOk_del
  have key : ∀ y, recOk y = false → openR 0 (D.put (8 + k) y) = { openR 0 D with stamp := upd (openR 0 D).stamp (8 + k) (byteAt y 63), used := upd (openR 0 D).used k (recOk y), recs := upd (openR 0 D).recs k (recOf y) } → Like (openR 0 (D.put (8 + k) y)) { A with used := upd A.used k false, recs := upd A.recs k ⟨0, 0, estr⟩ } := fun y hy e => by
    rw [e, hy, recOf_no hy]
    refine ⟨hL'.term, hL'.vote, hL'.sidx, hL'.sterm, hL'.snap, fun s hs => ?_, fun s hs hus => ?_⟩
    · show upd (openR 0 D).used k false s = upd A.used k false s
      by_cases e : s = k
      · subst e
        rw [upd_eq, upd_eq]
      · rw [upd_ne _ _ e, upd_ne _ _ e]
        exact hL'.used s hs
    · show upd (openR 0 D).recs k _ s = upd A.recs k _ s
      have hus' : upd A.used k false s = true := hus
      by_cases e : s = k
      · subst e
        rw [upd_eq] at hus'
        cases hus'
      · rw [upd_ne _ _ e] at hus' ⊢
        rw [upd_ne _ _ e]
        exact hL'.recs s hs hus'
  exact h.commit (Int.le_refl _) (by omega) (mkStr_size _ _) ⟨t2, .inr (likeI_mk (d := 0) (key _ (recOk_torn hst.1) t1))⟩ ⟨f2, likeI_mk (d := 0) (key _ r1 f1)⟩
end
end Go.Proofs.Qxb6500430aGreat
