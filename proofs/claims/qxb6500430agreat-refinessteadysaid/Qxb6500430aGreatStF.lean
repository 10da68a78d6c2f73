/-
  store: PutRec, DelRec of the real layer; the disk's After.
-/
import Derived.Test.Qxb6500430aGreatStE
import Derived.Test.Qxb6500430aGreatVcF
set_option linter.unusedVariables false
set_option linter.unusedSimpArgs false
open Go.Vc
namespace Go.Proofs.Qxb6500430aGreat

def putErr (slot idx term : Int) (n : Nat) (used : Bool) : Int := if slot < 0 ∨ 6 ≤ slot then 1 else if idx < 1 ∨ 72057594037927936 < idx ∨ term < 0 ∨ 72057594037927936 < term ∨ 24 < n then 4 else if used then 3 else 0
def delErr (slot : Int) (used : Bool) : Int := if slot < 0 ∨ 6 ≤ slot then 1 else if used then 0 else 2
def yRec (D : DiskS) (k : Nat) (idx term : Int) (data : ByteArray) : ByteArray := mkStr 64 (stampF (encRecF idx term data) (nextU (ubyte (blk D (8 + k)) 63)))
def yDel (D : DiskS) (k : Nat) : ByteArray := mkStr 64 (stampF zeroF (nextU (ubyte (blk D (8 + k)) 63)))
section
variable {w : World} {t d : Nat} {D : DiskS} {F : List Nat} {N : Int}
theorem putRec_ok {slot idx term : Int} {data : ByteArray} {R : Int → World → Prop} (hS : StoreAt w t (openR d D)) (hD : DiskAt w d D F) (htF : t ∉ F) (hG : Good D N) (hL : D.log.length ≤ 1000)
    (hE : putErr slot idx term data.size ((openR d D).used slot.toNat) ≠ 0 → ∀ w', Ext [] w w' → R (putErr slot idx term data.size ((openR d D).used slot.toNat)) w')
    (hR : putErr slot idx term data.size ((openR d D).used slot.toNat) = 0 → ∀ w' F', StoreAt w' t (openR d (D.write ((8 + slot.toNat : Nat) : Int) (yRec D slot.toNat idx term data))) → DiskAt w' d (D.write ((8 + slot.toNat : Nat) : Int) (yRec D slot.toNat idx term data)) F' → Ext (t :: F) w w' → Grew w F F' → R 0 w') : store_Store_PutRec.Call (some ⟨t, 0, none⟩) slot idx term data w R := by
  apply store_Store_PutRec.sound
  unfold store_Store_PutRec.B0
  refine New.mk fun r w1 hr hs1 or1 he1 => ?_
  have hS1 := he1.own hS (by simp)
  have rng : (slot < 0 ∨ 6 ≤ slot) → store_Store_PutRec.B1 (some ⟨t, 0, none⟩) slot r true w1 R := fun q => by
    have e : putErr slot idx term data.size ((openR d D).used slot.toNat) = 1 := by unfold putErr; rw [if_pos q]
    unfold store_Store_PutRec.B1
    rw [e] at hE
    exact Bm.pos rfl (hE (by omega) w1 he1)
  refine Bm.ite (fun h => rng (.inl h)) (fun h0 => ?_)
  by_cases h6 : slot ≥ 6
  · rw [decide_eq_true h6]
    exact rng (.inr h6)
  rw [decide_eq_false h6]
  have hs6 : slot.toNat < 6 := by omega
  unfold store_Store_PutRec.B1
  have bad : (idx < 1 ∨ 72057594037927936 < idx ∨ term < 0 ∨ 72057594037927936 < term ∨ 24 < data.size) → store_Store_PutRec.B2 (some ⟨t, 0, none⟩) slot r true w1 R := fun q => by
    have e : putErr slot idx term data.size ((openR d D).used slot.toNat) = 4 := by unfold putErr; rw [if_neg (by omega), if_pos q]
    unfold store_Store_PutRec.B2
    rw [e] at hE
    exact Bm.pos rfl (hE (by omega) w1 he1)
  refine Bm.neg rfl (LdI.mk or1 rfl (Bm.ite (fun h => bad (.inl h)) (fun h1 => LdI.mk or1 rfl (Bm.ite (fun h => bad (.inr (.inl h))) (fun h2 => LdI.mk or1 rfl (Bm.ite (fun h => bad (.inr (.inr (.inl h)))) (fun h3 => LdI.mk or1 rfl (Bm.ite (fun h => bad (.inr (.inr (.inr (.inl h))))) (fun h4 => LdS.mk or1 rfl ?_)))))))))
  by_cases h5 : ((data.size : Nat) : Int) > 24
  · rw [decide_eq_true h5]
    exact bad (.inr (.inr (.inr (.inr (by omega)))))
  rw [decide_eq_false h5]
  unfold store_Store_PutRec.B2
  refine Bm.neg rfl (Pn.mk ⟨⟨by omega, by omega⟩, ?_⟩)
  rw [add_mk, add_mk, Nat.mul_one, Nat.zero_add]
  refine LdB.fn hS1 (by omega) (cell_used _ hs6) (Bm.mk (fun hu => ?_) (fun hu => ?_))
  · have e : putErr slot idx term data.size ((openR d D).used slot.toNat) = 3 := by unfold putErr; rw [if_neg (by omega), if_neg (by omega), if_pos hu]
    rw [e] at hE
    exact hE (by omega) w1 he1
  have e0 : putErr slot idx term data.size ((openR d D).used slot.toNat) = 0 := by unfold putErr; rw [if_neg (by omega), if_neg (by omega), if_neg (by simp [hu])]
  have hR' := hR e0
  have hrt : r ≠ t := by have := hS.lt; omega
  refine LdI.mk or1.drew rfl (LdI.mk or1.drew rfl (LdS.mk or1.drew rfl (Pn.mk ⟨⟨by omega, by omega⟩, Pn.mk ?_⟩)))
  rw [add_mk, add_mk, Nat.zero_add]
  refine Sts.fn (Own.drew hS1) (by simp; omega) rfl (put_used _ hs6 true) fun w2 hs2 hS2 he2 => ?_
  have or2 := he2.own or1.drew (by simpa using hrt)
  refine ⟨or2.cell rfl, or2.cell rfl, or2.cell rfl, ⟨by omega, by omega⟩, ?_⟩
  rw [add_mk, add_mk, Nat.zero_add]
  refine Sts.fn hS2 (by simp; omega) rfl (put_rec _ hs6 ⟨idx, term, data⟩) fun w3 hs3 hS3 he3 => ?_
  have or3 := he3.own or2 (by simpa using hrt)
  refine LdI.mk or3 rfl (LdI.mk or3 rfl (LdS.mk or3 rfl (encRec_ok (by omega) fun k w4 hk hb4 he4 => ?_)))
  have hS4 := he4.own hS3 (by simp)
  rw [show IntKind.i64.wrap (8 + slot) = ((8 + slot.toNat : Nat) : Int) by rw [w64 (by omega) (by omega)]; omega]
  have E3 : Ext [t] w w3 := (((he1.nil).trans (Ext.drew [t] w1)).trans he2).trans he3
  have hD4 : DiskAt w4 d D F := (hD.ext E3 (fun x hx hx2 => by simp at hx2; exact htF (hx2 ▸ hx))).ext he4 (by simp)
  have hz3 := E3.size
  have hz4 := he4.size
  have hkF : k ∉ F := fun hx => by
    have := hD.lt k hx
    omega
  refine write_ok (o := ubyte (blk D (8 + slot.toNat)) 63) hS4 rfl hD4 htF hL hb4 hkF (by omega) ?_ fun w5 F' hS5 hD5 he5 hg5 => ?_
  · show (openR d D).stamp (8 + slot.toNat) = _
    rw [openR_stamp (by omega)]
    exact stampOf_u (by omega)
  · refine hR' w5 F' (storeAt_cells_eq hS5 ?_) hD5 (((E3.mono (fun x hx _ => by simp at hx; simp [hx])).trans he4.nil).trans' he5 (fun x hx hlt => ?_)) (fun x hx => ?_)
    · have hrec := recOf_enc (s := nextU (ubyte (blk D (8 + slot.toNat)) 63)) (idx := idx) (term := term) (d := data) (nextU_ne0 _) (by omega) (by omega) (by omega)
      have key := (put_rec_any (d := d) (y := yRec D slot.toNat idx term data) hG hs6 (mkStr_size _ _)).1
      have hl : byteAt (yRec D slot.toNat idx term data) 63 = ((nextU (ubyte (blk D (8 + slot.toNat)) 63)).toNat : Int) := stampF_last
      have h1 : recOk (yRec D slot.toNat idx term data) = true := hrec.1
      have h2 : recOf (yRec D slot.toNat idx term data) = ⟨idx, term, data⟩ := hrec.2
      rw [openR_write, key, hl, h1, h2]
    · simp only [List.mem_cons] at hx ⊢
      rcases hx with e | e | e
      · exact .inl e
      · omega
      · exact .inr e
    · rcases hg5 x hx with q | q
      · exact .inl q
      · exact .inr (by omega)
theorem delRec_ok {slot : Int} {R : Int → World → Prop} (hS : StoreAt w t (openR d D)) (hD : DiskAt w d D F) (htF : t ∉ F) (hG : Good D N) (hL : D.log.length ≤ 1000)
    (hE : delErr slot ((openR d D).used slot.toNat) ≠ 0 → R (delErr slot ((openR d D).used slot.toNat)) w)
    (hR : delErr slot ((openR d D).used slot.toNat) = 0 → ∀ w' F', StoreAt w' t (openR d (D.write ((8 + slot.toNat : Nat) : Int) (yDel D slot.toNat))) → DiskAt w' d (D.write ((8 + slot.toNat : Nat) : Int) (yDel D slot.toNat)) F' → Ext (t :: F) w w' → Grew w F F' → R 0 w') : store_Store_DelRec.Call (some ⟨t, 0, none⟩) slot w R := by
  apply store_Store_DelRec.sound
  unfold store_Store_DelRec.B0
  have rng : (slot < 0 ∨ 6 ≤ slot) → store_Store_DelRec.B1 (some ⟨t, 0, none⟩) slot true w R := fun q => by
    have e : delErr slot ((openR d D).used slot.toNat) = 1 := by unfold delErr; rw [if_pos q]
    unfold store_Store_DelRec.B1
    rw [e] at hE
    exact Bm.pos rfl (hE (by omega))
  refine Bm.ite (fun h => rng (.inl h)) (fun h0 => ?_)
  by_cases h6 : slot ≥ 6
  · rw [decide_eq_true h6]
    exact rng (.inr h6)
  rw [decide_eq_false h6]
  have hs6 : slot.toNat < 6 := by omega
  unfold store_Store_DelRec.B1
  refine Bm.neg rfl (Pn.mk ⟨⟨by omega, by omega⟩, ?_⟩)
  rw [add_mk, add_mk, Nat.mul_one, Nat.zero_add]
  refine LdB.fn hS (by omega) (cell_used _ hs6) (Bm.mk (fun hu => ?_) (fun hu => ?_))
  · have hu' : (openR d D).used slot.toNat = false := by simpa using hu
    have e : delErr slot ((openR d D).used slot.toNat) = 2 := by unfold delErr; rw [if_neg (by omega), if_neg (by simp [hu'])]
    rw [e] at hE
    exact hE (by omega)
  have hu' : (openR d D).used slot.toNat = true := by simpa using hu
  have e0 : delErr slot ((openR d D).used slot.toNat) = 0 := by unfold delErr; rw [if_neg (by omega), if_pos hu']
  have hR' := hR e0
  refine Pn.mk ⟨⟨by omega, by omega⟩, Pn.mk ?_⟩
  rw [add_mk, add_mk, Nat.zero_add]
  refine Sts.fn (Own.drew hS) (by simp; omega) rfl (put_used _ hs6 false) fun w2 hs2 hS2 he2 => ⟨⟨by omega, by omega⟩, ?_⟩
  rw [add_mk, add_mk, Nat.zero_add]
  refine Sts.fn hS2 (by simp; omega) rfl (put_rec _ hs6 ⟨0, 0, estr⟩) fun w3 hs3 hS3 he3 => blk_make fun k w4 hk hs4 hb4 he4 => ?_
  have hS4 := he4.own hS3 (by simp)
  rw [show IntKind.i64.wrap (8 + slot) = ((8 + slot.toNat : Nat) : Int) by rw [w64 (by omega) (by omega)]; omega]
  have E3 : Ext [t] w w3 := ((Ext.drew [t] w).trans he2).trans he3
  have hD4 : DiskAt w4 d D F := (hD.ext E3 (fun x hx hx2 => by simp at hx2; exact htF (hx2 ▸ hx))).ext he4 (by simp)
  have hz3 := E3.size
  have hkF : k ∉ F := fun hx => by
    have := hD.lt k hx
    omega
  refine write_ok (o := ubyte (blk D (8 + slot.toNat)) 63) hS4 rfl hD4 htF hL hb4 hkF (by omega) ?_ fun w5 F' hS5 hD5 he5 hg5 => ?_
  · show (openR d D).stamp (8 + slot.toNat) = _
    rw [openR_stamp (by omega)]
    exact stampOf_u (by omega)
  · refine hR' w5 F' (storeAt_cells_eq hS5 ?_) hD5 (((E3.mono (fun x hx _ => by simp at hx; simp [hx])).trans he4.nil).trans' he5 (fun x hx hlt => ?_)) (fun x hx => ?_)
    · have key := (put_rec_any (d := d) (y := yDel D slot.toNat) hG hs6 (mkStr_size _ _)).1
      have hl : byteAt (yDel D slot.toNat) 63 = ((nextU (ubyte (blk D (8 + slot.toNat)) 63)).toNat : Int) := stampF_last
      have h1 : recOk (yDel D slot.toNat) = false := recOk_del
      have h2 : recOf (yDel D slot.toNat) = ⟨0, 0, estr⟩ := recOf_no h1
      rw [openR_write, key, hl, h1, h2]
    · simp only [List.mem_cons] at hx ⊢
      rcases hx with e | e | e
      · exact .inl e
      · omega
      · exact .inr e
    · rcases hg5 x hx with q | q
      · exact .inl q
      · exact .inr (by omega)
end

/-! ### the disk's After -/
def hput (I : List ByteArray) (e : Int × Int × ByteArray) : List ByteArray :=
  I.set e.1.toNat (if e.2.1 = 0 then e.2.2 ++ (I.getD e.1.toNat zblock).extract 32 (I.getD e.1.toNat zblock).size else (I.getD e.1.toNat zblock).extract 0 32 ++ e.2.2)
def cutI (D : DiskS) (k : Nat) : List ByteArray := (D.log.take k).foldl hput D.mark
/-- The log names blocks that exist, and halves of 32 bytes. -/
def LogWf (D : DiskS) : Prop := ∀ e ∈ D.log, 0 ≤ e.1 ∧ e.1 < 14 ∧ (e.2.1 = 0 ∨ e.2.1 = 1) ∧ e.2.2.size = 32
def ImgWf (I : List ByteArray) : Prop := I.length = 14 ∧ ∀ i, i < 14 → (I.getD i zblock).size = 64
theorem hput_wf {I : List ByteArray} {e : Int × Int × ByteArray} (h : ImgWf I) (he : 0 ≤ e.1 ∧ e.1 < 14 ∧ (e.2.1 = 0 ∨ e.2.1 = 1) ∧ e.2.2.size = 32) : ImgWf (hput I e) := by
  obtain ⟨h1, h2⟩ := h
  refine ⟨by unfold hput; rw [List.length_set]; exact h1, fun i hi => ?_⟩
  unfold hput
  simp only [List.getD]
  rw [List.getElem?_set]
  have hz := h2 e.1.toNat (by omega)
  by_cases c : e.1.toNat = i
  · rw [if_pos c, if_pos (by omega)]
    show (if e.2.1 = 0 then _ else _ : ByteArray).size = 64
    have hz' : ((I[e.1.toNat]?.getD zblock)).size = 64 := hz
    split
    · rw [size_append, size_extract (by omega) (by omega), hz', he.2.2.2]
    · rw [size_append, size_extract (by omega) (by omega), he.2.2.2]
  · rw [if_neg c]
    exact h2 i hi
theorem cutI_succ {D : DiskS} {k : Nat} {e : Int × Int × ByteArray} (h : D.log[k]? = some e) : cutI D (k + 1) = hput (cutI D k) e := by
  unfold cutI
  rw [List.take_add_one, h, List.foldl_append]
  rfl
theorem cutI_over {D : DiskS} {k : Nat} (h : D.log.length ≤ k) : cutI D k = cutI D D.log.length := by
  unfold cutI
  rw [List.take_of_length_le h, List.take_length]
theorem cutI_wf {D : DiskS} (hm : ImgWf D.mark) (hl : LogWf D) : ∀ k, ImgWf (cutI D k)
  | 0 => hm
  | k + 1 => by
    by_cases h : k < D.log.length
    · have hk : D.log[k]? = some D.log[k] := List.getElem?_eq_getElem h
      rw [cutI_succ hk]
      exact hput_wf (cutI_wf hm hl k) (hl _ (List.getElem_mem h))
    · rw [cutI_over (by omega), ← cutI_over (D := D) (k := k) (by omega)]
      exact cutI_wf hm hl k
theorem strV_put {I : List ByteArray} {i : Nat} {x : ByteArray} : putArr (strV I) i [Value.string x] = strV (I.set i x) := by
  simp only [putArr]
  rw [strV_set]
theorem diskAfter_ok {w : World} {d : Nat} {D : DiskS} {F : List Nat} {k : Int} (hD : DiskAt w d D F) (hm : ImgWf D.mark) (hl : LogWf D) (hL : D.log.length ≤ 1000) {R : Option Addr → World → Prop}
    (hR : ∀ n F' w', (∀ x ∈ F', w.heap.size ≤ x) → DiskAt w' n ⟨cutI D k.toNat, cutI D k.toNat, []⟩ F' → Ext [] w w' → R (some ⟨n, 0, none⟩) w') : diskm_Disk_After.Call (some ⟨d, 0, none⟩) k w R := by
  obtain ⟨nb, mb, rb, rl, rc, rfl, hne, hd, hn, hnl, hmk, hml, hr, hrl⟩ := hD
  apply diskm_Disk_After.sound
  unfold diskm_Disk_After.B0
  refine Pn.mk (LdL.cell (by rw [add_mk]; exact hd.cell rfl) (blocks_ok hmk hml (by omega) fun cb w1 hcb ho1 he1 => New.mk fun n w2 hn2 hs2 on2 he2 => ?_))
  have hz1 := he1.size
  have E2 : Ext [] w w2 := he1.trans he2
  unfold diskm_Disk_After.L1
  refine ⟨fun m d' k' n' j w' => some ⟨d, 0, none⟩ = d' ∧ k = k' ∧ n = n' ∧ 0 ≤ j ∧ j ≤ rl ∧ (j = 0 ∨ j ≤ k) ∧ m = (rl - j).toNat ∧ Ext [] w w' ∧ Own w' n #[.slice (some ⟨cb, 0, none⟩) 14 14, .slice none 0 0, .slice none 0 0] T_diskm_Disk ∧ Own w' cb (strV (cutI D j.toNat)) T_string, rl,
    ⟨rfl, rfl, rfl, by omega, by omega, .inl rfl, by omega, E2, on2, he2.own ho1 (by simp)⟩, ?_⟩
  rintro m d' k' n' j w' ⟨rfl, rfl, rfl, j0, j1, jk, rfl, hE, on', ocb⟩
  unfold diskm_Disk_After.L1b
  have hd' := hE.own hd (by simp)
  have hr' := hr.ext hE (fun _ _ h => by cases h)
  have hwfj := cutI_wf hm hl j.toNat
  have hcn : cb ≠ n := Own.ne_type ocb on' (by decide)
  have hzE := hE.size
  -- the end
  have fin : ∀ tt, tt = false → cutI D j.toNat = cutI D k.toNat → diskm_Disk_After.B1 (some ⟨d, 0, none⟩) k n j tt w' (fun d' k' n' j' w'' => ∃ m', m' < (rl - j).toNat ∧ some ⟨d, 0, none⟩ = d' ∧ k = k' ∧ n = n' ∧ 0 ≤ j' ∧ j' ≤ rl ∧ (j' = 0 ∨ j' ≤ k) ∧ m' = (rl - j').toNat ∧ Ext [] w w'' ∧ Own w'' n #[.slice (some ⟨cb, 0, none⟩) 14 14, .slice none 0 0, .slice none 0 0] T_diskm_Disk ∧ Own w'' cb (strV (cutI D j'.toNat)) T_string) R := by
    intro tt htt hcut
    unfold diskm_Disk_After.B1
    refine Bm.neg htt (LdL.mk on' rfl (blocks_ok ocb hwfj.1 (by omega) fun cb2 w5 hcb2 ho5 he5 => ?_))
    have on5 := he5.own on' (by simp)
    have ocb5 := he5.own ocb (by simp)
    refine Sts.mk on5 (by simp) rfl fun w6 hs6 on6 he6 => ?_
    have hcbl := ocb.lt
    have hnl' := on'.lt
    refine hR n [n, cb, cb2] w6 (fun x hx => by simp at hx; omega) ⟨cb, cb2, none, 0, 0, rfl, by omega, on6, ?_, by rw [← hcut]; exact hwfj.1, ?_, by rw [← hcut]; exact hwfj.1, Row.nil _ _ _, rfl⟩ ((hE.trans he5).trans' he6 (fun x hx hlt => by simp at hx; omega))
    · rw [← hcut]
      exact he6.own ocb5 (by simp; omega)
    · rw [← hcut]
      exact he6.own ho5 (by simp; omega)
  refine Pn.mk (LdL.cell (by rw [add_mk]; exact hd'.cell rfl) (Bm.ite (fun hj => ?_) (fun hj => fin false rfl ?_)))
  · by_cases hjk : j < k
    · rw [decide_eq_true hjk]
      unfold diskm_Disk_After.B1
      have hjl : j.toNat < D.log.length := by omega
      have hlj : D.log[j.toNat]? = some D.log[j.toNat] := List.getElem?_eq_getElem hjl
      have hew := hl _ (List.getElem_mem hjl)
      have hcs := cutI_succ hlj
      generalize D.log[j.toNat] = e at hlj hew hcs
      obtain ⟨eb, eh, ex⟩ := e
      simp only at hew
      obtain ⟨rk, rfl, cs, hok, hc⟩ := hr'.at (i := j.toNat) (by omega) (by omega)
      have hg : ∀ f, f < 3 → cs[j.toNat * 3 + f]? = (halfV (eb, eh, ex))[f]? := fun f hf => by
        rw [hc f hf]
        exact flat_get (n := 3) (fun a => by obtain ⟨a, b, c⟩ := a; rfl) hlj hf
      have hz := hwfj.2 eb.toNat (by omega)
      refine Bm.pos rfl (Pn.mk (LdL.cell (by rw [add_mk]; exact hd'.cell rfl) (Pn.mk ⟨⟨j0, by omega⟩, LdI.cell (n := eb) (by rw [add_mk, Nat.zero_add]; exact hok.cell (hg 0 (by omega))) (LdI.cell (n := eh) (by rw [add_mk, add_mk, Nat.zero_add]; exact hok.cell (hg 1 (by omega))) (LdS.cell (n := ex) (by rw [add_mk, add_mk, Nat.zero_add]; exact hok.cell (hg 2 (by omega))) (NewSet.mk rfl rfl fun r w3 hr3 hs3 or3 he3 => LdI.mk or3 rfl ?_)))⟩)))
      have on3 := (he3.own on' (by simp)).drew
      have oc3 := (he3.own ocb (by simp)).drew
      have or3d := or3.drew
      have E3 : Ext [] w w3.drew := (hE.trans he3).trans (Ext.drew [] w3)
      have hcget : (strV (cutI D j.toNat))[eb.toNat]? = some (.string ((cutI D j.toNat).getD eb.toNat zblock)) := strV_get (by have := hwfj.1; omega)
      generalize hold : (cutI D j.toNat).getD eb.toNat zblock = old at hz hcget
      have nxt : ∀ w4 y, w4.heap.size = w3.drew.heap.size → Own w4 cb (putArr (strV (cutI D j.toNat)) eb.toNat [Value.string y]) T_string → Ext [cb] w3.drew w4 → (cutI D j.toNat).set eb.toNat y = hput (cutI D j.toNat) (eb, eh, ex) → diskm_Disk_After.B2 (some ⟨d, 0, none⟩) k n j w4 (fun d' k' n' j' w'' => ∃ m', m' < (rl - j).toNat ∧ some ⟨d, 0, none⟩ = d' ∧ k = k' ∧ n = n' ∧ 0 ≤ j' ∧ j' ≤ rl ∧ (j' = 0 ∨ j' ≤ k) ∧ m' = (rl - j').toNat ∧ Ext [] w w'' ∧ Own w'' n #[.slice (some ⟨cb, 0, none⟩) 14 14, .slice none 0 0, .slice none 0 0] T_diskm_Disk ∧ Own w'' cb (strV (cutI D j'.toNat)) T_string) R := by
        intro w4 y hs4 oc4 he4 hy
        unfold diskm_Disk_After.B2
        rw [w64 (by omega) (by omega)]
        refine ⟨(rl - (j + 1)).toNat, by omega, rfl, rfl, rfl, by omega, by omega, .inr (by omega), rfl, E3.trans' he4 (fun x hx hlt => by simp at hx; omega), he4.own on3 (by simp; omega), ?_⟩
        rw [show (j + 1).toNat = j.toNat + 1 by omega, hcs, ← hy, ← strV_put]
        exact oc4
      have b14 : 0 ≤ eb ∧ eb < ((14 : Nat) : Int) := by omega
      refine Bm.mk (fun h0 => ?_) (fun h0 => ?_)
      · have h0' : eh = 0 := by simpa using h0
        refine LdL.mk on3 rfl (LdI.mk or3d rfl (LdS.mk or3d rfl (LdL.mk on3 rfl (LdI.mk or3d rfl (Pn.mk ⟨b14, LdS.cell (n := old) (by rw [add_mk, Nat.zero_add, Nat.mul_one]; exact oc3.cell hcget) ⟨⟨by omega, by omega⟩, ?_, Pn.mk ⟨b14, ?_⟩⟩⟩)))))
        · have hsz : (old.extract (32 : Int).toNat ((old.size : Nat) : Int).toNat).size = 32 := by
            rw [Int.toNat_natCast]
            have : (32 : Int).toNat = 32 := rfl
            rw [this, size_extract (by omega) (by omega)]
            omega
          rw [hsz]
          omega
        · rw [add_mk, Nat.zero_add, Nat.mul_one]
          refine Sts.mk oc3 (by rw [strV_size, hwfj.1]; simp; omega) rfl fun w4 hs4 oc4 he4 => nxt w4 _ hs4 oc4 he4 ?_
          unfold hput
          simp only
          rw [if_pos h0', hold, Int.toNat_natCast]
          rfl
      · have h0' : eh ≠ 0 := by simpa using h0
        refine LdL.mk on3 rfl (LdI.mk or3d rfl (LdL.mk on3 rfl (LdI.mk or3d rfl (Pn.mk ⟨b14, LdS.cell (n := old) (by rw [add_mk, Nat.zero_add, Nat.mul_one]; exact oc3.cell hcget) ⟨⟨by omega, by omega⟩, LdS.mk or3d rfl ⟨?_, Pn.mk ⟨b14, ?_⟩⟩⟩⟩))))
        · have hsz : (old.extract ((0 : Nat) : Int).toNat (32 : Int).toNat).size = 32 := by
            have : (32 : Int).toNat = 32 := rfl
            rw [this, Int.toNat_natCast, size_extract (by omega) (by omega)]
          rw [hsz]
          omega
        · rw [add_mk, Nat.zero_add, Nat.mul_one]
          refine Sts.mk oc3 (by rw [strV_size, hwfj.1]; simp; omega) rfl fun w4 hs4 oc4 he4 => nxt w4 _ hs4 oc4 he4 ?_
          unfold hput
          simp only
          rw [if_neg h0', hold]
          rfl
    · rw [decide_eq_false hjk]
      refine fin false rfl ?_
      congr 1
      omega
  · have : j.toNat = D.log.length := by omega
    rw [this]
    rcases jk with q | q
    · have h0 : D.log.length = 0 := by omega
      exact (cutI_over (by omega)).symm
    · exact (cutI_over (by omega)).symm
end Go.Proofs.Qxb6500430aGreat
