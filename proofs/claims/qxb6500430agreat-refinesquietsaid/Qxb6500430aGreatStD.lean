/-
  store: the encoders and the writing calls, walked.
-/
import Derived.Test.Qxb6500430aGreatStC
set_option linter.unusedVariables false
set_option linter.unusedSimpArgs false
open Go.Vc
namespace Go.Proofs.Qxb6500430aGreat

section
variable {w : World}
theorem encMeta_ok {ok : Bool} {num term vote : Int} {R : Option Addr → Nat → Nat → World → Prop} (hv : -1 ≤ vote ∧ vote < 3) (hR : ∀ k w', w.heap.size ≤ k → Blk w' k (encMetaF num term vote) → Ext [] w w' → R (some ⟨k, 0, none⟩) 64 64 w') : store_encMeta.Call ok num term vote w R := by
  apply store_encMeta.sound
  unfold store_encMeta.B0
  refine New.mk fun m w1 hm hs1 om he1 => blk_make fun k w2 hk hs2 hb2 he2 => LdI.mk (he2.own om (by simp)) rfl (put8_ok (p := 1) hb2 (by omega) fun w3 hs3 hb3 he3 => ?_)
  have om3 := he3.own (he2.own om (by simp)) (by simp; omega)
  refine LdI.mk om3 rfl (put8_ok (p := 9) hb3 (by omega) fun w4 hs4 hb4 he4 => LdI.mk (he4.own om3 (by simp; omega)) rfl (Pn.mk ⟨⟨by omega, by omega⟩, ?_⟩))
  rw [add_mk, Nat.zero_add, w64 (by omega) (by omega)]
  refine hb4.set (by omega) (w8_ofI _) fun w5 hs5 hb5 he5 => hR k w5 (by omega) hb5 ?_
  exact (he1.trans he2).trans' ((he3.trans he4).trans he5) (fun x hx hlt => by simp at hx; omega)
theorem encHead_ok {ok : Bool} {num idx term area size : Int} {R : Option Addr → Nat → Nat → World → Prop} (hR : ∀ k w', w.heap.size ≤ k → Blk w' k (encHeadF num idx term area size) → Ext [] w w' → R (some ⟨k, 0, none⟩) 64 64 w') : store_encHead.Call ok num idx term area size w R := by
  apply store_encHead.sound
  unfold store_encHead.B0
  refine New.mk fun m w1 hm hs1 om he1 => blk_make fun k w2 hk hs2 hb2 he2 => LdI.mk (he2.own om (by simp)) rfl (put8_ok (p := 1) hb2 (by omega) fun w3 hs3 hb3 he3 => ?_)
  have om3 := he3.own (he2.own om (by simp)) (by simp; omega)
  refine LdI.mk om3 rfl (put8_ok (p := 9) hb3 (by omega) fun w4 hs4 hb4 he4 => ?_)
  have om4 := he4.own om3 (by simp; omega)
  refine LdI.mk om4 rfl (put8_ok (p := 32) hb4 (by omega) fun w5 hs5 hb5 he5 => ?_)
  have om5 := he5.own om4 (by simp; omega)
  refine LdI.mk om5 rfl (Pn.mk ⟨⟨by omega, by omega⟩, ?_⟩)
  rw [add_mk, Nat.zero_add]
  refine hb5.set (by omega) (w8_ofI _) fun w6 hs6 hb6 he6 => LdI.mk (he6.own om5 (by simp; omega)) rfl (Pn.mk ⟨⟨by omega, by omega⟩, ?_⟩)
  rw [add_mk, Nat.zero_add]
  refine hb6.set (by omega) (w8_ofI _) fun w7 hs7 hb7 he7 => hR k w7 (by omega) hb7 ?_
  exact (he1.trans he2).trans' ((((he3.trans he4).trans he5).trans he6).trans he7) (fun x hx hlt => by simp at hx; omega)
theorem dataF_step {g : Nat → UInt8} {d : ByteArray} {i : Nat} : setB (dataF g d i) (11 + i) (ubyte d i) = dataF g d (i + 1) := by
  funext j
  unfold setB dataF
  by_cases e : j = 11 + i
  · subst e
    rw [if_pos rfl, if_pos (by omega), show 11 + i - 11 = i by omega]
  · rw [if_neg e]
    by_cases c : 11 ≤ j ∧ j < 11 + i
    · rw [if_pos c, if_pos (by omega)]
    · rw [if_neg c, if_neg (by omega)]
theorem encRec_ok {idx term : Int} {d : ByteArray} {R : Option Addr → Nat → Nat → World → Prop} (hd : d.size ≤ 24) (hR : ∀ k w', w.heap.size ≤ k → Blk w' k (encRecF idx term d) → Ext [] w w' → R (some ⟨k, 0, none⟩) 64 64 w') : store_encRec.Call idx term d w R := by
  apply store_encRec.sound
  unfold store_encRec.B0
  refine New.mk fun m w1 hm hs1 om he1 => blk_make fun k w2 hk hs2 hb2 he2 => ⟨⟨by omega, by omega⟩, hb2.set (u := 1) (by omega) rfl fun w3 hs3 hb3 he3 => ?_⟩
  have om3 := he3.own (he2.own om (by simp)) (by simp; omega)
  refine LdI.mk om3 rfl (put8_ok (p := 2) hb3 (by omega) fun w4 hs4 hb4 he4 => ?_)
  have om4 := he4.own om3 (by simp; omega)
  refine LdS.mk om4 rfl (Pn.mk ⟨⟨by omega, by omega⟩, ?_⟩)
  rw [add_mk, Nat.zero_add]
  refine hb4.set (by omega) (w8_ofI _) fun w5 hs5 hb5 he5 => ?_
  have om5 := he5.own om4 (by simp; omega)
  have E5 : Ext [] w w5 := (he1.trans he2).trans' ((he3.trans he4).trans he5) (fun x hx hlt => by simp at hx; omega)
  unfold store_encRec.L1
  refine ⟨fun mm m' b' l' c' i w' => m = m' ∧ some ⟨k, 0, none⟩ = b' ∧ 64 = l' ∧ 64 = c' ∧ 0 ≤ i ∧ i ≤ d.size ∧ mm = (d.size - i).toNat ∧ Ext [] w w' ∧ Own w' m #[.int .i64 idx, .int .i64 term, .string d] T_api_Rec ∧ Blk w' k (dataF (setB (put8F (setB zeroF 1 1) 2 idx) 10 (ofI (d.size : Int))) d i.toNat), d.size,
    ⟨rfl, rfl, rfl, rfl, by omega, by omega, by omega, E5, om5, ?_⟩, ?_⟩
  · have e : dataF (setB (put8F (setB zeroF 1 1) 2 idx) 10 (ofI (d.size : Int))) d (0 : Int).toNat = setB (put8F (setB zeroF 1 1) 2 idx) 10 (ofI (d.size : Int)) := by
      funext j
      unfold dataF
      rw [if_neg (by simp)]
    rw [e]
    exact hb5
  rintro mm m' b' l' c' i w' ⟨rfl, rfl, rfl, rfl, i0, i1, rfl, hE, om', hb'⟩
  unfold store_encRec.L1b
  have last : ∀ tt, tt = false → i = d.size → store_encRec.B1 m (some ⟨k, 0, none⟩) 64 64 i tt w' (fun m' b' l' c' i' w'' => ∃ m1, m1 < (d.size - i).toNat ∧ m = m' ∧ some ⟨k, 0, none⟩ = b' ∧ 64 = l' ∧ 64 = c' ∧ 0 ≤ i' ∧ i' ≤ d.size ∧ m1 = (d.size - i').toNat ∧ Ext [] w w'' ∧ Own w'' m #[.int .i64 idx, .int .i64 term, .string d] T_api_Rec ∧ Blk w'' k (dataF (setB (put8F (setB zeroF 1 1) 2 idx) 10 (ofI (d.size : Int))) d i'.toNat)) R := by
    intro tt htt hi
    unfold store_encRec.B1
    refine Bm.neg htt (LdI.mk om' rfl (put8_ok (p := 35) hb' (by omega) fun w6 hs6 hb6 he6 => hR k w6 (by omega) ?_ (hE.trans' he6 (fun x hx hlt => by simp at hx; omega))))
    rw [hi, Int.toNat_natCast] at hb6
    exact hb6
  refine LdS.mk om' rfl (Bm.ite (fun hi => ?_) (fun hi => last false rfl (by omega)))
  rw [decide_eq_true (by omega)]
  unfold store_encRec.B1
  refine Bm.pos rfl (LdS.mk om' rfl ⟨⟨i0, hi⟩, Pn.mk ⟨⟨by rw [w64 (by omega) (by omega)]; omega, by rw [w64 (by omega) (by omega)]; omega⟩, ?_⟩⟩)
  rw [w64 (x := 11 + i) (by omega) (by omega), add_mk, Nat.zero_add, Nat.mul_one, show (11 + i).toNat = 11 + i.toNat by omega]
  refine hb'.set (u := ubyte d i.toNat) (by omega) (by rw [byteAt_ubyte]) fun w6 hs6 hb6 he6 => ?_
  rw [w64 (by omega) (by omega)]
  refine ⟨(d.size - (i + 1)).toNat, by omega, rfl, rfl, rfl, rfl, by omega, by omega, rfl, hE.trans' he6 (fun x hx hlt => by simp at hx; omega), he6.own om' (by simp; omega), ?_⟩
  rw [dataF_step] at hb6
  rw [show (i + 1).toNat = i.toNat + 1 by omega]
  exact hb6
def chunkF (d : ByteArray) (k : Nat) : Nat → UInt8 := fun j => if k * 64 + j < d.size then ubyte d (k * 64 + j) else 0
theorem chunk_ok {d : ByteArray} {k : Nat} {R : ByteArray → World → Prop} (hk : k ≤ 4) (hd : d.size ≤ 140737488351232) (hR : ∀ w', Ext [] w w' → R (mkStr 64 (chunkF d k)) w') : store_chunk.Call d (k : Int) w R := by
  apply store_chunk.sound
  unfold store_chunk.B0
  refine blk_make fun b w1 hb hs1 hb1 he1 => ?_
  unfold store_chunk.L1
  refine ⟨fun m d' k' b' l' c' i w' => d = d' ∧ (k : Int) = k' ∧ some ⟨b, 0, none⟩ = b' ∧ 64 = l' ∧ 64 = c' ∧ 0 ≤ i ∧ i ≤ 64 ∧ m = (64 - i).toNat ∧ Ext [] w w' ∧ Blk w' b (fun j => if j < i.toNat then chunkF d k j else 0), 64,
    ⟨rfl, rfl, rfl, rfl, rfl, by omega, by omega, rfl, he1, by simpa using hb1⟩, ?_⟩
  rintro m d' k' b' l' c' i w' ⟨rfl, rfl, rfl, rfl, rfl, i0, i1, rfl, hE, hb'⟩
  unfold store_chunk.L1b
  have e1 : IntKind.i64.wrap (IntKind.i64.wrap ((k : Int) * 64) + i) = ((k * 64 + i.toNat : Nat) : Int) := by
    rw [w64 (x := (k : Int) * 64) (by omega) (by omega), w64 (by omega) (by omega)]
    omega
  rw [e1]
  have last : ∀ tt, tt = false → (i = 64 ∨ d.size ≤ k * 64 + i.toNat) → store_chunk.B1 d (k : Int) (some ⟨b, 0, none⟩) 64 64 i tt w' (fun d' k' b' l' c' i' w'' => ∃ m', m' < (64 - i).toNat ∧ d = d' ∧ (k : Int) = k' ∧ some ⟨b, 0, none⟩ = b' ∧ 64 = l' ∧ 64 = c' ∧ 0 ≤ i' ∧ i' ≤ 64 ∧ m' = (64 - i').toNat ∧ Ext [] w w'' ∧ Blk w'' b (fun j => if j < i'.toNat then chunkF d k j else 0)) R := by
    intro tt htt hi
    unfold store_chunk.B1
    refine Bm.neg htt (hb'.str ?_)
    have e : mkStr 64 (fun j => if j < i.toNat then chunkF d k j else 0) = mkStr 64 (chunkF d k) := mkStr_congr fun j hj => by
      by_cases c : j < i.toNat
      · rw [if_pos c]
      · rw [if_neg c]
        unfold chunkF
        rw [if_neg (by omega)]
    rw [e]
    exact hR w' hE
  refine Bm.ite (fun hi => ?_) (fun hi => last false rfl (.inl (by omega)))
  by_cases hlt : ((k * 64 + i.toNat : Nat) : Int) < ((d.size : Nat) : Int)
  · rw [decide_eq_true hlt]
    unfold store_chunk.B1
    rw [e1]
    refine Bm.pos rfl ⟨⟨by omega, hlt⟩, Pn.mk ⟨⟨i0, by omega⟩, ?_⟩⟩
    rw [add_mk, Nat.zero_add, Nat.mul_one]
    refine hb'.set (u := chunkF d k i.toNat) (by omega) ?_ fun w2 hs2 hb2 he2 => ?_
    · rw [byteAt_ubyte, Int.toNat_natCast]
      unfold chunkF
      rw [if_pos (by omega)]
    · rw [w64 (by omega) (by omega)]
      refine ⟨(64 - (i + 1)).toNat, by omega, rfl, rfl, rfl, rfl, rfl, by omega, by omega, rfl, hE.trans' he2 (fun x hx hl => by simp at hx; omega), ?_⟩
      have e : setB (fun j => if j < i.toNat then chunkF d k j else 0) i.toNat (chunkF d k i.toNat) = fun j => if j < (i + 1).toNat then chunkF d k j else 0 := by
        funext j
        unfold setB
        rw [show (i + 1).toNat = i.toNat + 1 by omega]
        by_cases c : j = i.toNat
        · subst c
          rw [if_pos rfl, if_pos (by omega)]
        · rw [if_neg c]
          show (if j < i.toNat then chunkF d k j else 0) = _
          by_cases c2 : j < i.toNat
          · rw [if_pos c2, if_pos (by omega)]
          · rw [if_neg c2, if_neg (by omega)]
      rw [e] at hb2
      exact hb2
  · rw [decide_eq_false hlt]
    exact last false rfl (.inr (by omega))

/-! ### a stamped write -/
def nextU (o : UInt8) : UInt8 := ofI ((o.toNat : Int) % 255 + 1)
theorem nextU_val (o : UInt8) : ((nextU o).toNat : Int) = (o.toNat : Int) % 255 + 1 := by
  unfold nextU
  rw [ofI_val]
  have := o.toNat_lt
  omega
theorem nextU_ne0 (o : UInt8) : nextU o ≠ 0 := fun e => by
  have := nextU_val o
  rw [e] at this
  have h0 : ((0 : UInt8).toNat : Int) = 0 := rfl
  rw [h0] at this
  omega
theorem nextU_ne (o : UInt8) : nextU o ≠ o := fun e => by
  have := nextU_val o
  rw [e] at this
  have := o.toNat_lt
  omega
theorem next_ok {o : UInt8} {R : Int → World → Prop} (hR : R ((nextU o).toNat : Int) w) : store_next.Call (o.toNat : Int) w R := by
  apply store_next.sound
  unfold store_next.B0
  refine ⟨by decide, ?_⟩
  have := o.toNat_lt
  rw [w64 (x := (o.toNat : Int)) (by omega) (by omega), Int.tmod_eq_emod_of_nonneg (by omega), w64 (by omega) (by omega), wrap8_id (by omega) (by omega), ← nextU_val]
  exact hR
theorem write_ok {t d k b : Nat} {S : StoreS} {D : DiskS} {F : List Nat} {g : Nat → UInt8} {o : UInt8} {R : World → Prop} (hS : StoreAt w t S) (hd : S.d = d) (hD : DiskAt w d D F) (htF : t ∉ F) (hL : D.log.length ≤ 1000) (hk : Blk w k g) (hkF : k ∉ F) (hb : b < 14) (ho : S.stamp b = (o.toNat : Int))
    (hR : ∀ w' F', StoreAt w' t { S with stamp := upd S.stamp b ((nextU o).toNat : Int) } → DiskAt w' d (D.write (b : Int) (mkStr 64 (stampF g (nextU o)))) F' → Ext (t :: k :: F) w w' → Grew w F F' → R w') : store_Store_write.Call (some ⟨t, 0, none⟩) (b : Int) (some ⟨k, 0, none⟩) 64 64 w R := by
  subst hd
  apply store_Store_write.sound
  unfold store_Store_write.B0
  have hkt : k ≠ t := Own.ne_type hk hS (by decide)
  simp only [Int.toNat_natCast]
  refine Pn.mk ⟨⟨by omega, by omega⟩, ?_⟩
  rw [add_mk, add_mk, Nat.zero_add, Nat.mul_one]
  refine LdI.fn (Own.drew hS) (by omega) (cell_stamp S hb) (Pn.mk ?_)
  rw [ho]
  refine next_ok ⟨⟨by omega, by omega⟩, ?_⟩
  rw [add_mk, add_mk, Nat.zero_add]
  refine Sts.fn (Own.drew hS) (by simp; omega) rfl (put_stamp S hb _) fun w2 hs2 hS2 he2 => Pn.mk ⟨⟨by omega, by omega⟩, ?_⟩
  rw [add_mk, add_mk, Nat.zero_add]
  have hst : ({ S with stamp := upd S.stamp b ((nextU o).toNat : Int) } : StoreS).stamp b = ((nextU o).toNat : Int) := upd_eq _ _ _
  have hc := cell_stamp { S with stamp := upd S.stamp b ((nextU o).toNat : Int) } hb
  rw [hst] at hc
  refine LdI.fn (Own.drew hS2) (by omega) hc (Pn.mk ⟨⟨by omega, by omega⟩, ?_⟩)
  rw [add_mk, add_mk, Nat.zero_add]
  have hk2 : Blk w2.drew k g := (hk.drew.ext he2 (by simpa using hkt)).drew
  refine LdI.fn (Own.drew hS2) (by omega) hc (Pn.mk ⟨⟨by omega, by omega⟩, hk2.set (i := 0) (by omega) rfl fun w3 hs3 hk3 he3 => Pn.mk ⟨⟨by omega, by omega⟩, ?_⟩⟩)
  rw [add_mk, Nat.zero_add]
  refine hk3.set (i := 63) (by omega) rfl fun w4 hs4 hk4 he4 => Pn.mk ?_
  have he34 : Ext [k] w2 w4.drew := ((Ext.drew [k] w2).trans (he3.trans he4)).trans (Ext.drew [k] w4)
  have hS4 : StoreAt w4.drew t { S with stamp := upd S.stamp b ((nextU o).toNat : Int) } := he34.own hS2 (by simp; omega)
  have E4 : Ext [t, k] w w4.drew := ((Ext.drew [t, k] w).trans (he2.mono (fun x hx _ => by simp at hx; simp [hx]))).trans (he34.mono (fun x hx _ => by simp at hx; simp [hx]))
  have hD4 : DiskAt w4.drew S.d D F := hD.ext E4 (fun x hx hx2 => by
    simp at hx2
    rcases hx2 with e | e
    · exact htF (e ▸ hx)
    · exact hkF (e ▸ hx))
  refine LdP.fn hS4 (by omega) (cell_d _) (hk4.drew.str ⟨hS4.cell (fnArr_get _ (by omega)), ?_⟩)
  have est : mkStr 64 (setB (setB g 0 (nextU o)) 63 (nextU o)) = mkStr 64 (stampF g (nextU o)) := mkStr_congr fun j hj => by
    unfold setB stampF
    by_cases c1 : j = 63
    · rw [if_pos c1, if_pos (.inr c1)]
    · rw [if_neg c1]
      by_cases c2 : j = 0
      · simp [c2]
      · simp [c1, c2]
  rw [est]
  refine diskWrite_ok hD4 (by omega) (by omega) (by omega) (mkStr_size _ _) fun w5 F' hD5 he5 hg5 => ?_
  have hz4 := E4.size
  refine hR w5 F' (he5.own hS4 htF) hD5 ((E4.mono (fun x hx _ => by simp at hx; rcases hx with e | e <;> simp [e])).trans (he5.mono (fun x hx _ => by simp [hx]))) (fun x hx => ?_)
  rcases hg5 x hx with q | q
  · exact .inl q
  · exact .inr (by omega)
end
end Go.Proofs.Qxb6500430aGreat
