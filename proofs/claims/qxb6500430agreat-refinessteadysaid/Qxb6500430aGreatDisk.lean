/-
  The disk (package diskm): its plain state, how it lies in memory, and its functions' contracts.
-/
import Derived.Test.Qxb6500430aGreatFs
import Derived.Test.Qxb6500430aGreatVcE
set_option linter.unusedVariables false
open Go.Vc
namespace Go.Proofs.Qxb6500430aGreat

/-! ### The plain state -/
def zbytes (n : Nat) : ByteArray := ⟨Array.replicate n 0⟩
def zblock : ByteArray := zbytes 64
theorem zbytes_size (n : Nat) : (zbytes n).size = n := by simp [zbytes, ByteArray.size]
theorem zbytes_get (n j : Nat) : (zbytes n).data.toList.getD j 0 = 0 := by
  simp only [zbytes, Array.toList_replicate, List.getD_eq_getElem?_getD, List.getElem?_replicate]
  split <;> rfl
def estr : ByteArray := ByteArray.mk #[]

structure DiskS where
  now : List ByteArray
  mark : List ByteArray
  log : List (Int × Int × ByteArray)
def strV (ss : List ByteArray) : Array Value := (ss.map Value.string).toArray
def halfV : Int × Int × ByteArray → List Value
  | (b, h, d) => [.int .i64 b, .int .i64 h, .string d]
def recV (rs : List (Int × Int × ByteArray)) : List Value := rs.flatMap halfV
theorem recV_length (rs : List (Int × Int × ByteArray)) : (recV rs).length = rs.length * 3 := by
  induction rs with
  | nil => rfl
  | cons r rs ih =>
    obtain ⟨b, h, d⟩ := r
    simp only [recV, List.flatMap_cons, List.length_append, List.length_cons] at ih ⊢
    rw [ih]; simp [halfV]; omega
theorem strV_size (ss : List ByteArray) : (strV ss).size = ss.length := by simp [strV]
theorem strV_get {ss : List ByteArray} {i : Nat} (h : i < ss.length) : (strV ss)[i]? = some (.string (ss.getD i zblock)) := by simp [strV, h]
theorem strV_one (ss : List ByteArray) : (ss.map Value.string).all Value.oneCell' = true := by
  induction ss with
  | nil => rfl
  | cons s ss ih => simp [Value.oneCell']
theorem strV_set (ss : List ByteArray) (i : Nat) (x : ByteArray) : (strV ss).setIfInBounds i (.string x) = strV (ss.set i x) := by
  apply Array.ext'; simp [strV, List.map_set]

/-- How a disk lies in memory; F: the blocks that are its own. -/
def DiskAt (w : World) (d : Nat) (D : DiskS) (F : List Nat) : Prop :=
  ∃ nb mb rb rl rc, F = d :: nb :: mb :: rowBlk rb ∧ nb ≠ mb ∧
    Own w d #[.slice (some ⟨nb, 0, none⟩) 14 14, .slice (some ⟨mb, 0, none⟩) 14 14, .slice rb rl rc] T_diskm_Disk ∧
    Own w nb (strV D.now) T_string ∧ D.now.length = 14 ∧ Own w mb (strV D.mark) T_string ∧ D.mark.length = 14 ∧
    Row w rb rl rc 3 T_diskm_half (recV D.log) ∧ rl = D.log.length
theorem DiskAt.lt {w : World} {d : Nat} {D : DiskS} {F : List Nat} (h : DiskAt w d D F) : ∀ k ∈ F, k < w.heap.size := by
  obtain ⟨nb, mb, rb, rl, rc, rfl, hne, hd, hn, hnl, hm, hml, hr, hrl⟩ := h
  intro k hk
  simp only [List.mem_cons] at hk
  rcases hk with rfl | rfl | rfl | hk
  · exact hd.lt
  · exact hn.lt
  · exact hm.lt
  · exact hr.lt k hk
theorem DiskAt.mem {w : World} {d : Nat} {D : DiskS} {F : List Nat} (h : DiskAt w d D F) : d ∈ F := by
  obtain ⟨nb, mb, rb, rl, rc, rfl, _⟩ := h; simp
theorem DiskAt.ext {w w' : World} {d : Nat} {D : DiskS} {F S : List Nat} (h : DiskAt w d D F) (he : Ext S w w') (hs : ∀ k ∈ F, k ∉ S) : DiskAt w' d D F := by
  obtain ⟨nb, mb, rb, rl, rc, rfl, hne, hd, hn, hnl, hm, hml, hr, hrl⟩ := h
  exact ⟨nb, mb, rb, rl, rc, rfl, hne, he.own hd (hs _ (by simp)), he.own hn (hs _ (by simp)), hnl, he.own hm (hs _ (by simp)), hml, hr.ext he (fun k hk => hs k (by simp [hk])), hrl⟩

/-! ### blocks -/
theorem blocks_ok {w : World} {b n : Nat} {ss : List ByteArray} (ho : Own w b (strV ss) T_string) (hn : ss.length = n) (hl : n ≤ 1000000) {R : Option Addr → Nat → Nat → World → Prop}
    (hR : ∀ r w', w.heap.size ≤ r → Own w' r (strV ss) T_string → Ext [] w w' → R (some ⟨r, 0, none⟩) n n w') : diskm_blocks.Call (some ⟨b, 0, none⟩) n n w R := by
  apply diskm_blocks.sound
  unfold diskm_blocks.B0
  refine Make.mk (by omega) (Int.le_refl _) (by omega) (by omega) fun r w1 hr hsz how hext => ?_
  have hbn := ho.lt
  have ho1 := hext.own ho (by simp)
  have hlen : (ss.map Value.string).length = n := by simp [hn]
  refine Copy.mk (news := ss.map Value.string) how (CellsAt.own ho1 fun j v hj => by simpa [strV] using hj) (by simp [hn]) (by simp [madeCells, hn]) (strV_one ss) fun w2 hs2 how2 hext2 => ?_
  have e1 : putArr (madeCells (Value.cells (.string (ByteArray.mk #[]))) ((n : Int).toNat * 1)) 0 (ss.map Value.string) = strV ss := by
    rw [putArr_full _ _ (by simp [madeCells, hn])]; rfl
  rw [e1] at how2
  rw [Int.toNat_natCast]
  refine hR r w2 (by omega) how2 (hext.trans' hext2 fun x hx hlt => ?_)
  simp at hx; omega

/-! ### New -/
theorem wrap64_id {n : Int} (h0 : -9223372036854775808 ≤ n) (h1 : n ≤ 9223372036854775807) : IntKind.i64.wrap n = n := by
  rw [IntKind.wrap_i64]; omega
def freshDisk : DiskS := ⟨List.replicate 14 zblock, List.replicate 14 zblock, []⟩
theorem diskNew_ok {w : World} {R : Option Addr → World → Prop} (hR : ∀ d F w', w.heap.size ≤ d → (∀ k ∈ F, w.heap.size ≤ k) → DiskAt w' d freshDisk F → Ext [] w w' → R (some ⟨d, 0, none⟩) w') : diskm_New.Call w R := by
  apply diskm_New.sound
  unfold diskm_New.B0
  refine Make.mk (by omega) (by omega) (by omega) (by omega) fun r1 w1 hr1 hs1 ho1 he1 => ?_
  rw [show (Value.cells (.int .u8 0)) = #[Value.int .u8 0] from rfl, madeCells_one] at ho1
  refine ToStr.mk (s := zblock) ho1 (zbytes_size 64) (fun j hj => ?_) ?_
  · rw [show zblock = zbytes 64 from rfl, zbytes_get, Array.getElem?_replicate, if_pos (by simp; omega)]; rfl
  refine Make.mk (by omega) (by omega) (by omega) (by omega) fun nb w2 hnb hs2 ho2 he2 => ?_
  refine New.mk fun d w3 hd hs3 ho3 he3 => ?_
  rw [show (Value.cells (.string (ByteArray.mk #[]))) = #[Value.string (ByteArray.mk #[])] from rfl, madeCells_one] at ho2
  have ho2' := he3.own ho2 (by simp)
  have hdn : d ≠ nb := by omega
  have e3 : Ext [] w w3 := (he1.trans he2).trans he3
  refine ⟨fun m z d' b w' => zblock = z ∧ d = d' ∧ 0 ≤ b ∧ b ≤ 14 ∧ m = (14 - b).toNat ∧ Ext [] w w' ∧ w3.heap.size ≤ w'.heap.size ∧
    Own w' d #[.slice (some ⟨nb, 0, none⟩) 14 14, .slice none 0 0, .slice none 0 0] T_diskm_Disk ∧
    Own w' nb (strV (List.replicate b.toNat zblock ++ List.replicate (14 - b.toNat) estr)) T_string, 14,
    ⟨rfl, rfl, by omega, by omega, rfl, e3, Nat.le_refl _, ho3, by have e : strV (List.replicate (0 : Int).toNat zblock ++ List.replicate (14 - (0 : Int).toNat) estr) = Array.replicate (Int.toNat 14 * 1) (Value.string (ByteArray.mk #[])) := rfl; rw [e]; exact ho2'⟩, ?_⟩
  rintro m z d' b w' ⟨rfl, rfl, hb0, hb1, rfl, hw', hsz, hod, hon⟩
  unfold diskm_New.L1b
  refine Bm.ite (fun hlt => ?_) (fun hge => ?_)
  · refine LdL.mk hod rfl (Pn.mk ⟨⟨hb0, by omega⟩, ?_⟩)
    rw [add_mk, Nat.zero_add, Nat.mul_one]
    refine Sts.mk hon (by simp [strV]; omega) rfl fun w4 hs4 ho4 he4 => ?_
    have hbn : b.toNat < 14 := by omega
    refine ⟨(14 - (b + 1)).toNat, by omega, rfl, rfl, ?_, ?_, ?_, ?_, ?_, ?_, ?_⟩
    · rw [wrap64_id (by omega) (by omega)]; omega
    · rw [wrap64_id (by omega) (by omega)]; omega
    · rw [wrap64_id (by omega) (by omega)]
    · exact hw'.trans' he4 fun x hx hl => by simp at hx; omega
    · omega
    · exact he4.own hod (by simp; omega)
    · rw [wrap64_id (by omega) (by omega)]
      have e4 : putArr (strV (List.replicate b.toNat zblock ++ List.replicate (14 - b.toNat) estr)) b.toNat [Value.string zblock] =
          strV (List.replicate (b + 1).toNat zblock ++ List.replicate (14 - (b + 1).toNat) estr) := by
        simp only [putArr]
        rw [strV_set]
        congr 1
        have h1 : (b + 1).toNat = b.toNat + 1 := by omega
        have h2 : 14 - b.toNat = (14 - (b.toNat + 1)) + 1 := by omega
        rw [h1, h2, List.replicate_succ, List.replicate_succ']
        rw [List.set_append_right _ _ (by simp)]
        simp
      rw [e4] at ho4; exact ho4
  · have hb : b = 14 := by omega
    subst hb
    have hon' : Own w' nb (strV (List.replicate 14 zblock)) T_string := by simpa using hon
    refine LdL.mk hod rfl ?_
    refine blocks_ok hon' (by simp) (by omega) fun mb w4 hmb ho4 he4 => ?_
    have hod4 := he4.own hod (by simp)
    have hon4 := he4.own hon' (by simp)
    refine Sts.mk hod4 (by simp) rfl fun w5 hs5 ho5 he5 => ?_
    have hnbw := hon'.lt
    have hdw := hod.lt
    refine hR d [d, nb, mb] w5 (by omega) ?_ ⟨nb, mb, none, 0, 0, rfl, by omega, ho5, he5.own hon4 (by simp; omega), by simp [freshDisk], he5.own ho4 (by simp; omega), by simp [freshDisk], Row.nil _ _ _, rfl⟩ ?_
    · intro k hk
      have := hw'.size
      simp at hk
      rcases hk with rfl | rfl | rfl <;> omega
    · exact (hw'.trans he4).trans' he5 fun x hx hl => by simp at hx; omega

/-! ### Read, Write, Mark, Steps -/
theorem diskRead_ok {w : World} {d : Nat} {D : DiskS} {F : List Nat} (hD : DiskAt w d D F) {b : Int} (h0 : 0 ≤ b) (h1 : b < 14) {R : ByteArray → Int → World → Prop} (hR : R (D.now.getD b.toNat zblock) 0 w) :
    diskm_Disk_Read.Call (some ⟨d, 0, none⟩) b w R := by
  obtain ⟨nb, mb, rb, rl, rc, rfl, hne, hd, hn, hnl, hm, hml, hr, hrl⟩ := hD
  apply diskm_Disk_Read.sound
  unfold diskm_Disk_Read.B0
  refine Bm.neg (by simp; omega) ?_
  unfold diskm_Disk_Read.B1
  refine Bm.neg (by simp; omega) (Pn.mk (LdL.mk hd rfl (Pn.mk ⟨⟨h0, by omega⟩, ?_⟩)))
  rw [add_mk, Nat.zero_add, Nat.mul_one]
  exact LdS.mk hn (strV_get (by omega)) hR
def DiskS.write (D : DiskS) (b : Int) (x : ByteArray) : DiskS :=
  { now := D.now.set b.toNat x, mark := D.mark, log := D.log ++ [(b, 0, x.extract 0 32), (b, 1, x.extract 32 x.size)] }
theorem recV_append (a b : List (Int × Int × ByteArray)) : recV (a ++ b) = recV a ++ recV b := by simp [recV]
theorem diskWrite_bad {w : World} {d : Option Addr} {b : Int} {x : ByteArray} (h : b < 0 ∨ 14 ≤ b ∨ x.size ≠ 64) {R : Int → World → Prop} (hR : R 1 w) : diskm_Disk_Write.Call d b x w R := by
  apply diskm_Disk_Write.sound
  unfold diskm_Disk_Write.B0
  refine Bm.ite (fun _ => ?_) (fun h1 => Bm.ite (fun _ => ?_) (fun h2 => ?_))
  · exact hR
  · exact hR
  · unfold diskm_Disk_Write.B1
    have hx : x.size ≠ 64 := by
      rcases h with h | h | h
      · omega
      · omega
      · exact h
    refine Bm.pos ?_ hR
    rw [bne_iff_ne]; omega
/-- One half appended to the disk's log. -/
theorem rowHalf {w : World} {rb : Option Addr} {rl rc : Nat} {L : List (Int × Int × ByteArray)} (hr : Row w rb rl rc 3 T_diskm_half (recV L)) (hl : rl = L.length) (hb : L.length ≤ 2000000) {b34 : Nat} {b h : Int} {x : ByteArray}
    (ho : Own w b34 #[.int .i64 b, .int .i64 h, .string x] T_diskm_half) {K : Option Addr → Nat → World → Prop}
    (hk : ∀ b' c' w', Row w' b' (rl + 1) c' 3 T_diskm_half (recV (L ++ [(b, h, x)])) → Ext (rowBlk rb) w w' → (∀ k ∈ rowBlk b', k ∈ rowBlk rb ∨ (w.heap.size ≤ k ∧ k < w'.heap.size)) → K b' c' w') :
    Append T_diskm_half (.agg #[.int .i64 (0 : Int), .int .i64 (0 : Int), .string (ByteArray.mk #[])]) 3 32 rb rl rc (some ⟨b34, 0, none⟩) 1 w K := by
  refine Vc.Append.mk (news := halfV (b, h, x)) hr (CellsAt.own ho fun j v hj => ?_) rfl rfl rfl (by omega) (by omega) fun b' c' w' h1 h2 h3 => hk b' c' w' ?_ h2 h3
  · rw [Nat.zero_add]; simpa [halfV] using hj
  · rw [recV_append]; exact h1
theorem diskWrite_ok {w : World} {d : Nat} {D : DiskS} {F : List Nat} (hD : DiskAt w d D F) (hL : D.log.length ≤ 1000000) {b : Int} {x : ByteArray} (h0 : 0 ≤ b) (h1 : b < 14) (hx : x.size = 64) {R : Int → World → Prop}
    (hR : ∀ w' F', DiskAt w' d (D.write b x) F' → Ext F w w' → Grew w F F' → R 0 w') : diskm_Disk_Write.Call (some ⟨d, 0, none⟩) b x w R := by
  obtain ⟨nb, mb, rb, rl, rc, rfl, hne, hd, hn, hnl, hm, hml, hr, hrl⟩ := hD
  have hdn : d ≠ nb := hd.ne_type hn (by decide)
  have hdm : d ≠ mb := hd.ne_type hm (by decide)
  have hrow : ∀ k ∈ rowBlk rb, k ≠ d ∧ k ≠ nb ∧ k ≠ mb := by
    intro k hk
    rcases hr.2.2 with ⟨rfl, _⟩ | ⟨k', cs, rfl, ho, _, _⟩
    · simp [rowBlk] at hk
    · simp [rowBlk] at hk; subst hk
      exact ⟨ho.ne_type hd (by decide), ho.ne_type hn (by decide), ho.ne_type hm (by decide)⟩
  apply diskm_Disk_Write.sound
  unfold diskm_Disk_Write.B0
  refine Bm.neg (by simp; omega) (Bm.neg (by simp; omega) ?_)
  unfold diskm_Disk_Write.B1
  refine Bm.neg (by simp [hx]) (Pn.mk (LdL.mk hd rfl (Pn.mk ⟨⟨h0, by omega⟩, ?_⟩)))
  rw [add_mk, Nat.zero_add, Nat.mul_one]
  refine Sts.mk hn (by simp [strV, hnl]; omega) rfl fun w1 hs1 hn1 he1 => Pn.mk ?_
  have hd1 := he1.own hd (by simp; omega)
  have hm1 := he1.own hm (by simp; omega)
  have hr1 := hr.ext he1 (fun k hk => by have := hrow k hk; simp; omega)
  rw [add_mk]
  refine LdL.mk hd1.drew rfl ⟨⟨by omega, by omega⟩, ?_⟩
  refine New.mk fun b34 w2 hb34 hs2 ho34 he2 => ?_
  have e2 : Ext [] w1 w2 := (Ext.drew [] w1).trans he2
  have hd2 := e2.own hd1 (by simp)
  refine ⟨hd2.cell rfl, ?_⟩
  refine rowHalf (hr1.ext e2 (by simp)) hrl (by omega) ho34 fun b35 c35 w3 hr3 he3 hb35 => Pn.mk ?_
  have hdlt := hd.lt
  have hnlt := hn.lt
  have hmlt := hm.lt
  have hsz1 : w1.drew.heap.size = w1.heap.size := rfl
  have hd3 := he3.own hd2 (fun hk => (hrow d hk).1 rfl)
  rw [add_mk]
  refine Sts.mk hd3 (by simp) rfl fun w4 hs4 hd4 he4 => Pn.mk ?_
  rw [add_mk]
  have hne35 : ∀ k ∈ rowBlk b35, k ≠ d ∧ k ≠ nb ∧ k ≠ mb := by
    intro k hk
    rcases hb35 k hk with h | ⟨h, _⟩
    · exact hrow k h
    · have := e2.size; omega
  have hr4 := hr3.ext he4 (fun k hk => by have := hne35 k hk; simp; omega)
  refine LdL.mk hd4.drew rfl ⟨⟨by omega, by omega⟩, ?_⟩
  refine New.mk fun b47 w5 hb47 hs5 ho47 he5 => ?_
  have e5 : Ext [] w4 w5 := (Ext.drew [] w4).trans he5
  have hd5 := e5.own hd4 (by simp)
  refine ⟨hd5.cell rfl, ?_⟩
  refine rowHalf (hr4.ext e5 (by simp)) (by simp [hrl]) (by simp; omega) ho47 fun b48 c48 w6 hr6 he6 hb48 => Pn.mk ?_
  have hd6 := he6.own hd5 (fun hk => (hne35 d hk).1 rfl)
  rw [add_mk]
  refine Sts.mk hd6 (by simp [size_putArr]) rfl fun w7 hs7 hd7 he7 => ?_
  have hsz4 : w4.drew.heap.size = w4.heap.size := rfl
  have s3 := he3.size
  have s6 := he6.size
  have s2 := e2.size
  have s5 := e5.size
  have hne48 : ∀ k ∈ rowBlk b48, k ≠ d ∧ k ≠ nb ∧ k ≠ mb := by
    intro k hk
    rcases hb48 k hk with h | ⟨h, _⟩
    · exact hne35 k h
    · omega
  -- what the other blocks have become
  have keep : ∀ {k : Nat} {c : Array Value} {t : TypeId}, Own w1 k c t → k ≠ d → (∀ x ∈ rowBlk rb, x ≠ k) → k < w.heap.size → Own w7 k c t := by
    intro k c t ho hkd hkr hlt
    have a2 := e2.own ho (by simp)
    have a3 := he3.own a2 (fun hk => hkr k hk rfl)
    have a4 := he4.own a3 (by simp; omega)
    have a5 := e5.own a4 (by simp)
    have a6 := he6.own a5 (fun hk => by
      rcases hb35 k hk with h | ⟨h, _⟩
      · exact hkr k h rfl
      · omega)
    exact he7.own a6 (by simp; omega)
  have en : putArr (strV D.now) b.toNat [Value.string x] = strV (D.write b x).now := by simp only [putArr]; rw [strV_set]; rfl
  rw [en] at hn1
  have hr7 := hr6.ext he7 (fun k hk => by have := hne48 k hk; simp; omega)
  refine hR w7 (d :: nb :: mb :: rowBlk b48) ⟨nb, mb, b48, rl + 1 + 1, c48, rfl, hne, hd7, keep hn1 (by omega) (fun x hx => (hrow x hx).2.1) hnlt, by simp [DiskS.write, hnl],
    keep hm1 (by omega) (fun x hx => (hrow x hx).2.2) hmlt, hml, ?_, by simp [DiskS.write, hrl]⟩ ?_ ?_
  · have e8 : (D.write b x).log = D.log ++ [(b, 0, x.extract ((0 : Nat) : Int).toNat (32 : Int).toNat)] ++ [(b, 1, x.extract (32 : Int).toNat ((x.size : Nat) : Int).toNat)] := by
      simp [DiskS.write]
    rw [e8]; exact hr7
  · have g1 : Ext (d :: nb :: mb :: rowBlk rb) w w1 := he1.mono (by simp)
    have g2 : Ext (d :: nb :: mb :: rowBlk rb) w w2 := g1.trans e2.nil
    have g3 : Ext (d :: nb :: mb :: rowBlk rb) w w3 := g2.trans' he3 (fun x hx _ => by simp [hx])
    have g4 : Ext (d :: nb :: mb :: rowBlk rb) w w4 := g3.trans' he4 (fun x hx _ => by simp at hx; simp [hx])
    have g5 : Ext (d :: nb :: mb :: rowBlk rb) w w5 := g4.trans e5.nil
    have g6 : Ext (d :: nb :: mb :: rowBlk rb) w w6 := g5.trans' he6 (fun x hx hlt => by
      rcases hb35 x hx with h | ⟨h, _⟩
      · simp [h]
      · omega)
    exact g6.trans' he7 (fun x hx _ => by simp at hx; simp [hx])
  · intro k hk
    simp only [List.mem_cons] at hk ⊢
    rcases hk with rfl | rfl | rfl | hk
    · simp
    · simp
    · simp
    · rcases hb48 k hk with h | ⟨h, _⟩
      · rcases hb35 k h with h | ⟨h, _⟩
        · exact .inl (by simp [h])
        · exact .inr (by omega)
      · exact .inr (by omega)
def DiskS.marked (D : DiskS) : DiskS := { now := D.now, mark := D.now, log := [] }
theorem diskMark_ok {w : World} {d : Nat} {D : DiskS} {F : List Nat} (hD : DiskAt w d D F) {R : World → Prop}
    (hR : ∀ w' F', DiskAt w' d D.marked F' → Ext F w w' → Grew w F F' → R w') : diskm_Disk_Mark.Call (some ⟨d, 0, none⟩) w R := by
  obtain ⟨nb, mb, rb, rl, rc, rfl, hne, hd, hn, hnl, hm, hml, hr, hrl⟩ := hD
  have hdn : d ≠ nb := hd.ne_type hn (by decide)
  apply diskm_Disk_Mark.sound
  unfold diskm_Disk_Mark.B0
  refine Pn.mk (LdL.mk hd rfl ?_)
  refine blocks_ok hn hnl (by omega) fun nmb w1 hnmb ho1 he1 => Pn.mk ?_
  rw [add_mk]
  have hd1 := he1.own hd (by simp)
  have hn1 := he1.own hn (by simp)
  have hdlt := hd.lt
  have hnlt := hn.lt
  refine Sts.mk hd1 (by simp) rfl fun w2 hs2 hd2 he2 => Pn.mk ?_
  rw [add_mk]
  refine Sts.mk hd2 (by simp [size_putArr]) rfl fun w3 hs3 hd3 he3 => ?_
  have e23 : Ext [d] w1 w3 := he2.trans he3
  refine hR w3 [d, nb, nmb] ⟨nb, nmb, none, 0, 0, rfl, by omega, hd3, e23.own hn1 (by simp; omega), hnl, e23.own ho1 (by simp; omega), hnl, Row.nil _ _ _, rfl⟩ ?_ ?_
  · exact Ext.trans' he1.nil e23 (fun x hx _ => by simp at hx; simp [hx])
  · intro k hk
    simp at hk
    rcases hk with rfl | rfl | rfl
    · simp
    · simp
    · exact .inr hnmb
theorem diskSteps_ok {w : World} {d : Nat} {D : DiskS} {F : List Nat} (hD : DiskAt w d D F) {R : Int → World → Prop} (hR : R (D.log.length : Int) w) : diskm_Disk_Steps.Call (some ⟨d, 0, none⟩) w R := by
  obtain ⟨nb, mb, rb, rl, rc, rfl, hne, hd, hn, hnl, hm, hml, hr, rfl⟩ := hD
  apply diskm_Disk_Steps.sound
  unfold diskm_Disk_Steps.B0
  refine Pn.mk ?_
  rw [add_mk]
  exact LdL.mk hd rfl hR
end Go.Proofs.Qxb6500430aGreat
