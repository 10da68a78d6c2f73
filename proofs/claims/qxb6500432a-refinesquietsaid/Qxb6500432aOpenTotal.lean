/-
  storelaw: the functions below the law, and OpenTotal.
-/
import Derived.Test.Qxb6500432aCheck
import Derived.Test.Qxb6500432aScript
set_option linter.unusedVariables false
open Go.Vc
namespace Go.Proofs.Qxb6500432a

/-! ### below.go -/
theorem ground_ok {w : World} {R : Option Addr → World → Prop} (hR : ∀ d F w', w.heap.size ≤ d → (∀ k ∈ F, w.heap.size ≤ k) → DiskAt w' d freshDisk F → Ext [] w w' → R (some ⟨d, 0, none⟩) w') : storelaw_Ground.Call w R := by
  apply storelaw_Ground.sound
  unfold storelaw_Ground.B0
  refine New.mk fun r w1 hr hs1 ho1 he1 => diskNew_ok fun d F w2 hd hF hD2 he2 => ?_
  have ho2 := he2.own ho1 (by simp)
  refine Sts.full ho2 rfl rfl fun w3 hs3 ho3 he3 => LdP.mk ho3 rfl ?_
  refine hR d F w3 (by omega) (fun k hk => by have := hF k hk; omega) (hD2.ext he3 (fun k hk => by simp; have := hF k hk; omega)) ((he1.trans he2).trans' he3 (fun x hx hl => by simp at hx; omega))
theorem lawMark_ok {w : World} {d : Nat} {D : DiskS} {F : List Nat} (hD : DiskAt w d D F) {R : World → Prop} (hR : ∀ w' F', DiskAt w' d D.marked F' → Ext F w w' → Grew w F F' → R w') : storelaw_Mark.Call (some ⟨d, 0, none⟩) w R := by
  apply storelaw_Mark.sound
  unfold storelaw_Mark.B0
  refine New.mk fun r w1 hr hs1 ho1 he1 => LdP.mk ho1 rfl (diskMark_ok (hD.ext he1 (by simp)) fun w2 F' hD2 he2 hg => ?_)
  exact hR w2 F' hD2 (Ext.trans he1.nil he2) (fun k hk => by rcases hg k hk with h | h; exact .inl h; exact .inr (by omega))
theorem lawSteps_ok {w : World} {d : Nat} {D : DiskS} {F : List Nat} (hD : DiskAt w d D F) {R : Int → World → Prop} (hR : ∀ w', Ext [] w w' → R (D.log.length : Int) w') : storelaw_Steps.Call (some ⟨d, 0, none⟩) w R := by
  apply storelaw_Steps.sound
  unfold storelaw_Steps.B0
  exact New.mk fun r w1 hr hs1 ho1 he1 => LdP.mk ho1 rfl (diskSteps_ok (hD.ext he1 (by simp)) (hR w1 he1))
/-- The first 64 bytes of s, then zeros. -/
def scrib (s : ByteArray) : ByteArray := mkStr 64 (fun j => if j < s.size then ubyte s j else 0)
def DiskS.scribble (D : DiskS) (k : Int) (s : ByteArray) : DiskS := if k < 0 ∨ 14 ≤ k then D else D.write k (scrib s)
theorem scribble_ok {w : World} {d : Nat} {D : DiskS} {F : List Nat} (hD : DiskAt w d D F) (hL : D.log.length ≤ 1000000) {k : Int} {s : ByteArray} (hs : (s.size : Int) ≤ 9223372036854775807) {R : World → Prop}
    (hR : ∀ w' F', DiskAt w' d (D.scribble k s) F' → Ext F w w' → Grew w F F' → R w') : storelaw_Scribble.Call (some ⟨d, 0, none⟩) k s w R := by
  apply storelaw_Scribble.sound
  unfold storelaw_Scribble.B0
  refine New.mk fun r w1 hr hs1 ho1 he1 => Make.mk (by omega) (by omega) (by omega) (by omega) fun r2 w2 hr2 hs2 ho2 he2 => ?_
  let f : Int → Nat → Value := fun i j => if j < i.toNat then .int .u8 ((ubyte s j).toNat : Int) else .int .u8 0
  refine ⟨fun m k' s' b' xb xl xc i w' => k = k' ∧ s = s' ∧ r = b' ∧ some ⟨r2, 0, none⟩ = xb ∧ 64 = xl ∧ 64 = xc ∧ 0 ≤ i ∧ i ≤ 64 ∧ i ≤ s.size ∧ m = (64 - i).toNat ∧ Ext [] w w' ∧ w2.heap.size ≤ w'.heap.size ∧ Own w' r #[.pointer (some ⟨d, 0, none⟩)] T_storelaw_Below ∧ Own w' r2 (fnArr 64 (f i)) T_uint8, 64,
    ⟨rfl, rfl, rfl, rfl, rfl, rfl, by omega, by omega, by omega, rfl, he1.trans he2, Nat.le_refl _, he2.own ho1 (by simp), ?_⟩, ?_⟩
  · have e : madeCells (Value.cells (.int .u8 0)) ((64 : Int).toNat * 1) = fnArr 64 (f 0) := by
      rw [show Value.cells (.int .u8 0) = #[Value.int .u8 0] from rfl, madeCells_one]
      refine fnArr_ext (by simp) fun j hj => ?_
      rw [Array.getElem?_replicate, if_pos (by simpa using hj)]
      show _ = some (if j < (0 : Int).toNat then _ else _)
      rw [if_neg (by simp)]
    rw [← e]; exact ho2
  rintro m k' s' b' xb xl xc i w' ⟨rfl, rfl, rfl, rfl, rfl, rfl, h0, h1, h2, rfl, hE, hsz, hor, hox⟩
  have hrlt := hor.lt
  have fin : (i = 64 ∨ i = s.size) → storelaw_Scribble.B1 k s r (some ⟨r2, 0, none⟩) 64 64 i false w' (fun k' s' b' xb xl xc i' w' => ∃ m', m' < (64 - i).toNat ∧ k = k' ∧ s = s' ∧ r = b' ∧ some ⟨r2, 0, none⟩ = xb ∧ 64 = xl ∧ 64 = xc ∧ 0 ≤ i' ∧ i' ≤ 64 ∧ i' ≤ s.size ∧ m' = (64 - i').toNat ∧ Ext [] w w' ∧ w2.heap.size ≤ w'.heap.size ∧ Own w' r #[.pointer (some ⟨d, 0, none⟩)] T_storelaw_Below ∧ Own w' r2 (fnArr 64 (f i')) T_uint8) R := by
    intro hi
    unfold storelaw_Scribble.B1
    refine Bm.neg rfl (LdP.mk hor rfl ?_)
    refine ToStr.fn (g := fun j => if j < s.size then ubyte s j else 0) hox (Nat.le_refl _) (fun j hj => ?_) ?_
    · show (if j < i.toNat then _ else _) = _
      by_cases hj2 : j < s.size
      · rw [if_pos (by omega), if_pos hj2]
      · rw [if_neg (by omega), if_neg hj2]; rfl
    · have hD' := hD.ext hE (by simp)
      unfold DiskS.scribble at hR
      by_cases hk : k < 0 ∨ 14 ≤ k
      · rw [if_pos hk] at hR
        exact diskWrite_bad (by rcases hk with h | h; exact .inl h; exact .inr (.inl h)) (hR w' F hD' hE.nil (Grew.refl _ _))
      · rw [if_neg hk] at hR
        refine diskWrite_ok hD' hL (by omega) (by omega) (mkStr_size _ _) fun w3 F' hD3 he3 hg => ?_
        have := hE.size
        exact hR w3 F' hD3 (Ext.trans hE.nil he3) (fun k hk => by rcases hg k hk with h | h; exact .inl h; exact .inr (by omega))
  unfold storelaw_Scribble.L1b
  refine Bm.ite (fun hlt => ?_) (fun hge => fin (.inr (by omega)))
  by_cases h64 : i < 64
  · rw [decide_eq_true h64]
    unfold storelaw_Scribble.B1
    refine Bm.pos rfl ⟨⟨h0, hlt⟩, Pn.mk ⟨⟨h0, by omega⟩, ?_⟩⟩
    rw [add_mk, Nat.zero_add, Nat.mul_one]
    have e2 : IntKind.i64.wrap (i + 1) = i + 1 := wrap64_id (by omega) (by omega)
    rw [e2]
    refine Sts.fn (g := f (i + 1)) hox (by simp; omega) rfl (fun j hj => ?_) fun w3 hs3 ho3 he3 => ?_
    · unfold fnPut
      by_cases hji : j = i.toNat
      · subst hji
        rw [if_pos (by simp), Nat.sub_self]
        show Value.int .u8 (byteAt s i) = if i.toNat < (i + 1).toNat then _ else _
        rw [if_pos (by omega)]; rfl
      · rw [if_neg (by simp; omega)]
        show (if j < i.toNat then _ else _) = if j < (i + 1).toNat then _ else _
        by_cases h4 : j < i.toNat
        · rw [if_pos h4, if_pos (by omega)]
        · rw [if_neg h4, if_neg (by omega)]
    · exact ⟨(64 - (i + 1)).toNat, by omega, rfl, rfl, rfl, rfl, rfl, rfl, by omega, by omega, by omega, rfl, hE.trans' he3 (fun x hx hl => by simp at hx; have := he1.size; omega), by omega, he3.own hor (by simp; omega), ho3⟩
  · rw [decide_eq_false h64]; exact fin (.inl (by omega))

/-! ### OpenTotal -/
theorem freshDisk_wf : DiskWf freshDisk := by
  intro i hi
  have : blk freshDisk i = zblock := by
    unfold blk freshDisk
    simp only [List.getD_eq_getElem?_getD, List.getElem?_replicate, hi, if_true, Option.getD_some]
  rw [this]; exact zbytes_size 64
theorem write_wf {D : DiskS} (h : DiskWf D) {b : Int} {x : ByteArray} (hx : x.size = 64) : DiskWf (D.write b x) := by
  intro i hi
  show ((D.now.set b.toNat x).getD i zblock).size = 64
  rw [List.getD_eq_getElem?_getD, List.getElem?_set]
  split
  · split
    · exact hx
    · exact zbytes_size 64
  · rw [← List.getD_eq_getElem?_getD]; exact h i hi
theorem scribble_wf {D : DiskS} (h : DiskWf D) (k : Int) (s : ByteArray) : DiskWf (D.scribble k s) := by
  unfold DiskS.scribble
  split
  · exact h
  · exact write_wf h (mkStr_size _ _)
theorem slot01 (b : Bool) : (if b then (0 : Int) else 1) = 0 ∨ (if b then (0 : Int) else 1) = 1 := by cases b <;> simp
/-- The script's elements can be read: the field A and the string S of each. -/
def ScriptAt (w : World) (sb : Option Addr) (n : Nat) : Prop :=
  ∀ i, i < n → ∃ a : Addr, sb = some a ∧ (a.block < w.heap.size) ∧ (∃ k0 k1 k2 k3, w.cell? (a.add (i * 6)) = some (.int .i64 k0) ∧ w.cell? ((a.add (i * 6)).add 1) = some (.int .i64 k1) ∧ w.cell? ((a.add (i * 6)).add 2) = some (.int .i64 k2) ∧ w.cell? ((a.add (i * 6)).add 3) = some (.int .i64 k3)) ∧
    (∃ s0 s1 : ByteArray, w.cell? ((a.add (i * 6)).add 4) = some (.string s0) ∧ w.cell? ((a.add (i * 6)).add 5) = some (.string s1) ∧ (s0.size : Int) ≤ 9223372036854775807 ∧ (s1.size : Int) ≤ 9223372036854775807)
theorem add_block (a : Addr) (n : Nat) : (a.add n).block = a.block := by unfold Addr.add; split <;> rfl
theorem openTotal_ok {w : World} {sb : Option Addr} {n c : Nat} (hn : (n : Int) ≤ 9223372036854775807) (hsc : ScriptAt w sb n) {R : Bool → World → Prop} (hR : ∀ w', Ext [] w w' → R true w') : storelaw_OpenTotal.Call sb n c w R := by
  apply storelaw_OpenTotal.sound
  unfold storelaw_OpenTotal.B0
  refine ground_ok fun d F0 w1 hd hF0 hD1 he1 => New.mk fun r w2 hr hs2 ho2 he2 => Sts.full ho2 rfl rfl fun w3 hs3 ho3 he3 => ?_
  have h1s := he1.size
  have hF0lt := hD1.lt
  have E3 : Ext [] w w3 := (he1.trans he2).trans' he3 (fun x hx hl => by simp at hx; omega)
  have hD3 : DiskAt w3 d freshDisk F0 := (hD1.ext he2 (by simp)).ext he3 (fun k hk => by simp; have := hF0lt k hk; omega)
  let J : World → Prop := fun w' => Ext [] w w' ∧ Own w' r #[.pointer (some ⟨d, 0, none⟩)] T_storelaw_Below ∧ ∃ D F, DiskAt w' d D F ∧ DiskWf D ∧ D.log.length = 0 ∧ (∀ k ∈ F, w.heap.size ≤ k) ∧ r ∉ F
  have hJ3 : J w3 := ⟨E3, ho3, freshDisk, F0, hD3, freshDisk_wf, rfl, hF0, fun h => by have := hF0lt r h; omega⟩
  -- a disk's own step keeps J
  have keep : ∀ (w' w'' : World) (F F' : List Nat), Ext [] w w' → Own w' r #[.pointer (some ⟨d, 0, none⟩)] T_storelaw_Below → (∀ k ∈ F, w.heap.size ≤ k) → r ∉ F → Ext F w' w'' → Grew w' F F' → Ext [] w w'' ∧ Own w'' r #[.pointer (some ⟨d, 0, none⟩)] T_storelaw_Below ∧ (∀ k ∈ F', w.heap.size ≤ k) ∧ r ∉ F' := by
    intro w' w'' F F' hE ho hF hrF he hg
    have hs := hE.size
    have hrlt := ho.lt
    refine ⟨hE.trans' he (fun x hx hl => by have := hF x hx; omega), he.own ho hrF, fun k hk => ?_, fun hk => ?_⟩
    · rcases hg k hk with h | h
      · exact hF k h
      · omega
    · rcases hg r hk with h | h
      · exact hrF h
      · omega
  refine ⟨fun m sb' n' c' b' i w' => sb = sb' ∧ n = n' ∧ c = c' ∧ r = b' ∧ 0 ≤ i ∧ i ≤ n ∧ m = (n - i).toNat ∧ J w', n, ⟨rfl, rfl, rfl, rfl, by omega, by omega, by simp, hJ3⟩, ?_⟩
  rintro m sb' n' c' b' i w' ⟨rfl, rfl, rfl, rfl, h0, h1, rfl, hE, hor, D, F, hD, hwf, hlog, hF, hrF⟩
  have fin : storelaw_OpenTotal.B1 sb n c r i false w' (fun sb' n' c' b' i' w' => ∃ m', m' < (n - i).toNat ∧ sb = sb' ∧ n = n' ∧ c = c' ∧ r = b' ∧ 0 ≤ i' ∧ i' ≤ n ∧ m' = (n - i').toNat ∧ J w') R := by
    unfold storelaw_OpenTotal.B1
    refine Bm.neg rfl (LdP.mk hor rfl ?_)
    refine lawMark_ok hD fun w4 F4 hD4 he4 hg4 => ?_
    obtain ⟨E4, ho4, hF4, hrF4⟩ := keep w' w4 F F4 hE hor hF hrF he4 hg4
    have hwf4 : DiskWf D.marked := hwf
    refine LdP.mk ho4 rfl (open_ok hD4 hwf4 fun t w5 ht hS5 he5 => meta_ok hS5 ?_)
    have hS6 := hS5.drew
    refine snap_ok hS6 ?_
    have hD7 : DiskAt w5.drew.drew d D.marked F4 := (hD4.ext he5 (by simp)).ext (Ext.trans (Ext.drew [] w5) (Ext.drew [] _)) (by simp)
    have ho7 := (he5.own ho4 (by simp)).drew.drew
    have E7 : Ext [] w w5.drew.drew := (E4.trans he5).trans (Ext.trans (Ext.drew [] w5) (Ext.drew [] _))
    refine ⟨fun m b' x s w' => r = b' ∧ some ⟨t, 0, none⟩ = x ∧ -1 ≤ s ∧ s ≤ 7 ∧ m = (7 - s).toNat ∧ Ext [] w5.drew.drew w', 8, ⟨rfl, rfl, by omega, by omega, rfl, Ext.refl _ _⟩, ?_⟩
    rintro m b' x s w8 ⟨rfl, rfl, hs0, hs1, rfl, he8⟩
    have hS8 := he8.own hS6.drew (by simp)
    have hD8 := hD7.ext he8 (by simp)
    unfold storelaw_OpenTotal.L2b
    refine Bm.ite (fun hlt => ?_) (fun hge => ?_)
    · refine rec_ok hS8 fun w9 he9 => ?_
      have e2 : IntKind.i64.wrap (s + 1) = s + 1 := wrap64_id (by omega) (by omega)
      rw [e2]
      exact ⟨(7 - (s + 1)).toNat, by omega, rfl, rfl, by omega, by omega, rfl, he8.trans he9⟩
    · refine check_ok hS8 hD8 hwf4 (slot01 (pickM D.marked)) (slot01 (pickH D.marked)) fun s9 w9 _ he9 => ?_
      have ho9 := he9.own (he8.own ho7 (by simp)) (by simp)
      refine LdP.mk ho9 rfl (lawSteps_ok (hD8.ext he9 (by simp)) fun w10 he10 => ?_)
      exact hR w10 (((E7.trans he8).trans he9).trans he10)
  unfold storelaw_OpenTotal.L1b
  refine Bm.ite (fun hlt => ?_) (fun hge => fin)
  by_cases hb : i < 4398046511104
  · rw [decide_eq_true hb]
    unfold storelaw_OpenTotal.B1
    obtain ⟨a, rfl, hab, ⟨k0, k1, k2, k3, hk0, hk1, hk2, hk3⟩, ⟨s0, s1, hc0, hc1, hz0, hz1⟩⟩ := hsc i.toNat (by omega)
    have rd : ∀ (x : Addr), x.block = a.block → w'.drew.cell? x = w.cell? x := fun x hx => by
      show w'.cell? x = _
      exact hE.cell (by rw [hx]; exact hab) (by simp)
    refine Bm.pos rfl (LdP.mk hor.drew rfl (Pn.mk ⟨⟨h0, hlt⟩, k1, ?_, Pn.mk ⟨⟨h0, hlt⟩, s0, ?_, ?_⟩⟩))
    · rw [rd _ (by rw [add_block, add_block])]; exact hk1
    · rw [rd _ (by rw [add_block, add_block])]; exact hc0
    have hDd : DiskAt w'.drew d D F := hD.ext (Ext.drew [] w') (by simp)
    refine scribble_ok hDd (by omega) hz0 fun w4 F4 hD4 he4 hg4 => ?_
    obtain ⟨E4, ho4, hF4, hrF4⟩ := keep w'.drew w4 F F4 (hE.trans (Ext.drew _ _)) hor.drew hF hrF he4 hg4
    refine LdP.mk ho4 rfl (lawMark_ok hD4 fun w5 F5 hD5 he5 hg5 => ?_)
    obtain ⟨E5, ho5, hF5, hrF5⟩ := keep w4 w5 F4 F5 E4 ho4 hF4 hrF4 he5 hg5
    have e2 : IntKind.i64.wrap (i + 1) = i + 1 := wrap64_id (by omega) (by omega)
    rw [e2]
    exact ⟨(n - (i + 1)).toNat, by omega, rfl, rfl, rfl, rfl, by omega, by omega, rfl, E5, ho5, _, F5, hD5, scribble_wf hwf _ _, rfl, hF5, hrF5⟩
  · rw [decide_eq_false hb]; exact fin
theorem openTotal_law {w : World} {sb : Option Addr} {n c : Nat} {ops : Nat → OpV} (hs : ScriptIs w sb n ops) {R : Bool → World → Prop} (hR : ∀ w', Ext [] w w' → R true w') : storelaw_OpenTotal.Call sb n c w R :=
  openTotal_ok (by have := hs.1; omega) (fun i hi => by
    obtain ⟨x, hx, ho⟩ := hs.2 i hi
    refine ⟨x, hx, ?_, ⟨_, _, _, _, ho.k, ho.a, ho.b, ho.c⟩, ⟨_, _, ho.s, ho.t, by have := ho.wf.s; omega, by have := ho.wf.t; omega⟩⟩
    have := ho.blk
    rwa [add_block] at this) hR
end Go.Proofs.Qxb6500432a
