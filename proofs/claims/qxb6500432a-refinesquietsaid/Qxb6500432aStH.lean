/-
  store: the model (package storem).
-/
import Derived.Test.Qxb6500432aStG
set_option linter.unusedVariables false
set_option linter.unusedSimpArgs false
open Go.Vc
namespace Go.Proofs.Qxb6500432a

def stCell (A : AbsS) (j : Nat) : Value :=
  if j = 0 then .int .i64 A.term else if j = 1 then .int .i64 A.vote else if j = 2 then .int .i64 A.sidx else if j = 3 then .int .i64 A.sterm else if j = 4 then .string A.snap
  else if j < 11 then .bool (A.used (j - 5))
  else if (j - 11) % 3 = 0 then .int .i64 (A.recs ((j - 11) / 3)).idx else if (j - 11) % 3 = 1 then .int .i64 (A.recs ((j - 11) / 3)).term else .string (A.recs ((j - 11) / 3)).data
def StAt (w : World) (s : Nat) (A : AbsS) : Prop := Own w s (fnArr 29 (stCell A)) T_storem_state
theorem stCell_used (A : AbsS) {i : Nat} (h : i < 6) : stCell A (5 + i) = .bool (A.used i) := by
  unfold stCell
  rw [if_neg (by omega), if_neg (by omega), if_neg (by omega), if_neg (by omega), if_neg (by omega), if_pos (by omega), show 5 + i - 5 = i by omega]
theorem stCell_hi (A : AbsS) {j : Nat} (h : 11 ≤ j) : stCell A j = if (j - 11) % 3 = 0 then .int .i64 (A.recs ((j - 11) / 3)).idx else if (j - 11) % 3 = 1 then .int .i64 (A.recs ((j - 11) / 3)).term else .string (A.recs ((j - 11) / 3)).data := by
  unfold stCell
  rw [if_neg (by omega), if_neg (by omega), if_neg (by omega), if_neg (by omega), if_neg (by omega), if_neg (by omega)]
theorem stCell_idx (A : AbsS) (i : Nat) : stCell A (11 + i * 3) = .int .i64 (A.recs i).idx := by
  rw [stCell_hi A (by omega), if_pos (by omega), show (11 + i * 3 - 11) / 3 = i by omega]
theorem stCell_term (A : AbsS) (i : Nat) : stCell A (11 + i * 3 + 1) = .int .i64 (A.recs i).term := by
  rw [stCell_hi A (by omega), if_neg (by omega), if_pos (by omega), show (11 + i * 3 + 1 - 11) / 3 = i by omega]
theorem stCell_data (A : AbsS) (i : Nat) : stCell A (11 + i * 3 + 2) = .string (A.recs i).data := by
  rw [stCell_hi A (by omega), if_neg (by omega), if_neg (by omega), show (11 + i * 3 + 2 - 11) / 3 = i by omega]
theorem stCell_congr {A B : AbsS} (h1 : A.term = B.term) (h2 : A.vote = B.vote) (h3 : A.sidx = B.sidx) (h4 : A.sterm = B.sterm) (h5 : A.snap = B.snap) (h6 : ∀ i, i < 6 → A.used i = B.used i) (h7 : ∀ i, i < 6 → A.recs i = B.recs i) : ∀ j, j < 29 → stCell A j = stCell B j := by
  intro j hj
  by_cases c : j < 11
  · unfold stCell
    rw [h1, h2, h3, h4, h5]
    have : j = 0 ∨ j = 1 ∨ j = 2 ∨ j = 3 ∨ j = 4 ∨ 5 ≤ j := by omega
    rcases this with e | e | e | e | e | e
    · rw [if_pos e, if_pos e]
    · rw [if_neg (by omega), if_pos e, if_neg (by omega), if_pos e]
    · rw [if_neg (by omega), if_neg (by omega), if_pos e, if_neg (by omega), if_neg (by omega), if_pos e]
    · rw [if_neg (by omega), if_neg (by omega), if_neg (by omega), if_pos e, if_neg (by omega), if_neg (by omega), if_neg (by omega), if_pos e]
    · rw [if_neg (by omega), if_neg (by omega), if_neg (by omega), if_neg (by omega), if_pos e, if_neg (by omega), if_neg (by omega), if_neg (by omega), if_neg (by omega), if_pos e]
    · rw [if_neg (by omega), if_neg (by omega), if_neg (by omega), if_neg (by omega), if_neg (by omega), if_pos c, if_neg (by omega), if_neg (by omega), if_neg (by omega), if_neg (by omega), if_neg (by omega), if_pos c, h6 _ (by omega)]
  · rw [stCell_hi A (by omega), stCell_hi B (by omega), h7 _ (by omega)]
theorem StAt.congr {w : World} {n : Nat} {A B : AbsS} (h : StAt w n A) (h1 : A.term = B.term) (h2 : A.vote = B.vote) (h3 : A.sidx = B.sidx) (h4 : A.sterm = B.sterm) (h5 : A.snap = B.snap) (h6 : ∀ i, i < 6 → A.used i = B.used i) (h7 : ∀ i, i < 6 → A.recs i = B.recs i) : StAt w n B := by
  unfold StAt at h ⊢
  rw [← fnArr_congr (stCell_congr h1 h2 h3 h4 h5 h6 h7)]
  exact h
theorem fnPut1 {f : Nat → Value} {o j : Nat} {v : Value} : fnPut f o [v] j = if j = o then v else f j := by
  unfold fnPut
  by_cases e : j = o
  · subst e
    rw [if_pos (by simp), if_pos rfl]
    simp
  · rw [if_neg (by simp; omega), if_neg e]
theorem sput_lo {A B : AbsS} {o : Nat} {v : Value} (ho : stCell B o = v) (h : ∀ j, j < 29 → j ≠ o → stCell A j = stCell B j) : ∀ j, j < 29 → fnPut (stCell A) o [v] j = stCell B j := fun j hj => by
  rw [fnPut1]
  by_cases e : j = o
  · rw [if_pos e, e, ho]
  · rw [if_neg e]
    exact h j hj e
theorem sput_term (A : AbsS) (v : Int) : ∀ j, j < 29 → fnPut (stCell A) 0 [.int .i64 v] j = stCell { A with term := v } j := sput_lo rfl fun j _ e => by
  unfold stCell
  rw [if_neg e, if_neg e]
theorem sput_vote (A : AbsS) (v : Int) : ∀ j, j < 29 → fnPut (stCell A) 1 [.int .i64 v] j = stCell { A with vote := v } j := sput_lo rfl fun j _ e => by
  unfold stCell
  simp only [e, if_false]
theorem sput_sidx (A : AbsS) (v : Int) : ∀ j, j < 29 → fnPut (stCell A) 2 [.int .i64 v] j = stCell { A with sidx := v } j := sput_lo rfl fun j _ e => by
  unfold stCell
  simp only [e, if_false]
theorem sput_sterm (A : AbsS) (v : Int) : ∀ j, j < 29 → fnPut (stCell A) 3 [.int .i64 v] j = stCell { A with sterm := v } j := sput_lo rfl fun j _ e => by
  unfold stCell
  simp only [e, if_false]
theorem sput_snap (A : AbsS) (v : ByteArray) : ∀ j, j < 29 → fnPut (stCell A) 4 [.string v] j = stCell { A with snap := v } j := sput_lo rfl fun j _ e => by
  unfold stCell
  simp only [e, if_false]
theorem sput_used (A : AbsS) {i : Nat} (hi : i < 6) (v : Bool) : ∀ j, j < 29 → fnPut (stCell A) (5 + i) [.bool v] j = stCell { A with used := upd A.used i v } j := by
  refine sput_lo (by rw [stCell_used _ hi]; exact congrArg Value.bool (upd_eq _ _ _)) fun j hj e => ?_
  by_cases c : 5 ≤ j ∧ j < 11
  · obtain ⟨q, rfl⟩ : ∃ q, j = 5 + q := ⟨j - 5, by omega⟩
    rw [stCell_used _ (by omega), stCell_used _ (by omega)]
    exact congrArg Value.bool (upd_ne _ _ (by omega)).symm
  · unfold stCell
    by_cases c2 : j < 11
    · have : j = 0 ∨ j = 1 ∨ j = 2 ∨ j = 3 ∨ j = 4 := by omega
      rcases this with e | e | e | e | e <;> subst e <;> rfl
    · simp only [c2, if_false]
theorem sput_rec (A : AbsS) {i : Nat} (hi : i < 6) (q : RecS) : ∀ j, j < 29 → fnPut (stCell A) (11 + i * 3) [.int .i64 q.idx, .int .i64 q.term, .string q.data] j = stCell { A with recs := upd A.recs i q } j := by
  intro j hj
  unfold fnPut
  by_cases c : 11 + i * 3 ≤ j ∧ j < 11 + i * 3 + 3
  · rw [if_pos (by simpa using c), stCell_hi _ (by omega)]
    have h3 : (j - 11) / 3 = i := by omega
    simp only [h3, upd_eq]
    have : j = 11 + i * 3 ∨ j = 11 + i * 3 + 1 ∨ j = 11 + i * 3 + 2 := by omega
    rcases this with rfl | rfl | rfl
    · rw [if_pos (by omega)]; simp
    · rw [if_neg (by omega), if_pos (by omega), show 11 + i * 3 + 1 - (11 + i * 3) = 1 by omega]; rfl
    · rw [if_neg (by omega), if_neg (by omega), show 11 + i * 3 + 2 - (11 + i * 3) = 2 by omega]; rfl
  · rw [if_neg (by simpa using c)]
    by_cases c2 : j < 11
    · unfold stCell
      simp only [c2, if_true]
    · rw [stCell_hi _ (by omega), stCell_hi _ (by omega)]
      have : (j - 11) / 3 ≠ i := by omega
      simp only [upd_ne _ _ this]

/-! ### clone -/
theorem clone_ok {w : World} {s : Nat} {A : AbsS} {R : Option Addr → World → Prop} (h : StAt w s A) (hR : ∀ n w', w.heap.size ≤ n → n < w'.heap.size → StAt w' n A → Ext [] w w' → R (some ⟨n, 0, none⟩) w') : storem_state_clone.Call (some ⟨s, 0, none⟩) w R := by
  apply storem_state_clone.sound
  unfold storem_state_clone.B0
  have hd : StAt w.drew s A := Own.drew h
  have hsl := Own.lt h
  refine Pn.mk (LdI.fn hd (by omega) (show stCell A 0 = .int .i64 A.term from rfl) (Pn.mk ?_))
  rw [add_mk, Nat.zero_add]
  refine LdI.fn hd (by omega) (show stCell A 1 = .int .i64 A.vote from rfl) (Pn.mk ?_)
  rw [add_mk, Nat.zero_add]
  refine LdI.fn hd (by omega) (show stCell A 2 = .int .i64 A.sidx from rfl) (Pn.mk ?_)
  rw [add_mk, Nat.zero_add]
  refine LdI.fn hd (by omega) (show stCell A 3 = .int .i64 A.sterm from rfl) (Pn.mk ?_)
  rw [add_mk, Nat.zero_add]
  refine LdS.fn hd (by omega) (show stCell A 4 = .string A.snap from rfl) (New.mk fun n w1 hn hs1 on1 he1 => ?_)
  have hdz : w.drew.heap.size = w.heap.size := rfl
  have E1 : Ext [] w w1 := (Ext.drew [] w).trans he1
  unfold storem_state_clone.L1
  refine ⟨fun m s' n' i w' => some ⟨s, 0, none⟩ = s' ∧ n = n' ∧ 0 ≤ i ∧ i ≤ 6 ∧ m = (6 - i).toNat ∧ Ext [] w w' ∧ w1.heap.size ≤ w'.heap.size ∧ StAt w' n { A with used := fun j => if j < i.toNat then A.used j else false, recs := fun j => if j < i.toNat then A.recs j else ⟨0, 0, estr⟩ }, 6,
    ⟨rfl, rfl, by omega, by omega, rfl, E1, Nat.le_refl _, ?_⟩, ?_⟩
  · have e : fnArr 29 (stCell { A with used := fun j => if j < (0 : Int).toNat then A.used j else false, recs := fun j => if j < (0 : Int).toNat then A.recs j else ⟨0, 0, estr⟩ }) = #[.int .i64 A.term, .int .i64 A.vote, .int .i64 A.sidx, .int .i64 A.sterm, .string A.snap, .bool false, .bool false, .bool false, .bool false, .bool false, .bool false, .int .i64 0, .int .i64 0, .string (ByteArray.mk #[]), .int .i64 0, .int .i64 0, .string (ByteArray.mk #[]), .int .i64 0, .int .i64 0, .string (ByteArray.mk #[]), .int .i64 0, .int .i64 0, .string (ByteArray.mk #[]), .int .i64 0, .int .i64 0, .string (ByteArray.mk #[]), .int .i64 0, .int .i64 0, .string (ByteArray.mk #[])] := rfl
    unfold StAt
    rw [e]
    exact on1
  rintro m s' n' i w' ⟨rfl, rfl, i0, i1, rfl, hE, hz, hn'⟩
  unfold storem_state_clone.L1b
  refine Bm.ite (fun hi => ?_) (fun hi => ?_)
  · have hs' : StAt w' s A := hE.own h (by simp)
    have hi6 : i.toNat < 6 := by omega
    have hns : n ≠ s := by omega
    refine Pn.mk ⟨⟨i0, by omega⟩, ?_⟩
    rw [add_mk, add_mk, Nat.mul_one, Nat.zero_add]
    refine LdB.fn (Own.drew hs') (by omega) (stCell_used A hi6) ⟨⟨i0, by omega⟩, ?_⟩
    rw [add_mk]
    refine Sts.fn (Own.drew hn') (by simp; omega) rfl (sput_used _ hi6 _) fun w2 hs2 hn2 he2 => Pn.mk ⟨⟨i0, by omega⟩, ?_⟩
    have hs2' : StAt w2.drew s A := Own.drew (he2.own (Own.drew hs') (by simp; omega))
    simp only [add_mk, Nat.zero_add]
    refine LdI.fn hs2' (by omega) (stCell_idx A _) (LdI.fn hs2' (by omega) (stCell_term A _) (LdS.fn hs2' (by omega) (stCell_data A _) ⟨⟨i0, by omega⟩, ?_⟩))
    refine Sts.fn (Own.drew hn2) (by simp; omega) rfl (sput_rec _ hi6 (A.recs i.toNat)) fun w3 hs3 hn3 he3 => ?_
    rw [w64 (by omega) (by omega)]
    have hd1 : w'.drew.heap.size = w'.heap.size := rfl
    have hd2 : w2.drew.heap.size = w2.heap.size := rfl
    refine ⟨(6 - (i + 1)).toNat, by omega, by trivial, by trivial, by omega, by omega, rfl, hE.trans' ((((Ext.drew [n] w').trans he2).trans (Ext.drew [n] w2)).trans he3) (fun x hx hlt => by simp at hx; omega), by omega, ?_⟩
    refine StAt.congr hn3 rfl rfl rfl rfl rfl (fun j hj => ?_) (fun j hj => ?_)
    · show upd (fun j => if j < i.toNat then A.used j else false) i.toNat (A.used i.toNat) j = if j < (i + 1).toNat then A.used j else false
      rw [show (i + 1).toNat = i.toNat + 1 by omega]
      unfold upd
      by_cases e : j = i.toNat
      · rw [if_pos e, if_pos (by omega), e]
      · rw [if_neg e]
        show (if j < i.toNat then A.used j else false) = _
        by_cases c : j < i.toNat
        · rw [if_pos c, if_pos (by omega)]
        · rw [if_neg c, if_neg (by omega)]
    · show upd (fun j => if j < i.toNat then A.recs j else ⟨0, 0, estr⟩) i.toNat (A.recs i.toNat) j = if j < (i + 1).toNat then A.recs j else ⟨0, 0, estr⟩
      rw [show (i + 1).toNat = i.toNat + 1 by omega]
      unfold upd
      by_cases e : j = i.toNat
      · rw [if_pos e, if_pos (by omega), e]
      · rw [if_neg e]
        show (if j < i.toNat then A.recs j else ⟨0, 0, estr⟩) = _
        by_cases c : j < i.toNat
        · rw [if_pos c, if_pos (by omega)]
        · rw [if_neg c, if_neg (by omega)]
  · refine hR n w' (by omega) (Own.lt hn') ?_ hE
    refine StAt.congr hn' rfl rfl rfl rfl rfl (fun j hj => ?_) (fun j hj => ?_)
    · show (if j < i.toNat then A.used j else false) = A.used j
      rw [if_pos (by omega)]
    · show (if j < i.toNat then A.recs j else ⟨0, 0, estr⟩) = A.recs j
      rw [if_pos (by omega)]
end Go.Proofs.Qxb6500432a
