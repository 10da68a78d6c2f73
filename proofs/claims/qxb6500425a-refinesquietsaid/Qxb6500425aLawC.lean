/-
  ip: the law's looks: SameAddr .., SamePending, SamePeek, Alike, Both, Untouched.
-/
import Derived.Test.Qxb6500425aLawB
set_option linter.unusedVariables false
set_option linter.unusedSimpArgs false
open Go.Vc
namespace Go.Proofs.Qxb6500425a

section
variable {w : World} {p q : Nat} {S : IPS} {M : MS}
theorem sameAddr_ok {R : Bool → World → Prop} (hr : RealAt w p S) (hm : ModAt w q M) (e : M.addr = S.addr) (hR : R true w) : iplaw_SameAddr.Call (some ⟨p, 0, none⟩) (some ⟨q, 0, none⟩) w R := by
  apply iplaw_SameAddr.sound
  unfold iplaw_SameAddr.B0
  refine realAddr_ok hr (modAddr_ok hm ?_)
  rw [e, beq_self_eq_true]
  exact hR
theorem sameNextId_ok {R : Bool → World → Prop} (hr : RealAt w p S) (hm : ModAt w q M) (e : M.next = S.next) (hR : R true w) : iplaw_SameNextId.Call (some ⟨p, 0, none⟩) (some ⟨q, 0, none⟩) w R := by
  apply iplaw_SameNextId.sound
  unfold iplaw_SameNextId.B0
  refine realNextId_ok hr (modNextId_ok hm ?_)
  rw [e, beq_self_eq_true]
  exact hR
theorem sameCredit_ok {R : Bool → World → Prop} (hr : RealAt w p S) (hm : ModAt w q M) (e : M.credit = S.credit) (hR : R true w) : iplaw_SameCredit.Call (some ⟨p, 0, none⟩) (some ⟨q, 0, none⟩) w R := by
  apply iplaw_SameCredit.sound
  unfold iplaw_SameCredit.B0
  refine realCredit_ok hr (modCredit_ok hm ?_)
  rw [e, beq_self_eq_true]
  exact hR
theorem pendV_len (r : AR) : (pendV r).length = 6 := rfl
theorem rows_len {A : List AR} (h : Rel A S) : A.length ≤ 3 := by
  rw [h.perm.length_eq]
  unfold tab one
  split <;> split <;> split <;> simp
theorem samePending_ok {R : Option Addr → Nat → Nat → Bool → World → Prop} (hr : RealAt w p S) (hm : ModAt w q M) (hrel : Rel M.rows S)
    (hR : ∀ b w', w.heap.size ≤ b → Own w' b (pendL M.rows).toArray 70 → Ext [] w w' → R (some ⟨b, 0, none⟩) M.rows.length M.rows.length true w') : iplaw_SamePending.Call (some ⟨p, 0, none⟩) (some ⟨q, 0, none⟩) w R := by
  apply iplaw_SamePending.sound
  unfold iplaw_SamePending.B0
  have h3 := rows_len hrel
  have hLl : M.rows.length = M.L.length := by simp [MS.rows]
  refine realPending_ok hr hrel fun b w1 hb ho1 he1 => modPending_ok (hm.ext0 he1) (by omega) fun b2 c2 w2 hrow2 hfr2 he2 => Bm.neg (by simp) ?_
  unfold iplaw_SamePending.L1
  refine ⟨fun m ab al ac bb bl bc i w' => some ⟨b, 0, none⟩ = ab ∧ M.rows.length = al ∧ M.rows.length = ac ∧ b2 = bb ∧ M.rows.length = bl ∧ c2 = bc ∧ 0 ≤ i ∧ i ≤ M.rows.length ∧ m = (M.rows.length - i).toNat ∧ Ext [] w2 w', M.rows.length, ⟨rfl, rfl, rfl, rfl, rfl, rfl, by omega, by omega, by omega, Ext.refl _ _⟩, ?_⟩
  rintro m ab al ac bb bl bc i w' ⟨rfl, rfl, rfl, rfl, rfl, rfl, i0, i1, rfl, hE⟩
  unfold iplaw_SamePending.L1b
  refine Bm.ite (fun hi => ?_) (fun hi => ?_)
  · obtain ⟨r, hrr⟩ : ∃ r, M.rows[i.toNat]? = some r := ⟨_, List.getElem?_eq_getElem (by omega)⟩
    have hEd : Ext [] w2 w'.drew := hE.trans (Ext.drew [] w')
    have hoa := hEd.own (he2.own ho1 (by simp)) (by simp)
    have hrw := hrow2.ext hEd (fun _ _ h => by cases h)
    obtain ⟨k, rfl, cs, hok, hc⟩ := hrw.at (i := i.toNat) (by omega) (by omega)
    have ga : ∀ f v, f < 6 → (pendV r)[f]? = some v → w'.drew.cell? ⟨b, i.toNat * 6 + f, none⟩ = some v := fun f v hf hv => by
      refine hoa.cell ?_
      rw [List.getElem?_toArray]
      unfold pendL
      rw [flat_get (n := 6) pendV_len hrr hf]
      exact hv
    have gb : ∀ f v, f < 6 → (pendV r)[f]? = some v → w'.drew.cell? ⟨k, i.toNat * 6 + f, none⟩ = some v := fun f v hf hv => by
      rw [hok.cell_eq, hc f hf]
      unfold pendL
      rw [flat_get (n := 6) pendV_len hrr hf]
      exact hv
    have bA : (0 ≤ i ∧ i < ((M.rows.length : Nat) : Int)) := ⟨i0, hi⟩
    have stp : ∀ (f : Nat) (v : Int), f < 6 → (pendV r)[f]? = some (.int .i64 v) → w'.drew.cell? (Addr.add (Addr.add ⟨b, 0, none⟩ (i.toNat * 6)) f) = some (.int .i64 v) ∧ w'.drew.cell? (Addr.add (Addr.add ⟨k, 0, none⟩ (i.toNat * 6)) f) = some (.int .i64 v) := fun f v hf hv => by
      rw [add_mk, add_mk, add_mk, add_mk, Nat.zero_add]
      exact ⟨ga f _ hf hv, gb f _ hf hv⟩
    refine Pn.mk ⟨bA, LdI.cell (by rw [add_mk, Nat.zero_add]; exact ga 0 _ (by omega) rfl) (Pn.mk ⟨bA, LdI.cell (by rw [add_mk, Nat.zero_add]; exact gb 0 _ (by omega) rfl) (Bm.neg (by simp) ?_)⟩)⟩
    refine Pn.mk ⟨bA, LdI.cell (stp 1 _ (by omega) rfl).1 (Pn.mk ⟨bA, LdI.cell (stp 1 _ (by omega) rfl).2 (Bm.neg (by simp) ?_)⟩)⟩
    refine Pn.mk ⟨bA, LdI.cell (stp 2 _ (by omega) rfl).1 (Pn.mk ⟨bA, LdI.cell (stp 2 _ (by omega) rfl).2 (Bm.neg (by simp) ?_)⟩)⟩
    refine Pn.mk ⟨bA, LdI.cell (stp 3 _ (by omega) rfl).1 (Pn.mk ⟨bA, LdI.cell (stp 3 _ (by omega) rfl).2 (Bm.neg (by simp) ?_)⟩)⟩
    refine Pn.mk ⟨bA, LdI.cell (stp 4 _ (by omega) rfl).1 (Pn.mk ⟨bA, LdI.cell (stp 4 _ (by omega) rfl).2 (Bm.neg (by simp) ?_)⟩)⟩
    refine Pn.mk ⟨bA, LdI.cell (stp 5 _ (by omega) rfl).1 (Pn.mk ⟨bA, LdI.cell (stp 5 _ (by omega) rfl).2 ?_⟩)⟩
    rw [bne_self_eq_false]
    unfold iplaw_SamePending.B1
    refine Bm.neg rfl ?_
    rw [w64 (by omega) (by omega)]
    exact ⟨(M.rows.length - (i + 1)).toNat, by omega, rfl, rfl, rfl, rfl, rfl, rfl, by omega, by omega, rfl, hEd⟩
  · exact hR b w' hb (hE.own (he2.own ho1 (by simp)) (by simp)) ((he1.trans he2).trans hE)
theorem samePeek_ok {j : Int} {R : Option Addr → Nat → Nat → Bool → World → Prop} (hr : RealAt w p S) (hm : ModAt w q M) (hrel : Rel M.rows S)
    (hR : ∀ b n cs w', w.heap.size ≤ b → Own w' b cs 3 → cs.size = n → n ≤ 40 → Ext [] w w' → R (some ⟨b, 0, none⟩) n n true w') : iplaw_SamePeek.Call (some ⟨p, 0, none⟩) (some ⟨q, 0, none⟩) j w R := by
  apply iplaw_SamePeek.sound
  unfold iplaw_SamePeek.B0
  -- the comparison
  have cmp : ∀ (b b2 n : Nat) (v : List Int) (w2 : World), w.heap.size ≤ b → Own w2 b (i64L v).toArray 3 → Own w2 b2 (i64L v).toArray 3 → v.length = n → n ≤ 40 → Ext [] w w2 → Bm (((n : Nat) : Int) != ((n : Nat) : Int)) (R (some ⟨b, 0, none⟩) n n false w2) (iplaw_SamePeek.L1 (some ⟨b, 0, none⟩) n n (some ⟨b2, 0, none⟩) n n 0 w2 R) := by
    intro b b2 n v w2 hb ho1 ho2 hl hn hE0
    refine Bm.neg (by simp) ?_
    unfold iplaw_SamePeek.L1
    refine ⟨fun m ab al ac bb bl bc i w' => some ⟨b, 0, none⟩ = ab ∧ n = al ∧ n = ac ∧ some ⟨b2, 0, none⟩ = bb ∧ n = bl ∧ n = bc ∧ 0 ≤ i ∧ i ≤ n ∧ m = (n - i).toNat ∧ Ext [] w2 w', n, ⟨rfl, rfl, rfl, rfl, rfl, rfl, by omega, by omega, by omega, Ext.refl _ _⟩, ?_⟩
    rintro m ab al ac bb bl bc i w' ⟨rfl, rfl, rfl, rfl, rfl, rfl, i0, i1, rfl, hE⟩
    unfold iplaw_SamePeek.L1b
    refine Bm.ite (fun hi => ?_) (fun hi => ?_)
    · have hEd : Ext [] w2 w'.drew := hE.trans (Ext.drew [] w')
      have hoa := hEd.own ho1 (by simp)
      have hob := hEd.own ho2 (by simp)
      obtain ⟨x, hx⟩ : ∃ x, v[i.toNat]? = some x := ⟨_, List.getElem?_eq_getElem (by omega)⟩
      have hg : (i64L v).toArray[i.toNat]? = some (.int .i64 x) := by simp [i64L, hx]
      refine Pn.mk ⟨⟨i0, hi⟩, LdI.cell (by rw [add_mk, Nat.zero_add, Nat.mul_one]; exact hoa.cell hg) (Pn.mk ⟨⟨i0, hi⟩, LdI.cell (by rw [add_mk, Nat.zero_add, Nat.mul_one]; exact hob.cell hg) (Bm.neg (by simp) ?_)⟩)⟩
      rw [w64 (by omega) (by omega)]
      exact ⟨(n - (i + 1)).toNat, by omega, rfl, rfl, rfl, rfl, rfl, rfl, by omega, by omega, rfl, hEd⟩
    · exact hR b n _ w' hb (hE.own ho1 (by simp)) (by simp [i64L, hl]) hn (hE0.trans hE)
  have hL40 : ∀ r ∈ M.rows, r.cell.length = 40 := fun r hr => (hrel.rwf r hr).len
  refine realPeek_ok hr hrel (fun hout b w1 hb ho1 he1 => ?_) (fun r b w1 hj hrr hb ho1 he1 => ?_)
  · refine modPeek_ok (hm.ext0 he1) (fun _ b2 w2 hb2 ho2 he2 => ?_) (fun r b2 w2 hj hrr => ?_)
    · exact cmp b b2 0 [] w2 hb (he2.own ho1 (by simp)) ho2 rfl (by omega) (he1.trans he2)
    · have := (List.getElem?_eq_some_iff.1 hrr).1
      omega
  · refine modPeek_ok (hm.ext0 he1) (fun hout => ?_) (fun r' b2 w2 hj' hrr' hb2 ho2 he2 => ?_)
    · have := (List.getElem?_eq_some_iff.1 hrr).1
      omega
    · rw [hrr] at hrr'
      simp at hrr'
      subst hrr'
      exact cmp b b2 40 r.cell w2 hb (he2.own ho1 (by simp)) ho2 (hL40 r (List.mem_of_getElem? hrr)) (by omega) (he1.trans he2)
theorem alike_ok {R : Bool → World → Prop} (hr : RealAt w p S) (hm : ModAt w q M) (hrel : Rel M.rows S) (hn : NumWf S) (hs : M.addr = S.addr ∧ M.next = S.next ∧ M.credit = S.credit) (hR : ∀ w', Ext [] w w' → R true w') : iplaw_Alike.Call (some ⟨p, 0, none⟩) (some ⟨q, 0, none⟩) w R := by
  apply iplaw_Alike.sound
  unfold iplaw_Alike.B0
  refine sameAddr_ok hr hm hs.1 (Bm.neg rfl (sameNextId_ok hr hm hs.2.1 (Bm.neg rfl (sameCredit_ok hr hm hs.2.2 (Bm.neg rfl (samePending_ok hr hm hrel fun b w1 hb ho1 he1 => Bm.neg rfl ?_))))))
  unfold iplaw_Alike.L1
  refine ⟨fun m x y i w' => some ⟨p, 0, none⟩ = x ∧ some ⟨q, 0, none⟩ = y ∧ -1 ≤ i ∧ i ≤ 4 ∧ m = (4 - i).toNat ∧ Ext [] w w', 5, ⟨rfl, rfl, by omega, by omega, rfl, he1⟩, ?_⟩
  rintro m x y i w' ⟨rfl, rfl, i0, i1, rfl, hE⟩
  unfold iplaw_Alike.L1b
  have hr' : RealAt w' p S := hE.own hr (by simp)
  refine Bm.ite (fun hi => samePeek_ok hr' (hm.ext0 hE) hrel fun b n cs w2 hb ho2 hcs hn' he2 => Bm.neg rfl ?_) (fun hi => realCheck_ok hr' hrel hn fun w2 he2 => hR w2 (hE.trans he2))
  rw [w64 (by omega) (by omega)]
  exact ⟨(4 - (i + 1)).toNat, by omega, rfl, rfl, by omega, by omega, rfl, hE.trans he2⟩
end
section
variable {w : World} {a : Nat} {σ : LS} {N : Int}
theorem both_ok {R : Bool → World → Prop} (h : LawAt w a σ N) (hR : ∀ w', Ext [] w w' → R true w') : iplaw_World_Both.Call (some ⟨a, 0, none⟩) w R := by
  apply iplaw_World_Both.sound
  unfold iplaw_World_Both.B0
  have hd := h.ext0 (Ext.drew [] w)
  refine Pn.mk ⟨⟨by omega, by omega⟩, LdP.cell (hd.ptr (by omega)) (Pn.mk ⟨⟨by omega, by omega⟩, LdP.cell (by rw [add_mk, Nat.zero_add]; exact hd.ptrQ (c := 0) (by omega)) (alike_ok (hd.real 0 (by omega)) (hd.mod 0 (by omega)) (hd.rel 0 (by omega)) (hd.num 0 (by omega)) (hd.same 0 (by omega)) fun w1 he1 => Bm.neg rfl ?_)⟩)⟩
  have E1 : Ext [] w w1.drew := ((Ext.drew [] w).trans he1).trans (Ext.drew [] w1)
  have h1 := h.ext0 E1
  exact Pn.mk ⟨⟨by omega, by omega⟩, LdP.cell (by rw [add_mk, Nat.zero_add]; exact h1.ptr (by omega)) (Pn.mk ⟨⟨by omega, by omega⟩, LdP.cell (by rw [add_mk, add_mk, Nat.zero_add]; exact h1.ptrQ (c := 1) (by omega)) (alike_ok (h1.real 1 (by omega)) (h1.mod 1 (by omega)) (h1.rel 1 (by omega)) (h1.num 1 (by omega)) (h1.same 1 (by omega)) fun w2 he2 => hR w2 (E1.trans he2))⟩)⟩
/-- One kept list's item. -/
theorem LawAt.item (h : LawAt w a σ N) {i j : Nat} (h1 : 1 ≤ i) (hi : i < 5) (hj : j < (σ.ls i).n) : ∃ k n, (σ.ls i).vs[j]? = some (.slice (some ⟨k, 0, none⟩) n n) ∧ Own w k (stampArr n (lS i) (lR i)) (lE i) ∧ n ≤ 9223372036854775807 := by
  have hl := (h.row i hi).1
  obtain ⟨v, hv⟩ : ∃ v, (σ.ls i).vs[j]? = some v := ⟨_, List.getElem?_eq_getElem (by omega)⟩
  obtain ⟨k, n, e, ho, _, hn⟩ := h.kept i h1 hi v (List.mem_of_getElem? hv)
  exact ⟨k, n, by rw [hv, e], ho, hn⟩
theorem LawAt.len (h : LawAt w a σ N) {i : Nat} (hi : i < 5) : w.cell? ⟨a, 4 + i, none⟩ = some (.slice (σ.ls i).b (σ.ls i).n (σ.ls i).c) := h.own.cell (h.cellL hi)
theorem untouched_ok {R : Bool → World → Prop} (h : LawAt w a σ N) (hN : N ≤ 90000000) (hR : ∀ w', Ext [] w w' → R true w') : iplaw_World_Untouched.Call (some ⟨a, 0, none⟩) w R := by
  apply iplaw_World_Untouched.sound
  unfold iplaw_World_Untouched.B0
  have hc1 := h.cnt 1 (by omega)
  have hc2 := h.cnt 2 (by omega)
  have hc3 := h.cnt 3 (by omega)
  have hc4 := h.cnt 4 (by omega)
  -- the last list: Mine
  have l7 : ∀ w', Ext [] w w' → iplaw_World_Untouched.L7 (some ⟨a, 0, none⟩) 0 w' R := by
    intro w' hE
    unfold iplaw_World_Untouched.L7
    refine ⟨fun m a' j w'' => some ⟨a, 0, none⟩ = a' ∧ 0 ≤ j ∧ j ≤ (σ.ls 1).n ∧ m = ((σ.ls 1).n - j).toNat ∧ Ext [] w w'', (σ.ls 1).n, ⟨rfl, by omega, by omega, by omega, hE⟩, ?_⟩
    rintro m a' j w'' ⟨rfl, j0, j1, rfl, hE2⟩
    unfold iplaw_World_Untouched.L7b
    have h2 := h.ext0 hE2
    refine Pn.mk (LdL.cell (by rw [add_mk, Nat.zero_add]; exact h2.len (i := 1) (by omega)) (Bm.ite (fun hj => ?_) (fun hj => hR w'' hE2)))
    obtain ⟨k, n, hv, ho, hn⟩ := h2.item (i := 1) (j := j.toNat) (by omega) (by omega) (by omega)
    unfold iplaw_World_Untouched.L8
    refine ⟨fun m a' j' i w3 => some ⟨a, 0, none⟩ = a' ∧ j = j' ∧ 0 ≤ i ∧ i ≤ n ∧ m = (n - i).toNat ∧ w'' = w3, n, ⟨rfl, rfl, by omega, by omega, by omega, rfl⟩, ?_⟩
    rintro m a' j' i w3 ⟨rfl, rfl, i0, i1, rfl, rfl⟩
    unfold iplaw_World_Untouched.L8b
    refine KL.ld (s := 5) h2.own (h2.cellL (i := 1) (by omega)) (h2.row 1 (by omega)) j0 hv (Bm.ite (fun hi => ?_) (fun hi => ?_))
    · refine KL.ld (s := 5) h2.own (h2.cellL (i := 1) (by omega)) (h2.row 1 (by omega)) j0 hv (Pn.mk ⟨⟨i0, hi⟩, LdI.cell (n := 165) ?_ (Bm.neg (by simp) ?_)⟩)
      · rw [add_mk, Nat.zero_add]
        refine ho.cell ?_
        have := stampArr_get (n := n) (sz := lS 1) (rc := lR 1) (i := i.toNat) (f := 0) (by omega) (by decide)
        exact this
      · rw [w64 (by omega) (by omega)]
        exact ⟨(n - (i + 1)).toNat, by omega, rfl, rfl, by omega, by omega, rfl, rfl⟩
    · rw [w64 (by omega) (by omega)]
      exact ⟨((σ.ls 1).n - (j + 1)).toNat, by omega, rfl, by omega, by omega, rfl, hE2⟩
  -- Nums
  have l5 : ∀ w', Ext [] w w' → iplaw_World_Untouched.L5 (some ⟨a, 0, none⟩) 0 w' R := by
    intro w' hE
    unfold iplaw_World_Untouched.L5
    refine ⟨fun m a' j w'' => some ⟨a, 0, none⟩ = a' ∧ 0 ≤ j ∧ j ≤ (σ.ls 3).n ∧ m = ((σ.ls 3).n - j).toNat ∧ Ext [] w w'', (σ.ls 3).n, ⟨rfl, by omega, by omega, by omega, hE⟩, ?_⟩
    rintro m a' j w'' ⟨rfl, j0, j1, rfl, hE2⟩
    unfold iplaw_World_Untouched.L5b
    have h2 := h.ext0 hE2
    refine Pn.mk (LdL.cell (by rw [add_mk, Nat.zero_add]; exact h2.len (i := 3) (by omega)) (Bm.ite (fun hj => ?_) (fun hj => l7 w'' hE2)))
    obtain ⟨k, n, hv, ho, hn⟩ := h2.item (i := 3) (j := j.toNat) (by omega) (by omega) (by omega)
    unfold iplaw_World_Untouched.L6
    refine ⟨fun m a' j' i w3 => some ⟨a, 0, none⟩ = a' ∧ j = j' ∧ 0 ≤ i ∧ i ≤ n ∧ m = (n - i).toNat ∧ w'' = w3, n, ⟨rfl, rfl, by omega, by omega, by omega, rfl⟩, ?_⟩
    rintro m a' j' i w3 ⟨rfl, rfl, i0, i1, rfl, rfl⟩
    unfold iplaw_World_Untouched.L6b
    refine KL.ld (s := 7) h2.own (h2.cellL (i := 3) (by omega)) (h2.row 3 (by omega)) j0 hv (Bm.ite (fun hi => ?_) (fun hi => ?_))
    · refine KL.ld (s := 7) h2.own (h2.cellL (i := 3) (by omega)) (h2.row 3 (by omega)) j0 hv (Pn.mk ⟨⟨i0, hi⟩, LdI.cell (n := 165) ?_ (Bm.neg (by simp) ?_)⟩)
      · rw [add_mk, Nat.zero_add]
        refine ho.cell ?_
        have := stampArr_get (n := n) (sz := lS 3) (rc := lR 3) (i := i.toNat) (f := 0) (by omega) (by decide)
        exact this
      · rw [w64 (by omega) (by omega)]
        exact ⟨(n - (i + 1)).toNat, by omega, rfl, rfl, by omega, by omega, rfl, rfl⟩
    · rw [w64 (by omega) (by omega)]
      exact ⟨((σ.ls 3).n - (j + 1)).toNat, by omega, rfl, by omega, by omega, rfl, hE2⟩
  -- Rows
  have l3 : ∀ w', Ext [] w w' → iplaw_World_Untouched.L3 (some ⟨a, 0, none⟩) 0 w' R := by
    intro w' hE
    unfold iplaw_World_Untouched.L3
    refine ⟨fun m a' j w'' => some ⟨a, 0, none⟩ = a' ∧ 0 ≤ j ∧ j ≤ (σ.ls 2).n ∧ m = ((σ.ls 2).n - j).toNat ∧ Ext [] w w'', (σ.ls 2).n, ⟨rfl, by omega, by omega, by omega, hE⟩, ?_⟩
    rintro m a' j w'' ⟨rfl, j0, j1, rfl, hE2⟩
    unfold iplaw_World_Untouched.L3b
    have h2 := h.ext0 hE2
    refine Pn.mk (LdL.cell (by rw [add_mk, Nat.zero_add]; exact h2.len (i := 2) (by omega)) (Bm.ite (fun hj => ?_) (fun hj => l5 w'' hE2)))
    obtain ⟨k, n, hv, ho0, hn⟩ := h2.item (i := 2) (j := j.toNat) (by omega) (by omega) (by omega)
    unfold iplaw_World_Untouched.L4
    refine ⟨fun m a' j' i w3 => some ⟨a, 0, none⟩ = a' ∧ j = j' ∧ 0 ≤ i ∧ i ≤ n ∧ m = (n - i).toNat ∧ Ext [] w'' w3, n, ⟨rfl, rfl, by omega, by omega, by omega, Ext.refl _ _⟩, ?_⟩
    rintro m a' j' i w3 ⟨rfl, rfl, i0, i1, rfl, hE3⟩
    unfold iplaw_World_Untouched.L4b
    have h3 := h2.ext0 hE3
    have ho := hE3.own ho0 (by simp)
    refine KL.ld (s := 6) h3.own (h3.cellL (i := 2) (by omega)) (h3.row 2 (by omega)) j0 hv (Bm.ite (fun hi => ?_) (fun hi => ?_))
    · have g : ∀ f, f < 6 → w3.cell? ⟨k, i.toNat * 6 + f, none⟩ = some (.int .i64 165) := fun f hf => by
        refine ho.cell ?_
        have := stampArr_get (n := n) (sz := lS 2) (rc := lR 2) (i := i.toNat) (f := f) (by omega) hf
        have e6 : lS 2 = 6 := rfl
        rw [e6] at this
        rw [e6, this]
        have : f = 0 ∨ f = 1 ∨ f = 2 ∨ f = 3 ∨ f = 4 ∨ f = 5 := by omega
        rcases this with rfl | rfl | rfl | rfl | rfl | rfl <;> rfl
      have g' : ∀ f, f < 6 → w3.cell? (Addr.add (Addr.add ⟨k, 0, none⟩ (i.toNat * 6)) f) = some (.int .i64 165) := fun f hf => by
        rw [add_mk, add_mk, Nat.zero_add]
        exact g f hf
      refine KL.ld (s := 6) h3.own (h3.cellL (i := 2) (by omega)) (h3.row 2 (by omega)) j0 hv (Pn.mk ⟨⟨i0, hi⟩, LdI.cell (n := 165) (by rw [add_mk, Nat.zero_add]; exact g 0 (by omega)) (LdI.cell (g' 1 (by omega)) (LdI.cell (g' 2 (by omega)) (LdI.cell (g' 3 (by omega)) (LdI.cell (g' 4 (by omega)) (LdI.cell (g' 5 (by omega)) (NewSet.mk rfl rfl fun rb w5 hrb hs5 ho5 he5 => ?_))))))⟩)
      refine LdI.mk ho5 rfl (Bm.neg (by simp) (LdI.mk ho5 rfl (Bm.neg (by simp) (LdI.mk ho5 rfl (Bm.neg (by simp) (LdI.mk ho5 rfl (Bm.neg (by simp) (LdI.mk ho5 rfl (Bm.neg (by simp) (LdI.mk ho5 rfl ?_))))))))))
      rw [bne_self_eq_false]
      unfold iplaw_World_Untouched.B1
      refine Bm.neg rfl ?_
      rw [w64 (by omega) (by omega)]
      exact ⟨(n - (i + 1)).toNat, by omega, rfl, rfl, by omega, by omega, rfl, hE3.trans he5⟩
    · rw [w64 (by omega) (by omega)]
      exact ⟨((σ.ls 2).n - (j + 1)).toNat, by omega, rfl, by omega, by omega, rfl, hE2.trans hE3⟩
  -- Outs
  unfold iplaw_World_Untouched.L1
  refine ⟨fun m a' j w'' => some ⟨a, 0, none⟩ = a' ∧ 0 ≤ j ∧ j ≤ (σ.ls 4).n ∧ m = ((σ.ls 4).n - j).toNat ∧ Ext [] w w'', (σ.ls 4).n, ⟨rfl, by omega, by omega, by omega, Ext.refl _ _⟩, ?_⟩
  rintro m a' j w'' ⟨rfl, j0, j1, rfl, hE2⟩
  unfold iplaw_World_Untouched.L1b
  have h2 := h.ext0 hE2
  refine Pn.mk (LdL.cell (by rw [add_mk, Nat.zero_add]; exact h2.len (i := 4) (by omega)) (Bm.ite (fun hj => ?_) (fun hj => l3 w'' hE2)))
  obtain ⟨k, n, hv, ho, hn⟩ := h2.item (i := 4) (j := j.toNat) (by omega) (by omega) (by omega)
  unfold iplaw_World_Untouched.L2
  refine ⟨fun m a' j' i w3 => some ⟨a, 0, none⟩ = a' ∧ j = j' ∧ 0 ≤ i ∧ i ≤ n ∧ m = (n - i).toNat ∧ w'' = w3, n, ⟨rfl, rfl, by omega, by omega, by omega, rfl⟩, ?_⟩
  rintro m a' j' i w3 ⟨rfl, rfl, i0, i1, rfl, rfl⟩
  unfold iplaw_World_Untouched.L2b
  refine KL.ld (s := 8) h2.own (h2.cellL (i := 4) (by omega)) (h2.row 4 (by omega)) j0 hv (Bm.ite (fun hi => ?_) (fun hi => ?_))
  · refine KL.ld (s := 8) h2.own (h2.cellL (i := 4) (by omega)) (h2.row 4 (by omega)) j0 hv (Pn.mk ⟨⟨i0, hi⟩, LdL.cell (s := none) (l := 0) (c := 0) ?_ (Bm.neg (by simp) ?_)⟩)
    · rw [add_mk, Nat.zero_add]
      refine ho.cell ?_
      have := stampArr_get (n := n) (sz := lS 4) (rc := lR 4) (i := i.toNat) (f := 0) (by omega) (by decide)
      exact this
    · rw [w64 (by omega) (by omega)]
      exact ⟨(n - (i + 1)).toNat, by omega, rfl, rfl, by omega, by omega, rfl, rfl⟩
  · rw [w64 (by omega) (by omega)]
    exact ⟨((σ.ls 4).n - (j + 1)).toNat, by omega, rfl, by omega, by omega, rfl, hE2⟩
end
end Go.Proofs.Qxb6500425a
