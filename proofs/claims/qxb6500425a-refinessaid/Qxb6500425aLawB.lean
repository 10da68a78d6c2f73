/-
  ip: the law's invariant.
-/
import Derived.Test.Qxb6500425aLawA
set_option linter.unusedVariables false
set_option linter.unusedSimpArgs false
open Go.Vc
namespace Go.Proofs.Qxb6500425a

/-- The lists: 0 the pool, 1 Mine, 2 Rows, 3 Nums, 4 Outs. -/
def lT (i : Nat) : TypeId := if i = 0 then 9 else if i = 1 then 68 else if i = 2 then 58 else if i = 3 then 61 else 38
def lE (i : Nat) : TypeId := if i = 1 then 5 else if i = 2 then 70 else if i = 3 then 3 else 68
def lS (i : Nat) : Nat := if i = 2 then 6 else 1
def lR (i : Nat) : List Value := if i = 1 then [.int .u8 165] else if i = 2 then [.int .i64 165, .int .i64 165, .int .i64 165, .int .i64 165, .int .i64 165, .int .i64 165] else if i = 3 then [.int .i64 165] else [.slice none 0 0]
structure LS where
  P : Nat → Nat
  Q : Nat → Nat
  S : Nat → IPS
  M : Nat → MS
  ls : Nat → KL
def lawCell (σ : LS) (j : Nat) : Value := if j < 2 then .pointer (some ⟨σ.P j, 0, none⟩) else if j < 4 then .pointer (some ⟨σ.Q (j - 2), 0, none⟩) else (σ.ls (j - 4)).val
def lBlk (σ : LS) : List Nat := rowBlk (σ.ls 0).b ++ (rowBlk (σ.ls 1).b ++ (rowBlk (σ.ls 2).b ++ (rowBlk (σ.ls 3).b ++ rowBlk (σ.ls 4).b)))
def LS.foot (σ : LS) (a : Nat) : List Nat := a :: σ.P 0 :: σ.P 1 :: ((σ.M 0).foot (σ.Q 0) ++ ((σ.M 1).foot (σ.Q 1) ++ lBlk σ))
theorem mem_lBlk {σ : LS} {i k : Nat} (hi : i < 5) (hk : k ∈ rowBlk (σ.ls i).b) : k ∈ lBlk σ := by
  have : i = 0 ∨ i = 1 ∨ i = 2 ∨ i = 3 ∨ i = 4 := by omega
  simp only [lBlk, List.mem_append]
  rcases this with rfl | rfl | rfl | rfl | rfl
  · exact .inl hk
  · exact .inr (.inl hk)
  · exact .inr (.inr (.inl hk))
  · exact .inr (.inr (.inr (.inl hk)))
  · exact .inr (.inr (.inr (.inr hk)))
theorem lBlk_mem {σ : LS} {k : Nat} (hk : k ∈ lBlk σ) : ∃ i, i < 5 ∧ k ∈ rowBlk (σ.ls i).b := by
  simp only [lBlk, List.mem_append] at hk
  rcases hk with h | h | h | h | h
  · exact ⟨0, by omega, h⟩
  · exact ⟨1, by omega, h⟩
  · exact ⟨2, by omega, h⟩
  · exact ⟨3, by omega, h⟩
  · exact ⟨4, by omega, h⟩
theorem mem_foot {σ : LS} {a k : Nat} : k ∈ σ.foot a ↔ k = a ∨ (∃ c, c < 2 ∧ k = σ.P c) ∨ (∃ c, c < 2 ∧ k ∈ (σ.M c).foot (σ.Q c)) ∨ ∃ i, i < 5 ∧ k ∈ rowBlk (σ.ls i).b := by
  simp only [LS.foot, List.mem_cons, List.mem_append]
  constructor
  · rintro (h | h | h | h | h | h)
    · exact .inl h
    · exact .inr (.inl ⟨0, by omega, h⟩)
    · exact .inr (.inl ⟨1, by omega, h⟩)
    · exact .inr (.inr (.inl ⟨0, by omega, h⟩))
    · exact .inr (.inr (.inl ⟨1, by omega, h⟩))
    · exact .inr (.inr (.inr (lBlk_mem h)))
  · rintro (h | ⟨c, hc, h⟩ | ⟨c, hc, h⟩ | ⟨i, hi, h⟩)
    · exact .inl h
    · have : c = 0 ∨ c = 1 := by omega
      rcases this with rfl | rfl
      · exact .inr (.inl h)
      · exact .inr (.inr (.inl h))
    · have : c = 0 ∨ c = 1 := by omega
      rcases this with rfl | rfl
      · exact .inr (.inr (.inr (.inl h)))
      · exact .inr (.inr (.inr (.inr (.inl h))))
    · exact .inr (.inr (.inr (.inr (.inr (mem_lBlk hi h)))))
structure LawAt (w : World) (a : Nat) (σ : LS) (N : Int) : Prop where
  own : Own w a (fnArr 9 (lawCell σ)) 43
  real : ∀ c, c < 2 → RealAt w (σ.P c) (σ.S c)
  mod : ∀ c, c < 2 → ModAt w (σ.Q c) (σ.M c)
  rel : ∀ c, c < 2 → Rel (σ.M c).rows (σ.S c)
  num : ∀ c, c < 2 → NumWf (σ.S c)
  same : ∀ c, c < 2 → (σ.M c).addr = (σ.S c).addr ∧ (σ.M c).next = (σ.S c).next ∧ (σ.M c).credit = (σ.S c).credit
  pne : σ.P 0 ≠ σ.P 1
  apart : ∀ k ∈ (σ.M 0).foot (σ.Q 0), k ∉ (σ.M 1).foot (σ.Q 1)
  row : ∀ i, i < 5 → Row w (σ.ls i).b (σ.ls i).n (σ.ls i).c 1 (lT i) (σ.ls i).vs
  pool : ∀ v ∈ (σ.ls 0).vs, ∃ s : ByteArray, v = .string s ∧ s.size ≤ 140737488351232
  kept : ∀ i, 1 ≤ i → i < 5 → Kept w (σ.foot a) (lE i) (lS i) (lR i) (σ.ls i).vs
  cnt : ∀ i, i < 5 → ((σ.ls i).n : Int) ≤ N
/-- What one step leaves. -/
structure Next (w : World) (a : Nat) (σ σ' : LS) (N' : Int) (w' : World) : Prop where
  law : LawAt w' a σ' N'
  ext : Ext (σ.foot a) w w'
  grew : Grew w (σ.foot a) (σ'.foot a)

section
variable {w w' : World} {a : Nat} {σ : LS} {N : Int}
theorem LawAt.ptr (h : LawAt w a σ N) {c : Nat} (hc : c < 2) : w.cell? ⟨a, c, none⟩ = some (.pointer (some ⟨σ.P c, 0, none⟩)) := by
  refine h.own.cell ?_
  rw [fnArr_get _ (by omega)]
  unfold lawCell
  rw [if_pos hc]
theorem LawAt.ptrQ (h : LawAt w a σ N) {c : Nat} (hc : c < 2) : w.cell? ⟨a, 2 + c, none⟩ = some (.pointer (some ⟨σ.Q c, 0, none⟩)) := by
  refine h.own.cell ?_
  rw [fnArr_get _ (by omega)]
  unfold lawCell
  rw [if_neg (by omega), if_pos (by omega), show 2 + c - 2 = c by omega]
theorem LawAt.cellL (h : LawAt w a σ N) {i : Nat} (hi : i < 5) : (fnArr 9 (lawCell σ))[4 + i]? = some (σ.ls i).val := by
  rw [fnArr_get _ (by omega)]
  unfold lawCell
  rw [if_neg (by omega), if_neg (by omega), show 4 + i - 4 = i by omega]
theorem LawAt.ldP (h : LawAt w a σ N) {c : Int} (h0 : 0 ≤ c) (h2 : c < 2) {K : Option Addr → Prop} (hk : K (some ⟨σ.P c.toNat, 0, none⟩)) : LdP (Addr.add ⟨a, 0, none⟩ (c.toNat * 1)) w K :=
  LdP.cell (by rw [add_mk, Nat.mul_one, Nat.zero_add]; exact h.ptr (by omega)) hk
theorem LawAt.ldQ (h : LawAt w a σ N) {c : Int} (h0 : 0 ≤ c) (h2 : c < 2) {K : Option Addr → Prop} (hk : K (some ⟨σ.Q c.toNat, 0, none⟩)) : LdP (Addr.add (Addr.add ⟨a, 0, none⟩ 2) (c.toNat * 1)) w K :=
  LdP.cell (by rw [add_mk, add_mk, Nat.mul_one, Nat.zero_add]; exact h.ptrQ (by omega)) hk
theorem LawAt.ext0 (h : LawAt w a σ N) (he : Ext [] w w') : LawAt w' a σ N :=
  ⟨he.own h.own (by simp), fun c hc => he.own (h.real c hc) (by simp), fun c hc => (h.mod c hc).ext0 he, h.rel, h.num, h.same, h.pne, h.apart, fun i hi => (h.row i hi).ext he (fun _ _ hk => by cases hk), h.pool, fun i h1 hi => (h.kept i h1 hi).ext he (fun x hx _ => by cases hx) (Grew.refl _ _), h.cnt⟩
theorem LawAt.up {M : Int} (h : LawAt w a σ N) (hm : N ≤ M) : LawAt w a σ M := ⟨h.own, h.real, h.mod, h.rel, h.num, h.same, h.pne, h.apart, h.row, h.pool, h.kept, fun i hi => by have := h.cnt i hi; omega⟩
/-- Every block of the law's has one of its types. -/
theorem LawAt.ty (h : LawAt w a σ N) {k : Nat} (hk : k ∈ σ.foot a) : ∃ cs t, Own w k cs t ∧ t ∈ [43, 54, 57, 85, 3, 9, 68, 58, 61, 38] := by
  rcases mem_foot.1 hk with e | ⟨c, hc, e⟩ | ⟨c, hc, e⟩ | ⟨i, hi, e⟩
  · subst e; exact ⟨_, _, h.own, by decide⟩
  · subst e; exact ⟨_, _, h.real c hc, by decide⟩
  · obtain ⟨cs, t, ho, ht⟩ := (h.mod c hc).footTy e
    refine ⟨cs, t, ho, ?_⟩
    rcases ht with rfl | rfl | rfl <;> decide
  · obtain ⟨cs, ho⟩ := rowTy (h.row i hi) e
    refine ⟨cs, _, ho, ?_⟩
    have : i = 0 ∨ i = 1 ∨ i = 2 ∨ i = 3 ∨ i = 4 := by omega
    rcases this with rfl | rfl | rfl | rfl | rfl <;> decide
theorem LawAt.lt (h : LawAt w a σ N) {k : Nat} (hk : k ∈ σ.foot a) : k < w.heap.size := by
  obtain ⟨_, _, ho, _⟩ := h.ty hk
  exact ho.lt
/-- A block of another type is none of the law's. -/
theorem LawAt.not (h : LawAt w a σ N) {k : Nat} {cs : Array Value} {t : TypeId} (ho : Own w k cs t) (ht : t ∉ [43, 54, 57, 85, 3, 9, 68, 58, 61, 38]) : k ∉ σ.foot a := fun hk => by
  obtain ⟨cs', t', ho', ht'⟩ := h.ty hk
  rw [(ho.unique ho').2] at ht
  exact ht ht'
theorem LawAt.notNew (h : LawAt w a σ N) {k : Nat} (hk : w.heap.size ≤ k) : k ∉ σ.foot a := fun hx => by
  have := h.lt hx
  omega
/-- A stretch that writes blocks beyond the law's alone, none of them kept. -/
theorem LawAt.extN (h : LawAt w a σ N) {S : List Nat} (he : Ext S w w') (hs : ∀ x ∈ S, w.heap.size ≤ x) : LawAt w' a σ N := h.ext0 (he.mono (fun x hx hlt => by have := hs x hx; omega))

/-! ### a list grown -/
def updL (f : Nat → KL) (i : Nat) (x : KL) : Nat → KL := fun j => if j = i then x else f j
def LS.setL (σ : LS) (i : Nat) (x : KL) : LS := { σ with ls := updL σ.ls i x }
theorem put_list (σ : LS) {i : Nat} (hi : i < 5) (x : KL) : ∀ j, j < 9 → fnPut (lawCell σ) (4 + i) [x.val] j = lawCell (σ.setL i x) j := by
  intro j hj
  unfold fnPut lawCell LS.setL updL
  by_cases e : j = 4 + i
  · subst e
    rw [if_pos (by simp), if_neg (by omega), if_neg (by omega)]
    simp
  · rw [if_neg (by simp; omega)]
    by_cases h2 : j < 2
    · rw [if_pos h2, if_pos h2]
    · rw [if_neg h2, if_neg h2]
      by_cases h4 : j < 4
      · rw [if_pos h4, if_pos h4]
      · rw [if_neg h4, if_neg h4]
        show _ = (if j - 4 = i then x else σ.ls (j - 4)).val
        rw [if_neg (by omega)]
theorem setL_same (σ : LS) (i : Nat) (x : KL) : (σ.setL i x).ls i = x := by simp [LS.setL, updL]
theorem setL_ne (σ : LS) {i j : Nat} (x : KL) (h : j ≠ i) : (σ.setL i x).ls j = σ.ls j := by simp [LS.setL, updL, h]
theorem lT_inj {i j : Nat} (hi : i < 5) (hj : j < 5) (h : i ≠ j) : lT i ≠ lT j := by
  have h1 : i = 0 ∨ i = 1 ∨ i = 2 ∨ i = 3 ∨ i = 4 := by omega
  have h2 : j = 0 ∨ j = 1 ∨ j = 2 ∨ j = 3 ∨ j = 4 := by omega
  rcases h1 with rfl | rfl | rfl | rfl | rfl <;> rcases h2 with rfl | rfl | rfl | rfl | rfl <;> first | exact absurd rfl h | decide
theorem lT_not (i : Nat) (hi : i < 5) : lT i ≠ 43 ∧ lT i ≠ 54 ∧ lT i ≠ 57 ∧ lT i ≠ 85 ∧ lT i ≠ 3 := by
  have h1 : i = 0 ∨ i = 1 ∨ i = 2 ∨ i = 3 ∨ i = 4 := by omega
  rcases h1 with rfl | rfl | rfl | rfl | rfl <;> decide
/-- List i has grown; the block k (no block of the law's, none that is kept) may have been written. -/
theorem LawAt.grow (h : LawAt w a σ N) {i k : Nat} {x : KL} (hi : i < 5) (he : Ext (k :: a :: rowBlk (σ.ls i).b) w w') (hown : Own w' a (fnArr 9 (lawCell (σ.setL i x))) 43) (hrow : Row w' x.b x.n x.c 1 (lT i) x.vs) (hgr : ∀ y ∈ rowBlk x.b, y ∈ rowBlk (σ.ls i).b ∨ w.heap.size ≤ y)
    (hk : k ∉ σ.foot a) (hkk : ∀ j, 1 ≤ j → j < 5 → KeptNot k (σ.ls j).vs) (hpool : i = 0 → ∀ v ∈ x.vs, ∃ s : ByteArray, v = .string s ∧ s.size ≤ 140737488351232)
    (hkept : 1 ≤ i → Kept w' ((σ.setL i x).foot a) (lE i) (lS i) (lR i) (σ.ls i).vs → Kept w' ((σ.setL i x).foot a) (lE i) (lS i) (lR i) x.vs) (hcnt : ∀ j, j < 5 → (((σ.setL i x).ls j).n : Int) ≤ N + 1) :
    Grew w (σ.foot a) ((σ.setL i x).foot a) ∧ LawAt w' a (σ.setL i x) (N + 1) := by
  have hg : Grew w (σ.foot a) ((σ.setL i x).foot a) := fun y hy => by
    rcases mem_foot.1 hy with e | e | e | ⟨j, hj, e⟩
    · exact .inl (mem_foot.2 (.inl e))
    · exact .inl (mem_foot.2 (.inr (.inl e)))
    · exact .inl (mem_foot.2 (.inr (.inr (.inl e))))
    · by_cases ej : j = i
      · subst ej
        rw [setL_same] at e
        rcases hgr y e with q | q
        · exact .inl (mem_foot.2 (.inr (.inr (.inr ⟨j, hj, q⟩))))
        · exact .inr q
      · rw [setL_ne _ _ ej] at e
        exact .inl (mem_foot.2 (.inr (.inr (.inr ⟨j, hj, e⟩))))
  refine ⟨hg, ?_⟩
  -- what the law holds apart from a and the list itself is not written
  have hnot : ∀ {y : Nat} {cs : Array Value} {t : TypeId}, y ∈ σ.foot a → Own w y cs t → t ≠ 43 → t ≠ lT i → y ∉ k :: a :: rowBlk (σ.ls i).b := fun {y cs t} hy ho h1 h2 hx => by
    rcases List.mem_cons.1 hx with e | hx
    · subst e; exact hk hy
    rcases List.mem_cons.1 hx with e | hx
    · subst e; exact h1 (ho.unique h.own).2
    · obtain ⟨cs', ho'⟩ := rowTy (h.row i hi) hx
      exact h2 (ho.unique ho').2
  have hlt := lT_not i hi
  have hK : ∀ j, 1 ≤ j → j < 5 → Kept w' ((σ.setL i x).foot a) (lE j) (lS j) (lR j) (σ.ls j).vs := fun j h1 h5 => (h.kept j h1 h5).ext1 (hkk j h1 h5) he (fun y hy _ => by
    rcases List.mem_cons.1 hy with e | hy
    · exact mem_foot.2 (.inl e)
    · exact mem_foot.2 (.inr (.inr (.inr ⟨i, hi, hy⟩)))) hg
  refine ⟨hown, fun c hc => he.own (h.real c hc) (hnot (mem_foot.2 (.inr (.inl ⟨c, hc, rfl⟩))) (h.real c hc) (by decide) (Ne.symm hlt.2.1)), fun c hc => (h.mod c hc).ext he (fun y hy => ?_), h.rel, h.num, h.same, h.pne, h.apart, fun j hj => ?_, fun v hv => ?_, fun j h1 hj => ?_, hcnt⟩
  · obtain ⟨cs, t, ho, ht⟩ := (h.mod c hc).footTy hy
    refine hnot (mem_foot.2 (.inr (.inr (.inl ⟨c, hc, hy⟩)))) ho ?_ ?_
    · rcases ht with rfl | rfl | rfl <;> decide
    · rcases ht with rfl | rfl | rfl
      · exact Ne.symm hlt.2.2.1
      · exact Ne.symm hlt.2.2.2.1
      · exact Ne.symm hlt.2.2.2.2
  · by_cases ej : j = i
    · subst ej
      rw [setL_same]
      exact hrow
    · rw [setL_ne _ _ ej]
      refine (h.row j hj).ext he (fun y hy => ?_)
      obtain ⟨cs, ho⟩ := rowTy (h.row j hj) hy
      exact hnot (mem_foot.2 (.inr (.inr (.inr ⟨j, hj, hy⟩)))) ho (lT_not j hj).1 (lT_inj hj hi ej)
  · by_cases ej : 0 = i
    · subst ej
      rw [setL_same] at hv
      exact hpool rfl v hv
    · rw [setL_ne _ _ ej] at hv
      exact h.pool v hv
  · by_cases ej : j = i
    · subst ej
      rw [setL_same]
      exact hkept h1 (hK j h1 hj)
    · rw [setL_ne _ _ ej]
      exact hK j h1 hj

/-! ### a node stepped -/
def updF {α : Type} (f : Nat → α) (c : Nat) (x : α) : Nat → α := fun j => if j = c then x else f j
def LS.setN (σ : LS) (c : Nat) (S : IPS) (M : MS) : LS := { σ with S := updF σ.S c S, M := updF σ.M c M }
theorem LawAt.stepped (h : LawAt w a σ N) {c : Nat} {S : IPS} {M : MS} (hc : c < 2) (he : Ext (σ.P c :: (σ.M c).foot (σ.Q c)) w w') (hr : RealAt w' (σ.P c) S) (hm : ModAt w' (σ.Q c) M) (hrel : Rel M.rows S) (hnum : NumWf S) (hsame : M.addr = S.addr ∧ M.next = S.next ∧ M.credit = S.credit) (hg : Grew w ((σ.M c).foot (σ.Q c)) (M.foot (σ.Q c))) :
    Next w a σ (σ.setN c S M) N w' := by
  have hMne : ∀ c', c' ≠ c → (σ.setN c S M).M c' = σ.M c' := fun c' hne => by simp [LS.setN, updF, hne]
  have hSne : ∀ c', c' ≠ c → (σ.setN c S M).S c' = σ.S c' := fun c' hne => by simp [LS.setN, updF, hne]
  have hMc : (σ.setN c S M).M c = M := by simp [LS.setN, updF]
  have hSc : (σ.setN c S M).S c = S := by simp [LS.setN, updF]
  have hsub : ∀ x ∈ σ.P c :: (σ.M c).foot (σ.Q c), x < w.heap.size → x ∈ σ.foot a := fun x hx _ => by
    rcases List.mem_cons.1 hx with e | hx
    · exact mem_foot.2 (.inr (.inl ⟨c, hc, e⟩))
    · exact mem_foot.2 (.inr (.inr (.inl ⟨c, hc, hx⟩)))
  have hgf : Grew w (σ.foot a) ((σ.setN c S M).foot a) := fun y hy => by
    rcases mem_foot.1 hy with e | e | ⟨c', hc', e⟩ | e
    · exact .inl (mem_foot.2 (.inl e))
    · exact .inl (mem_foot.2 (.inr (.inl e)))
    · by_cases ec : c' = c
      · subst ec
        rw [hMc] at e
        rcases hg y e with q | q
        · exact .inl (mem_foot.2 (.inr (.inr (.inl ⟨c', hc', q⟩))))
        · exact .inr q
      · rw [hMne c' ec] at e
        exact .inl (mem_foot.2 (.inr (.inr (.inl ⟨c', hc', e⟩))))
    · exact .inl (mem_foot.2 (.inr (.inr (.inr e))))
  have hpc := h.real c hc
  have hmc := h.mod c hc
  have hty : ∀ {y : Nat} {cs : Array Value} {t : TypeId}, Own w y cs t → t ≠ 54 → t ≠ 57 → t ≠ 85 → t ≠ 3 → y ∉ σ.P c :: (σ.M c).foot (σ.Q c) := fun {y cs t} ho h1 h2 h3 h4 hx => by
    rcases List.mem_cons.1 hx with e | hx
    · subst e
      exact h1 (ho.unique hpc).2
    · obtain ⟨cs', t', ho', ht'⟩ := hmc.footTy hx
      have e := (ho.unique ho').2
      subst e
      rcases ht' with e | e | e
      · exact h2 e
      · exact h3 e
      · exact h4 e
  have hother : ∀ c', c' < 2 → c' ≠ c → σ.P c' ≠ σ.P c ∧ ∀ k ∈ (σ.M c').foot (σ.Q c'), k ∉ (σ.M c).foot (σ.Q c) := fun c' hc' hne => by
    have h1 : (c = 0 ∧ c' = 1) ∨ (c = 1 ∧ c' = 0) := by omega
    rcases h1 with ⟨rfl, rfl⟩ | ⟨rfl, rfl⟩
    · exact ⟨fun e => h.pne e.symm, fun k hk hk2 => h.apart k hk2 hk⟩
    · exact ⟨h.pne, h.apart⟩
  refine ⟨⟨he.own h.own (hty h.own (by decide) (by decide) (by decide) (by decide)), fun c' hc' => ?_, fun c' hc' => ?_, fun c' hc' => ?_, fun c' hc' => ?_, fun c' hc' => ?_, h.pne, ?_, fun i hi => ?_, h.pool, fun i h1 hi => (h.kept i h1 hi).ext he hsub hgf, h.cnt⟩, he.mono hsub, hgf⟩
  · by_cases ec : c' = c
    · subst ec; rw [hSc]; exact hr
    · rw [hSne c' ec]
      refine he.own (h.real c' hc') (fun hx => ?_)
      rcases List.mem_cons.1 hx with e | hx
      · exact (hother c' hc' ec).1 e
      · obtain ⟨cs', t', ho', ht'⟩ := hmc.footTy hx
        have e := (Own.unique (h.real c' hc') ho').2
        rcases ht' with e2 | e2 | e2 <;> rw [e2] at e <;> exact absurd e (by decide)
  · by_cases ec : c' = c
    · subst ec; rw [hMc]; exact hm
    · rw [hMne c' ec]
      refine (h.mod c' hc').ext he (fun k hk hx => ?_)
      rcases List.mem_cons.1 hx with e | hx
      · subst e
        obtain ⟨cs', t', ho', ht'⟩ := (h.mod c' hc').footTy hk
        have e := (Own.unique hpc ho').2
        rcases ht' with e2 | e2 | e2 <;> rw [e2] at e <;> exact absurd e (by decide)
      · exact (hother c' hc' ec).2 k hk hx
  · by_cases ec : c' = c
    · subst ec; rw [hMc, hSc]; exact hrel
    · rw [hMne c' ec, hSne c' ec]; exact h.rel c' hc'
  · by_cases ec : c' = c
    · subst ec; rw [hSc]; exact hnum
    · rw [hSne c' ec]; exact h.num c' hc'
  · by_cases ec : c' = c
    · subst ec; rw [hMc, hSc]; exact hsame
    · rw [hMne c' ec, hSne c' ec]; exact h.same c' hc'
  · intro k hk hk2
    have hQ : (σ.setN c S M).Q = σ.Q := rfl
    rw [hQ] at hk hk2
    have h1 : c = 0 ∨ c = 1 := by omega
    rcases h1 with rfl | rfl
    · rw [hMc] at hk
      rw [hMne 1 (by omega)] at hk2
      rcases hg k hk with q | q
      · exact h.apart k q hk2
      · have := (h.mod 1 (by omega)).lt hk2
        omega
    · rw [hMc] at hk2
      rw [hMne 0 (by omega)] at hk
      rcases hg k hk2 with q | q
      · exact h.apart k hk q
      · have := (h.mod 0 (by omega)).lt hk
        omega
  · refine (h.row i hi).ext he (fun y hy => ?_)
    obtain ⟨cs, ho⟩ := rowTy (h.row i hi) hy
    have := lT_not i hi
    exact hty ho this.2.1 this.2.2.1 this.2.2.2.1 this.2.2.2.2
end
end Go.Proofs.Qxb6500425a
