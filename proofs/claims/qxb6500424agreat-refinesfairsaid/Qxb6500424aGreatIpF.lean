/-
  ip: the real layer's Input.
-/
import Derived.Test.Qxb6500424aGreatIpE
set_option linter.unusedVariables false
set_option linter.unusedSimpArgs false
open Go.Vc
namespace Go.Proofs.Qxb6500424aGreat.Ip

structure RowWf (r : AR) : Prop where
  key : 0 ≤ r.key ∧ r.key < 16777216
  left : 1 ≤ r.left ∧ r.left ≤ 4
  len : r.cell.length = 40
  cell : ∀ x ∈ r.cell, -1 ≤ x ∧ x < 256
  some : ∃ k, k < 40 ∧ 0 ≤ hd r.cell k
  tot : r.total = -1 ∨ (1 ≤ r.total ∧ r.total ≤ 40 ∧ (∀ k, r.total.toNat ≤ k → k < 40 → hd r.cell k < 0) ∧ rowFull r = false)
structure Rel (A : List AR) (S : IPS) : Prop where
  perm : A.Perm (tab S)
  sorted : Sorted A
  kne : KeysNe S
  swf : ∀ i, i < 3 → SlotWf (S.sl i)
  rwf : ∀ r ∈ A, RowWf r

theorem Rel.mem {A : List AR} {S : IPS} (h : Rel A S) {i : Nat} (hi : i < 3) (hu : (S.sl i).used = true) : (S.sl i).abs ∈ A := h.perm.symm.subset (mem_tab.2 ⟨i, hi, hu, rfl⟩)
theorem Rel.find {A : List AR} {S : IPS} (h : Rel A S) {i : Nat} (hi : i < 3) (hu : (S.sl i).used = true) {key : Int} (hk : (S.sl i).key = key) : A.find? (fun x => decide (x.key = key)) = some (S.sl i).abs := by
  cases hf : A.find? (fun x => decide (x.key = key)) with
  | none =>
    have := List.find?_eq_none.1 hf _ (h.mem hi hu)
    simp [Slot.abs, hk] at this
  | some r =>
    have hr := List.mem_of_find?_eq_some hf
    have hrk : r.key = key := by simpa using List.find?_some hf
    obtain ⟨j, hj, huj, rfl⟩ := mem_tab.1 (h.perm.subset hr)
    by_cases e : j = i
    · rw [e]
    · exact absurd (hrk.trans hk.symm) (h.kne j i hj hi e huj hu)
theorem Rel.find_none {A : List AR} {S : IPS} (h : Rel A S) {key : Int} (hn : ∀ i, i < 3 → ¬ ((S.sl i).used = true ∧ (S.sl i).key = key)) : A.find? (fun x => decide (x.key = key)) = none ∧ ∀ x ∈ A, x.key ≠ key := by
  have hall : ∀ x ∈ A, x.key ≠ key := fun x hx e => by
    obtain ⟨j, hj, huj, rfl⟩ := mem_tab.1 (h.perm.subset hx)
    exact hn j hj ⟨huj, e⟩
  refine ⟨List.find?_eq_none.2 fun x hx => by simpa using hall x hx, hall⟩
theorem Rel.length {A : List AR} {S : IPS} (h : Rel A S) : (A.length = 3 ↔ ∀ i, i < 3 → (S.sl i).used = true) := by
  rw [h.perm.length_eq, tab_length]
  constructor
  · intro e i hi
    have : i = 0 ∨ i = 1 ∨ i = 2 := by omega
    cases h0 : (S.sl 0).used <;> cases h1 : (S.sl 1).used <;> cases h2 : (S.sl 2).used <;> rw [h0, h1, h2] at e <;> simp at e
    rcases this with rfl | rfl | rfl <;> assumption
  · intro e
    rw [e 0 (by omega), e 1 (by omega), e 2 (by omega)]
    rfl

/-- The zero answer handed out. -/
theorem retNone {w : World} {t4 nn : Nat} {cs : Array Value} {e : Int} {R : Int → Int → Int → Option Addr → Nat → Nat → Int → World → Prop} (hn : Own w nn #[.int .i64 0, .int .i64 0, .int .i64 0, .slice none 0 0] T_api_Datagram) (ht : Own w t4 cs T_api_Datagram) (hc : cs.size = 4)
    (hR : ∀ w', w'.heap.size = w.heap.size → Ext [t4] w w' → R 0 0 0 none 0 0 e w') :
    LdI .i64 ⟨nn, 0, none⟩ w fun x0 => LdI .i64 ⟨nn, 1, none⟩ w fun x1 => LdI .i64 ⟨nn, 2, none⟩ w fun x2 => LdL ⟨nn, 3, none⟩ w fun xb xl xc =>
    Sts [.int .i64 x0, .int .i64 x1, .int .i64 x2, .slice xb xl xc] ⟨t4, 0, none⟩ 0 w fun w1 =>
    LdI .i64 ⟨t4, 0, none⟩ w1 fun r0 => LdI .i64 ⟨t4, 1, none⟩ w1 fun r1 => LdI .i64 ⟨t4, 2, none⟩ w1 fun r2 => LdL ⟨t4, 3, none⟩ w1 fun rb rl rc => R r0 r1 r2 rb rl rc e w1 :=
  LdI.mk hn rfl (LdI.mk hn rfl (LdI.mk hn rfl (LdL.mk hn rfl (Sts.full ht (by simp [hc]) rfl fun w1 hs ho he => LdI.mk ho rfl (LdI.mk ho rfl (LdI.mk ho rfl (LdL.mk ho rfl (hR w1 hs he))))))))
/-- Any answer handed out. -/
theorem retUp {w : World} {t4 nn : Nat} {cs : Array Value} {e a b c : Int} {xb : Option Addr} {xl xc : Nat} {R : Int → Int → Int → Option Addr → Nat → Nat → Int → World → Prop} (hn : Own w nn #[.int .i64 a, .int .i64 b, .int .i64 c, .slice xb xl xc] T_api_Datagram) (ht : Own w t4 cs T_api_Datagram) (hc : cs.size = 4)
    (hR : ∀ w', w'.heap.size = w.heap.size → Ext [t4] w w' → R a b c xb xl xc e w') :
    LdI .i64 ⟨nn, 0, none⟩ w fun x0 => LdI .i64 ⟨nn, 1, none⟩ w fun x1 => LdI .i64 ⟨nn, 2, none⟩ w fun x2 => LdL ⟨nn, 3, none⟩ w fun xb xl xc =>
    Sts [.int .i64 x0, .int .i64 x1, .int .i64 x2, .slice xb xl xc] ⟨t4, 0, none⟩ 0 w fun w1 =>
    LdI .i64 ⟨t4, 0, none⟩ w1 fun r0 => LdI .i64 ⟨t4, 1, none⟩ w1 fun r1 => LdI .i64 ⟨t4, 2, none⟩ w1 fun r2 => LdL ⟨t4, 3, none⟩ w1 fun rb rl rc => R r0 r1 r2 rb rl rc e w1 :=
  LdI.mk hn rfl (LdI.mk hn rfl (LdI.mk hn rfl (LdL.mk hn rfl (Sts.full ht (by simp [hc]) rfl fun w1 hs ho he => LdI.mk ho rfl (LdI.mk ho rfl (LdI.mk ho rfl (LdL.mk ho rfl (hR w1 hs he))))))))

/-! ### what the table becomes -/
theorem setS_keysNe {S : IPS} {i : Nat} {s' : Slot} (hk : KeysNe S) (h : s'.used = true → (S.sl i).used = true ∧ s'.key = (S.sl i).key) : KeysNe (S.setS i s') := by
  intro a b ha hb hab ua ub
  by_cases ea : a = i
  · subst ea
    rw [setS_same] at ua ⊢
    rw [setS_ne _ _ (fun e => hab e.symm)] at ub ⊢
    obtain ⟨h1, h2⟩ := h ua
    rw [h2]
    exact hk a b ha hb hab h1 ub
  · rw [setS_ne _ _ ea] at ua ⊢
    by_cases eb : b = i
    · subst eb
      rw [setS_same] at ub ⊢
      obtain ⟨h1, h2⟩ := h ub
      rw [h2]
      exact hk a b ha hb hab ua h1
    · rw [setS_ne _ _ eb] at ub ⊢
      exact hk a b ha hb hab ua ub
theorem setS_swf {S : IPS} {i : Nat} {s' : Slot} (h : ∀ j, j < 3 → SlotWf (S.sl j)) (hs : SlotWf s') : ∀ j, j < 3 → SlotWf ((S.setS i s').sl j) := by
  intro j hj
  by_cases e : j = i
  · subst e; rw [setS_same]; exact hs
  · rw [setS_ne _ _ e]; exact h j hj
theorem Rel.drop {A : List AR} {S : IPS} (h : Rel A S) {i : Nat} {s' : Slot} (hi : i < 3) (hu : (S.sl i).used = true) (hu' : s'.used = false) (hs : SlotWf s') : Rel (remA (S.sl i).key A) (S.setS i s') := by
  refine ⟨?_, filter_sorted h.sorted, setS_keysNe h.kne (fun e => by rw [hu'] at e; cases e), setS_swf h.swf hs, fun r hr => h.rwf r (List.mem_filter.1 hr).1⟩
  rw [← tab_rem hi hu hu' h.kne]
  exact h.perm.filter _
theorem Rel.set {A : List AR} {S : IPS} (h : Rel A S) {i : Nat} {s' : Slot} (hi : i < 3) (hu : (S.sl i).used = true) (hu' : s'.used = true) (hk : s'.key = (S.sl i).key) (hs : SlotWf s') (hw : RowWf s'.abs) : Rel (setA s'.abs A) (S.setS i s') := by
  have hk' : s'.abs.key = (S.sl i).key := hk
  refine ⟨?_, ?_, setS_keysNe h.kne (fun _ => ⟨hu, hk⟩), setS_swf h.swf hs, fun r hr => ?_⟩
  · rw [← tab_set hi hu hu' h.kne]
    unfold setA
    rw [hk']
    exact h.perm.map _
  · refine map_sorted h.sorted fun x _ => ?_
    by_cases e : x.key = s'.abs.key
    · rw [if_pos e]; exact e.symm
    · rw [if_neg e]
  · obtain ⟨x, hx, rfl⟩ := List.mem_map.1 hr
    by_cases e : x.key = s'.abs.key
    · rw [if_pos e]; exact hw
    · rw [if_neg e]; exact h.rwf x hx
theorem Rel.add {A : List AR} {S : IPS} (h : Rel A S) {i : Nat} {s' : Slot} (hi : i < 3) (hu : (S.sl i).used = false) (hu' : s'.used = true) (hk : ∀ x ∈ A, x.key ≠ s'.key) (hs : SlotWf s') (hw : RowWf s'.abs) : Rel (insA s'.abs A) (S.setS i s') := by
  refine ⟨((insA_perm _ _).trans (h.perm.cons _)).trans (tab_add hi hu hu'), insA_sorted h.sorted hk, ?_, setS_swf h.swf hs, fun r hr => ?_⟩
  · intro a b ha hb hab ua ub
    have other : ∀ j, j < 3 → (S.sl j).used = true → (S.sl j).key ≠ s'.key := fun j hj huj => hk _ (h.mem hj huj)
    by_cases ea : a = i
    · subst ea
      rw [setS_same] at ua ⊢
      rw [setS_ne _ _ (fun e => hab e.symm)] at ub ⊢
      exact fun e => other b hb ub e.symm
    · rw [setS_ne _ _ ea] at ua ⊢
      by_cases eb : b = i
      · subst eb
        rw [setS_same]
        exact other a ha ua
      · rw [setS_ne _ _ eb] at ub ⊢
        exact h.kne a b ha hb hab ua ub
  · rcases List.mem_cons.1 ((insA_perm _ _).subset hr) with e | hx
    · rw [e]; exact hw
    · exact h.rwf r hx
end Go.Proofs.Qxb6500424aGreat.Ip
