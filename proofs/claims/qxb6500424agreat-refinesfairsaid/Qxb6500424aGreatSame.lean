/-
  api.SameBytes.
-/
import Derived.Test.Qxb6500424aGreatBytes
set_option linter.unusedVariables false
open Go.Vc
namespace Go.Proofs.Qxb6500424aGreat

theorem sameBytes_ok {w : World} {ab bb : Option Addr} {al ac bl bc : Nat} {u v : List Int} {R : Bool → World → Prop} (hu : Rd w ab u) (hv : Rd w bb v) (hal : u.length = al) (hbl : v.length = bl) (hb : al ≤ 281474976710656)
    (hR : ∀ w', Ext [] w w' → w'.heap.size = w.heap.size → R (decide (u = v)) w') : api_SameBytes.Call ab al ac bb bl bc w R := by
  apply api_SameBytes.sound
  unfold api_SameBytes.B0
  refine Bm.mk (fun h => ?_) (fun h => ?_)
  · have hne : u ≠ v := fun e => by subst e; simp at h; omega
    have := hR w (Ext.refl _ _) rfl
    rwa [decide_eq_false hne] at this
  · have hlen : al = bl := by
      have h2 : ((al : Nat) : Int) = bl := by simpa using h
      omega
    subst hlen
    unfold api_SameBytes.L1
    refine ⟨fun m ab' al' ac' bb' bl' bc' i w' => ab = ab' ∧ al = al' ∧ ac = ac' ∧ bb = bb' ∧ al = bl' ∧ bc = bc' ∧ 0 ≤ i ∧ i ≤ al ∧ m = (al - i).toNat ∧ Ext [] w w' ∧ w'.heap.size = w.heap.size ∧ u.take i.toNat = v.take i.toNat, al, ⟨rfl, rfl, rfl, rfl, rfl, rfl, by omega, by omega, by omega, Ext.refl _ _, rfl, by simp⟩, ?_⟩
    rintro m ab' al' ac' bb' bl' bc' i w' ⟨rfl, rfl, rfl, rfl, rfl, rfl, h0, h1, rfl, he, hsz, ht⟩
    unfold api_SameBytes.L1b
    refine Bm.ite (fun hi => ?_) (fun hi => ?_)
    · obtain ⟨x, hx⟩ : ∃ x, u[i.toNat]? = some x := ⟨_, List.getElem?_eq_getElem (by omega)⟩
      obtain ⟨y, hy⟩ : ∃ y, v[i.toNat]? = some y := ⟨_, List.getElem?_eq_getElem (by omega)⟩
      have hed : Ext [] w w'.drew := he.trans (Ext.drew _ _)
      obtain ⟨k, o, rfl, hc⟩ := (hu.ext0 hed).at hx
      obtain ⟨k2, o2, rfl, hc2⟩ := (hv.ext0 hed).at hy
      refine Pn.mk ⟨⟨h0, by omega⟩, LdI.cell (by rw [add_mk, Nat.mul_one]; exact hc) (Pn.mk ⟨⟨h0, by omega⟩, LdI.cell (by rw [add_mk, Nat.mul_one]; exact hc2) ?_⟩)⟩
      refine Bm.mk (fun hne => ?_) (fun heq => ?_)
      · have hne' : u ≠ v := fun e => by subst e; rw [hx] at hy; simp at hy hne; exact hne hy
        have := hR w'.drew hed hsz
        rwa [decide_eq_false hne'] at this
      · have hxy : x = y := by simpa using heq
        rw [w64 (by omega) (by omega)]
        refine ⟨(al - (i + 1)).toNat, by omega, rfl, rfl, rfl, rfl, rfl, rfl, by omega, by omega, rfl, hed, hsz, ?_⟩
        have e : (i + 1).toNat = i.toNat + 1 := by omega
        rw [e, List.take_add_one, List.take_add_one, ht, hx, hy, hxy]
    · have hi' : i.toNat = al := by omega
      rw [hi', List.take_of_length_le (by omega), List.take_of_length_le (by omega)] at ht
      have := hR w' he hsz
      rwa [decide_eq_true ht] at this
end Go.Proofs.Qxb6500424aGreat
