/-
  ip: the real layer's lay and Input.
-/
import Derived.Test.Qxb6500424aGreatIpD
set_option linter.unusedVariables false
set_option linter.unusedSimpArgs false
open Go.Vc
namespace Go.Proofs.Qxb6500424aGreat.Ip

theorem setS_setS (S : IPS) (i : Nat) (a b : Slot) : (S.setS i a).setS i b = S.setS i b := by
  unfold IPS.setS updS
  congr 1
  funext j
  by_cases h : j = i <;> simp [h]
def bufL (s : Slot) (off : Nat) (d : List Int) (k : Nat) : Nat → Int := fun j => if off ≤ j ∧ j < off + k then d.getD (j - off) 0 else s.buf j
def laid (s : Slot) (off : Nat) (d : List Int) : Slot := { s with buf := bufL s off d d.length, held := s.held ||| belowN d.length <<< off }
theorem bufL_step (s : Slot) (off : Nat) (d : List Int) (k : Nat) {x : Int} (hx : d[k]? = some x) : updB (bufL s off d k) (off + k) x = bufL s off d (k + 1) := by
  funext j
  unfold updB bufL
  by_cases h : j = off + k
  · subst h
    rw [if_pos rfl, if_pos (by omega), show off + k - off = k by omega, getD_of hx]
  · rw [if_neg h]
    by_cases h2 : off ≤ j ∧ j < off + k
    · rw [if_pos h2, if_pos (by omega)]
    · rw [if_neg h2, if_neg (by omega)]
theorem laid_abs {s : Slot} {off : Nat} {d : List Int} (h : off + d.length ≤ 40) : (laid s off d).abs = { s.abs with cell := layC s.abs.cell off d } := by
  unfold laid Slot.abs layC
  simp only
  congr 1
  apply List.map_congr_left
  intro k hk
  have hk' := List.mem_range.1 hk
  rw [testBit_lay]
  unfold bufL
  by_cases h1 : off ≤ k ∧ k < off + d.length
  · simp [h1]
  · rw [if_neg h1, if_neg h1, decide_eq_false h1, Bool.or_false]
    simp [hd, List.getD, hk']
theorem laid_wf {s : Slot} {off : Nat} {d : List Int} (hs : SlotWf s) (hd : IsB d) (h : off + d.length ≤ 40) : SlotWf (laid s off d) := by
  refine ⟨(lay_bits hs.held h).2, fun k hk => ?_⟩
  show 0 ≤ bufL s off d d.length k ∧ bufL s off d d.length k < 256
  unfold bufL
  split
  · rename_i h1
    obtain ⟨x, hx⟩ : ∃ x, d[k - off]? = some x := ⟨_, List.getElem?_eq_getElem (by omega)⟩
    rw [getD_of hx]
    exact hd.get hx
  · exact hs.buf k hk
theorem lay_ok {w : World} {p : Nat} {S : IPS} {i off : Nat} {b : Option Addr} {l c : Nat} {d : List Int} {R : World → Prop} (h : RealAt w p S) (hi : i < 3) (hs : SlotWf (S.sl i)) (hv : Rd w b d) (hl : d.length = l) (ho : off + l ≤ 40) (hbp : ∀ k o, b = some ⟨k, o, none⟩ → k ≠ p)
    (hR : ∀ w', w'.heap.size = w.heap.size → RealAt w' p (S.setS i (laid (S.sl i) off d)) → Ext [p] w w' → R w') : ip_IP_lay.Call (some ⟨p, 0, none⟩) (i : Int) (off : Int) b l c w R := by
  apply ip_IP_lay.sound
  unfold ip_IP_lay.B0 ip_IP_lay.L1
  refine ⟨fun m p' i' off' b' l' c' k w' => some ⟨p, 0, none⟩ = p' ∧ (i : Int) = i' ∧ (off : Int) = off' ∧ b = b' ∧ l = l' ∧ c = c' ∧ 0 ≤ k ∧ k ≤ l ∧ m = (l - k).toNat ∧ w'.heap.size = w.heap.size ∧ Ext [p] w w' ∧ RealAt w' p (S.setS i { S.sl i with buf := bufL (S.sl i) off d k.toNat }), l,
    ⟨rfl, rfl, rfl, rfl, rfl, rfl, by omega, by omega, by omega, rfl, Ext.refl _ _, ?_⟩, ?_⟩
  · have e : S.setS i { S.sl i with buf := bufL (S.sl i) off d (0 : Int).toNat } = S := by
      have eb : bufL (S.sl i) off d (0 : Int).toNat = (S.sl i).buf := by
        funext j
        unfold bufL
        rw [if_neg (by simp)]
      rw [eb]
      unfold IPS.setS updS
      have : (fun j => if j = i then S.sl i else S.sl j) = S.sl := by
        funext j
        by_cases hj : j = i <;> simp [hj]
      show ({ S with sl := fun j => if j = i then S.sl i else S.sl j } : IPS) = S
      rw [this]
    rw [e]
    exact h
  · rintro m p' i' off' b' l' c' k w' ⟨rfl, rfl, rfl, rfl, rfl, rfl, k0, k1, rfl, hsz, he, hr⟩
    unfold ip_IP_lay.L1b
    simp only [Int.toNat_natCast]
    refine Bm.ite (fun hk => ?_) (fun hk => ?_)
    · obtain ⟨x, hx⟩ : ∃ x, d[k.toNat]? = some x := ⟨_, List.getElem?_eq_getElem (by omega)⟩
      obtain ⟨kb, ob, rfl, hc⟩ := (hv.ext (he.trans (Ext.drew [p] w')) (fun k o e hk => hbp k o e (by simpa using hk))).at hx
      rw [w64 (x := (off : Int) + k) (by omega) (by omega)]
      refine Pn.mk ⟨⟨k0, hk⟩, LdI.cell (by rw [add_mk, Nat.mul_one]; exact hc) (Pn.mk ⟨⟨by omega, by omega⟩, ⟨by omega, by omega⟩, ?_⟩)⟩
      rw [add_mk, add_mk, add_mk, add_mk, show 0 + 3 + i * 45 + 5 + ((off : Int) + k).toNat * 1 = 3 + i * 45 + (5 + (off + k.toNat)) by omega]
      refine RealAt.st hr.drew (by omega) rfl (put_buf _ i (k := off + k.toNat) (by omega) x) fun w2 hs2 hr2 he2 => ?_
      rw [w64 (x := k + 1) (by omega) (by omega)]
      refine ⟨(l - (k + 1)).toNat, by omega, by trivial, by trivial, by trivial, by trivial, by trivial, by trivial, by omega, by omega, rfl, hs2.trans hsz, (he.trans (Ext.drew [p] w')).trans he2, ?_⟩
      rw [setS_same, setS_setS] at hr2
      have e : (k + 1).toNat = k.toNat + 1 := by omega
      rw [e, ← bufL_step (S.sl i) off d k.toNat hx]
      exact hr2
    · have ek : k.toNat = l := by omega
      have hd := hr.drew
      have hheld : ((S.setS i { S.sl i with buf := bufL (S.sl i) off d k.toNat }).sl i).held = (S.sl i).held := by rw [setS_same]
      have hc := hd.held hi
      rw [hheld] at hc
      refine Pn.mk ⟨⟨by omega, by omega⟩, LdI.cell (by rw [add_mk, add_mk, add_mk, Nat.zero_add]; exact hc) (Pn.mk (below_ok (by omega) ⟨by rw [add_mk, add_mk, add_mk, Nat.zero_add]; exact hc, by rw [w64u (by omega) (by omega)]; omega, ⟨by omega, by omega⟩, ?_⟩))⟩
      rw [add_mk, add_mk, add_mk, Nat.zero_add, (lay_bits hs.held (by omega)).1]
      refine RealAt.st hd (by omega) rfl (put_held _ i _) fun w2 hs2 hr2 he2 => hR w2 (hs2.trans hsz) ?_ ((he.trans (Ext.drew [p] w')).trans he2)
      rw [setS_same, setS_setS, ek] at hr2
      unfold laid
      rw [hl]
      exact hr2
end Go.Proofs.Qxb6500424aGreat.Ip
