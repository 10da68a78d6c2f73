/-
  host: the law's wire: Flip.
-/
import Derived.Test.Qxb6500424aGreatHwC
set_option linter.unusedVariables false
set_option linter.unusedSimpArgs false
open Go.Vc
namespace Go.Proofs.Qxb6500424aGreat
section
variable {lo : Nat} {w w' : World} {p : Nat} {W : List (FL × Nat)}
def flipF (f : FL) (bit : Int) : FL := ⟨f.raw.set (bit / 8).toNat (Fm.flipV (f.raw.getD (bit / 8).toNat 0) (bit % 8).toNat), f.age, true⟩
/-- One bit of a frame in flight is turned. -/
theorem wFlip_ok {i bit : Int} {R : Bool → World → Prop} (h : WireAt lo w p W) (hbig : ∀ e ∈ W, e.1.raw.length ≤ 1000000) (hbit : bit < 9223372036854775808) (hno : R false w)
    (hok : ∀ e, 0 ≤ i → W[i.toNat]? = some e → e.1.fl = false → 0 ≤ bit → bit / 8 < (e.1.raw.length : Int) → ∀ w', WireAt lo w' p (W.set i.toNat (flipF e.1 bit, e.2)) → (∃ X, Ext (e.2 :: X) w w' ∧ Tys w X wireTys ∧ ∀ x ∈ X, lo ≤ x) → R true w') : wirem_Wire_Flip.Call (some ⟨p, 0, none⟩) i bit w R := by
  apply wirem_Wire_Flip.sound
  unfold wirem_Wire_Flip.B0
  obtain ⟨b, l, c, o, r⟩ := h.ex
  have hlen := WireAt.rlen r
  have h64 := h.len
  have bad : wirem_Wire_Flip.B1 (some ⟨p, 0, none⟩) i bit true w R := by
    unfold wirem_Wire_Flip.B1
    exact Bm.pos rfl hno
  refine Bm.ite (fun q => bad) (fun q => Pn.mk (LdL.mk o rfl (Bm.ite (fun q2 => bad) (fun q2 => Pn.mk (LdL.mk o rfl ?_)))))
  have hlt : i.toNat < W.length := by omega
  obtain ⟨e, he⟩ : ∃ e, W[i.toNat]? = some e := ⟨_, List.getElem?_eq_getElem hlt⟩
  obtain ⟨kb, rfl, hc⟩ := flCell r he
  have a1 : Addr.add ⟨kb, 0, none⟩ (i.toNat * 3) = ⟨kb, i.toNat * 3 + 0, none⟩ := by rw [add_mk, Nat.zero_add, Nat.add_zero]
  have a3 : (Addr.add ⟨kb, 0, none⟩ (i.toNat * 3)).add 2 = ⟨kb, i.toNat * 3 + 2, none⟩ := add2 _ _ _
  refine Pn.mk ⟨⟨by omega, by omega⟩, ?_⟩
  rw [a3]
  refine LdB.cell (hc 2 _ (by omega) rfl) (Bm.mk (fun q3 => bad) (fun q3 => Bm.ite (fun q4 => bad) (fun q4 => ⟨by decide, Pn.mk (LdL.mk o rfl (Pn.mk ⟨⟨by omega, by omega⟩, ?_⟩))⟩)))
  rw [a1]
  refine LdL.cell (hc 0 _ (by omega) rfl) ?_
  have hem := List.mem_of_getElem? he
  have hd := h.dat e hem
  have hb := hbig e hem
  unfold wirem_Wire_Flip.B1
  have etd : IntKind.i64.wrap (bit.tdiv 8) = bit / 8 := by rw [Int.tdiv_eq_ediv_of_nonneg (by omega), w64 (by omega) (by omega)]
  have etm : IntKind.u64.wrap (bit.tmod 8) = bit % 8 := by rw [Int.tmod_eq_emod_of_nonneg (by omega), Ip.w64u (by omega) (by omega)]
  rw [etd, etm]
  refine Bm.ite (fun _ => hno) (fun hbl' => ?_)
  have hbl : bit / 8 < (e.1.raw.length : Int) := by omega
  refine Pn.mk (LdL.mk o rfl (Pn.mk ⟨⟨by omega, by omega⟩, ?_⟩))
  rw [a1]
  refine LdL.cell (hc 0 _ (by omega) rfl) ⟨by decide, Pn.mk ⟨⟨by omega, by omega⟩, ?_⟩⟩
  obtain ⟨x, hx⟩ : ∃ x, e.1.raw[(bit / 8).toNat]? = some x := ⟨_, List.getElem?_eq_getElem (by omega)⟩
  have aB : Addr.add ⟨e.2, 0, none⟩ ((bit / 8).toNat * 1) = ⟨e.2, (bit / 8).toNat, none⟩ := by rw [add_mk, Nat.zero_add, Nat.mul_one]
  rw [aB]
  refine LdI.cell (hd.1.cell (by rw [List.getElem?_toArray, U8_get, hx]; rfl)) ⟨by decide, by omega, Pn.mk ⟨⟨by omega, by omega⟩, ?_⟩⟩
  rw [aB]
  have hxd : e.1.raw.getD (bit / 8).toNat 0 = x := Fm.getD_of hx
  refine hd.set (by omega) (Fm.flipV_isB x (bit % 8).toNat) fun w1 hs1 hf1 he1 => ?_
  have hke : e.2 ≠ p := Own.ne_type hd.1 o (by decide)
  have o1 := he1.own o (by simp; exact fun z => hke z.symm)
  have r1 : Row w1 (some ⟨kb, 0, none⟩) l c 3 T_wirem_Flight (W.flatMap flC) := r.ext he1 (fun k hk hq => by
    simp at hq
    subst hq
    obtain ⟨cs, ho⟩ := r.ty hk
    exact Own.ne_type hd.1 ho (by decide) rfl)
  refine Pn.mk (LdL.mk o1 rfl (Pn.mk ⟨⟨by omega, by omega⟩, ?_⟩))
  rw [a3]
  refine r1.put (by simp; omega) rfl fun w2 hs2 r2 he2 => ?_
  have r2' : Row w2 (some ⟨kb, 0, none⟩) l c 3 T_wirem_Flight ((W.set i.toNat (flipF e.1 bit, e.2)).flatMap flC) := by
    have := flat_set1 (f := flC) flC_len (j := 2) (a' := (flipF e.1 bit, e.2)) (v := .bool true) he (by omega) (by unfold flC flipF; simp)
    rw [← this]
    exact r2
  have ty2 : Tys w1 [kb] [T_wirem_Flight] := fun y hy hl => by
    simp at hy
    subst hy
    obtain ⟨cs, ho⟩ := r1.ty (k := y) (by simp [rowBlk])
    exact ⟨cs, _, ho, by simp⟩
  have ty0 : Tys w [kb] wireTys := fun y hy hl => by
    simp at hy
    subst hy
    obtain ⟨cs, ho⟩ := r.ty (k := y) (by simp [rowBlk])
    exact ⟨cs, _, ho, by decide⟩
  refine hok e (by omega) he (by simpa using q3) (by omega) hbl w2 ⟨⟨_, l, c, ownT he2 ty2 o1 (by decide), r2'⟩, fun y hy => ?_, ?_, by rw [List.length_set]; exact h64, h.ge.same o (ownT he2 ty2 o1 (by decide)), fun y hy => ?_⟩ ⟨[kb], (he1.mono (fun y hy _ => by simp at hy; simp [hy])).trans (he2.mono (fun y hy _ => by simp at hy; simp [hy])), ty0, fun x hx => h.ge.row o rfl x (by simpa [rowBlk] using hx)⟩
  · obtain ⟨j, hj⟩ := List.mem_iff_getElem?.1 hy
    by_cases ej : j = i.toNat
    · rw [ej, List.getElem?_set_self hlt] at hj
      cases hj
      have : Bf w1 e.2 (flipF e.1 bit).raw := by
        unfold flipF
        rw [hxd]
        exact hf1
      exact ⟨ownT he2 ty2 this.1 (by decide), this.2⟩
    · rw [List.getElem?_set_ne (fun z => ej z.symm)] at hj
      have ze : y.2 ≠ e.2 := by
        have hp := List.pairwise_iff_getElem.1 h.nd
        rcases Nat.lt_or_gt_of_ne ej with s | s
        · have := hp j i.toNat (List.getElem?_eq_some_iff.1 hj).1 hlt s
          rw [(List.getElem?_eq_some_iff.1 hj).2, (List.getElem?_eq_some_iff.1 he).2] at this
          exact this
        · have := hp i.toNat j hlt (List.getElem?_eq_some_iff.1 hj).1 s
          rw [(List.getElem?_eq_some_iff.1 hj).2, (List.getElem?_eq_some_iff.1 he).2] at this
          exact fun z => this z.symm
      have h1 := (h.dat y (List.mem_of_getElem? hj)).ext he1 (by simpa using ze)
      exact ⟨ownT he2 ty2 h1.1 (by decide), h1.2⟩
  · have e1 : (W.set i.toNat (flipF e.1 bit, e.2)).map (·.2) = W.map (·.2) := by
      rw [List.map_set]
      apply List.ext_getElem?
      intro k
      by_cases qk : k = i.toNat
      · subst qk
        rw [List.getElem?_set_self (by simp; omega), List.getElem?_map, he]
        rfl
      · rw [List.getElem?_set_ne (fun z => qk z.symm)]
    have q1 : (W.map (·.2)).Pairwise (· ≠ ·) := List.pairwise_map.2 h.nd
    rw [← e1] at q1
    exact List.pairwise_map.1 q1
  · rcases List.mem_or_eq_of_mem_set hy with z | z
    · exact h.geD y z
    · rw [z]; exact h.geD e hem
end
end Go.Proofs.Qxb6500424aGreat
