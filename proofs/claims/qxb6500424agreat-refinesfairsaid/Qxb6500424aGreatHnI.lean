/-
  host: the abstract network's memory: Settled.
-/
import Derived.Test.Qxb6500424aGreatHnH
import Derived.Test.Qxb6500424aGreatHsP
set_option linter.unusedVariables false
set_option linter.unusedSimpArgs false
open Go.Vc
namespace Go.Proofs.Qxb6500424aGreat
section
variable {lo : Nat} {w w' : World} {p : Nat} {N : List PEM} {del : Nat → Int}
theorem failed_ok {i : Int} {j : Nat} {x : PEM} {R : Bool → World → Prop} (h : NetAt lo w p N del) (hj : i = (j : Int)) (hx : N[j]? = some x) (hR : R (decide (x.E.st = 4 ∧ x.E.why ≠ 0)) w) : hostm_Net_failed.Call (some ⟨p, 0, none⟩) i w R := by
  apply hostm_Net_failed.sound
  unfold hostm_Net_failed.B0
  refine ndI h hj hx (by omega) rfl (Bm.mk (fun z => ndI h hj hx (by omega) rfl ?_) (fun z => ?_))
  · have z4 : x.E.st = 4 := beqT z
    by_cases c : x.E.why = 0
    · rw [decide_eq_false (fun q => q.2 c)] at hR
      rw [c]
      exact hR
    · rw [decide_eq_true ⟨z4, c⟩] at hR
      rw [show (x.E.why != 0) = true by simp [c]]
      exact hR
  · have z4 : ¬ x.E.st = 4 := beqF z
    rw [decide_eq_false (fun q => z4 q.1)] at hR
    exact hR
theorem settled_ok {R : Bool → World → Prop} (h : NetAt lo w p N del) (hb : N.length ≤ 1152921504606846976) (hbr : ∀ (i : Nat) x, N[i]? = some x → x.E.R.length ≤ 1152921504606846976) (hs : ∀ (i : Nat) x, N[i]? = some x → SetP (N.map (·.E)) i x.E) (hR : ∀ w', Ext [] w w' → R true w') : hostm_Net_Settled.Call (some ⟨p, 0, none⟩) w R := by
  apply hostm_Net_Settled.sound
  unfold hostm_Net_Settled.B0 hostm_Net_Settled.L1
  refine ⟨fun mm p' i w' => some ⟨p, 0, none⟩ = p' ∧ NetAt lo w' p N del ∧ Ext [] w w' ∧ ∃ j : Nat, i = (j : Int) ∧ j ≤ N.length ∧ mm = N.length - j, N.length, ⟨rfl, h, Ext.refl _ _, 0, rfl, by omega, by omega⟩, ?_⟩
  rintro mm p' i w' ⟨rfl, h', he', j, rfl, hj, rfl⟩
  unfold hostm_Net_Settled.L1b
  obtain ⟨b, l, c, o, r⟩ := h'.ex
  have hlen := NetAt.rlen r
  refine Pn.mk (LdL.mk o rfl (Bm.ite (fun hlt => ?_) (fun hge => hR w' he')))
  have hlt' : j < N.length := by omega
  obtain ⟨x, hx⟩ : ∃ x, N[j]? = some x := ⟨_, List.getElem?_eq_getElem hlt'⟩
  have sp := hs j x hx
  have next : ∀ {w2 : World}, NetAt lo w2 p N del → Ext [] w w2 → hostm_Net_Settled.B3 (some ⟨p, 0, none⟩) (j : Int) w2 (fun p' i w' => ∃ m', m' < N.length - j ∧ some ⟨p, 0, none⟩ = p' ∧ NetAt lo w' p N del ∧ Ext [] w w' ∧ ∃ j : Nat, i = (j : Int) ∧ j ≤ N.length ∧ m' = N.length - j) R := fun h2 e2 => by
    unfold hostm_Net_Settled.B3
    rw [w64 (by omega) (by omega)]
    exact ⟨N.length - (j + 1), by omega, rfl, h2, e2, j + 1, by push_cast; rfl, by omega, rfl⟩
  refine ndI h' rfl hx (by omega) rfl (Bm.neg (by simp [sp.op.1]) (ndI h' rfl hx (by omega) rfl ?_))
  rw [show (x.E.st == (2 : Int)) = false by simp [sp.op.2]]
  unfold hostm_Net_Settled.B1
  refine Bm.neg rfl (ndI h' rfl hx (by omega) rfl (Bm.ite (fun hneg => ?_) (fun hpos => ?_)))
  · unfold hostm_Net_Settled.B2
    exact Bm.pos rfl (next h' he')
  obtain ⟨t, ht, htl⟩ := sp.pe.resolve_left hpos
  obtain ⟨y, hy⟩ : ∃ y, N[t]? = some y := ⟨_, List.getElem?_eq_getElem (by simpa using htl)⟩
  refine failed_ok h' rfl hx ?_
  unfold hostm_Net_Settled.B2
  refine Bm.ite (fun _ => next h' he') fun hf => ?_
  refine ndI h' ht hy (by omega) rfl (Bm.mk (fun _ => next h' he') fun hmu => ?_)
  have hmu' : y.E.peer = (j : Int) := by
    have := hmu
    simp at this
    exact this
  refine failed_ok h' ht hy (Bm.ite (fun _ => next h' he') fun hfy => ?_)
  have hyE : (N.map (·.E))[t]? = some y.E := by rw [List.getElem?_map, hy]; rfl
  obtain ⟨s1, s2, s3⟩ := sp.pr t y.E ht hyE hf hmu' hfy
  have hbx := hbr j x hx
  have b4 : ∀ want : Int, want ≤ x.E.off → hostm_Net_Settled.B4 (some ⟨p, 0, none⟩) (j : Int) x.E.peer want w' (fun p' i w' => ∃ m', m' < N.length - j ∧ some ⟨p, 0, none⟩ = p' ∧ NetAt lo w' p N del ∧ Ext [] w w' ∧ ∃ j : Nat, i = (j : Int) ∧ j ≤ N.length ∧ m' = N.length - j) R := fun want hw => by
    unfold hostm_Net_Settled.B4
    have hd := h'.drew
    have ed : Ext [] w w'.drew := he'.trans (Ext.drew [] w')
    have b6 : ∀ bb : Bool, bb = false → hostm_Net_Settled.B6 (some ⟨p, 0, none⟩) (j : Int) bb w'.drew (fun p' i w' => ∃ m', m' < N.length - j ∧ some ⟨p, 0, none⟩ = p' ∧ NetAt lo w' p N del ∧ Ext [] w w' ∧ ∃ j : Nat, i = (j : Int) ∧ j ≤ N.length ∧ m' = N.length - j) R := fun bb hbb => by
      unfold hostm_Net_Settled.B6
      exact Bm.neg hbb (next hd ed)
    have b5 : ∀ bb : Bool, bb = false → hostm_Net_Settled.B5 (some ⟨p, 0, none⟩) (j : Int) x.E.peer bb w'.drew (fun p' i w' => ∃ m', m' < N.length - j ∧ some ⟨p, 0, none⟩ = p' ∧ NetAt lo w' p N del ∧ Ext [] w w' ∧ ∃ j : Nat, i = (j : Int) ∧ j ≤ N.length ∧ m' = N.length - j) R := fun bb hbb => by
      unfold hostm_Net_Settled.B5
      refine Bm.neg hbb (ndB hd rfl hx (by omega) rfl (Bm.mk (fun p1 => ndB hd ht hy (by omega) rfl (Bm.mk (fun p2 => ndI hd rfl hx (by omega) rfl (b6 _ ?_)) (fun _ => b6 _ rfl))) (fun _ => b6 _ rfl)))
      simp [s3 p1 p2]
    refine ndI h' rfl hx (by omega) rfl (Bm.neg (decide_eq_false (by omega)) (ndB hd ht hy (by omega) rfl (Bm.mk (fun q1 => ndI hd rfl hx (by omega) rfl (ndL (b0 := y.sb) (l0 := y.E.S.length) (c0 := y.sc) hd ht hy (by omega) rfl (Bm.mk (fun q2 => ndB hd rfl hx (by omega) rfl (b5 _ ?_)) (fun _ => b5 _ rfl)))) (fun _ => b5 _ rfl))))
    rw [s2 q1 (beqT q2)]
    rfl
  refine ndL (b0 := y.sb) (l0 := y.E.S.length) (c0 := y.sc) h' ht hy (by omega) rfl (ndL (b0 := x.rb) (l0 := x.E.R.length) (c0 := x.rc) h' rfl hx (by omega) rfl ?_)
  rw [w64 (by omega) (by omega)]
  refine Bm.ite (fun hgt => ndL (b0 := x.rb) (l0 := x.E.R.length) (c0 := x.rc) h' rfl hx (by omega) rfl ?_) (fun hle => b4 _ ?_)
  · rw [w64 (by omega) (by omega)]
    exact b4 _ (by omega)
  · omega
end
end Go.Proofs.Qxb6500424aGreat
