/-
  host: the abstract network's memory: latest, Unlisted, ClosedBy, FirstFragment.
-/
import Derived.Test.Qxb6500424aGreatHnA
set_option linter.unusedVariables false
set_option linter.unusedSimpArgs false
open Go.Vc
namespace Go.Proofs.Qxb6500424aGreat
section
variable {lo : Nat} {w w' : World} {p : Nat} {N : List PEM} {del : Nat → Int}
theorem latest_ok {host lp rh rp : Int} {cl : Bool} {q : Nat} {Ep : PE} {R : Int → World → Prop} (h : NetAt lo w p N del) (hb : N.length ≤ 1152921504606846976) (hL : LatestN (N.map (·.E)) host lp rh rp cl q Ep) (hR : R (q : Int) w) : hostm_Net_latest.Call (some ⟨p, 0, none⟩) host lp rh rp cl w R := by
  apply hostm_Net_latest.sound
  unfold hostm_Net_latest.B0
  obtain ⟨b, l, c, o, r⟩ := h.ex
  have hlen := NetAt.rlen r
  have hq : q < N.length := by have := (List.getElem?_eq_some_iff.1 hL.at_).1; simpa using this
  refine Pn.mk (LdL.mk o rfl ?_)
  rw [w64 (by omega) (by omega)]
  unfold hostm_Net_latest.L1
  refine ⟨fun m p' host' lp' rh' rp' cl' i w' => some ⟨p, 0, none⟩ = p' ∧ host = host' ∧ lp = lp' ∧ rh = rh' ∧ rp = rp' ∧ cl = cl' ∧ w = w' ∧ ∃ j : Nat, i = (j : Int) ∧ q ≤ j ∧ j < N.length ∧ j = m, N.length - 1, ⟨rfl, rfl, rfl, rfl, rfl, rfl, rfl, N.length - 1, by omega, by omega, by omega, rfl⟩, ?_⟩
  rintro m p' host' lp' rh' rp' cl' i w' ⟨rfl, rfl, rfl, rfl, rfl, rfl, rfl, j, rfl, hqj, hj, rfl⟩
  unfold hostm_Net_latest.L1b
  obtain ⟨x, hx⟩ : ∃ x, N[j]? = some x := ⟨_, List.getElem?_eq_getElem hj⟩
  obtain ⟨k, rfl, hc⟩ := endCell r hx
  have hxE : (N.map (·.E))[j]? = some x.E := by rw [List.getElem?_map, hx]; rfl
  have no : ¬ ((x.E.h : Int) = host ∧ x.E.lp = lp ∧ x.E.rh = rh ∧ x.E.rp = rp ∧ x.E.cl = cl) → hostm_Net_latest.B1 (some ⟨p, 0, none⟩) host lp rh rp cl (j : Int) false w (fun p' host' lp' rh' rp' cl' i w' => ∃ m', m' < j ∧ some ⟨p, 0, none⟩ = p' ∧ host = host' ∧ lp = lp' ∧ rh = rh' ∧ rp = rp' ∧ cl = cl' ∧ w = w' ∧ ∃ j : Nat, i = (j : Int) ∧ q ≤ j ∧ j < N.length ∧ j = m') R := fun hno => by
    unfold hostm_Net_latest.B1
    refine Bm.neg rfl ?_
    have hne : q ≠ j := fun e => by
      subst e
      have := hL.at_
      rw [hxE] at this
      cases this
      exact hno hL.eq
    rw [w64 (by omega) (by omega)]
    exact ⟨j - 1, by omega, rfl, rfl, rfl, rfl, rfl, rfl, rfl, j - 1, by omega, by omega, by omega, rfl⟩
  have yes : (x.E.h : Int) = host ∧ x.E.lp = lp ∧ x.E.rh = rh ∧ x.E.rp = rp ∧ x.E.cl = cl → j = q := fun hy => by
    apply Classical.byContradiction
    intro hne
    exact hL.max j x.E hxE (by omega) hy
  have a0 : Addr.add ⟨k, 0, none⟩ ((j : Int).toNat * 16) = ⟨k, j * 16 + 0, none⟩ := by rw [add_mk, Nat.zero_add, Int.toNat_natCast, Nat.add_zero]
  have an : ∀ n : Nat, (Addr.add ⟨k, 0, none⟩ ((j : Int).toNat * 16)).add n = ⟨k, j * 16 + n, none⟩ := fun n => by rw [Int.toNat_natCast]; exact add2 _ _ _
  refine Bm.pos (decide_eq_true (by omega)) (Pn.mk (LdL.mk o rfl (Pn.mk ⟨⟨by omega, by omega⟩, ?_⟩)))
  rw [a0]
  refine LdI.cell (hc 0 _ (by omega) rfl) (Bm.mk (fun q0 => Pn.mk (LdL.mk o rfl (Pn.mk ⟨⟨by omega, by omega⟩, ?_⟩))) (fun q0 => no (fun z => beqF q0 z.1)))
  rw [an]
  refine LdI.cell (hc 2 _ (by omega) rfl) (Bm.mk (fun q2 => Pn.mk (LdL.mk o rfl (Pn.mk ⟨⟨by omega, by omega⟩, ?_⟩))) (fun q2 => no (fun z => beqF q2 z.2.1)))
  rw [an]
  refine LdI.cell (hc 3 _ (by omega) rfl) (Bm.mk (fun q3 => Pn.mk (LdL.mk o rfl (Pn.mk ⟨⟨by omega, by omega⟩, ?_⟩))) (fun q3 => no (fun z => beqF q3 z.2.2.1)))
  rw [an]
  refine LdI.cell (hc 4 _ (by omega) rfl) (Bm.mk (fun q4 => Pn.mk (LdL.mk o rfl (Pn.mk ⟨⟨by omega, by omega⟩, ?_⟩))) (fun q4 => no (fun z => beqF q4 z.2.2.2.1)))
  rw [an]
  refine LdB.cell (hc 5 _ (by omega) rfl) ?_
  by_cases qc : x.E.cl = cl
  · rw [show (x.E.cl == cl) = true by simp [qc]]
    unfold hostm_Net_latest.B1
    have := yes ⟨beqT q0, beqT q2, beqT q3, beqT q4, qc⟩
    rw [this]
    exact Bm.pos rfl hR
  · rw [show (x.E.cl == cl) = false by simp [qc]]
    exact no (fun z => qc z.2.2.2.2)
/-- A cell of an end is set. -/
theorem endPut {b : Option Addr} {l c i q : Nat} {x x' : PEM} {v : Value} {K : World → Prop} (h : NetAt lo w p N del) (o : Own w p #[.slice b l c, .int .i64 (del 0), .int .i64 (del 1), .int .i64 (del 2)] T_hostm_Net) (r : Row w b l c 16 T_hostm_End (N.flatMap endC)) (hx : N[i]? = some x) (hq : q < 16) (h1 : v.oneCell' = true) (he : endC x' = (endC x).set q v)
    (eS : x'.E.S = x.E.S ∧ x'.sb = x.sb ∧ x'.sc = x.sc) (eR : x'.E.R = x.E.R ∧ x'.rb = x.rb ∧ x'.rc = x.rc)
    (hK : ∀ w', NetAt lo w' p (N.set i x') del → Own w' p #[.slice b l c, .int .i64 (del 0), .int .i64 (del 1), .int .i64 (del 2)] T_hostm_Net → Row w' b l c 16 T_hostm_End ((N.set i x').flatMap endC) → ExtL lo w w' [T_hostm_End] → K w') : ∃ k, b = some ⟨k, 0, none⟩ ∧ Sts [v] ⟨k, i * 16 + q, none⟩ 0 w K := by
  have hi := (List.getElem?_eq_some_iff.1 hx).1
  have hlen := NetAt.rlen r
  obtain ⟨k, rfl, _⟩ := endCell r hx
  refine ⟨k, rfl, r.put (by simp; omega) (by simp [h1]) fun w' hs r' he' => ?_⟩
  have r2 : Row w' (some ⟨k, 0, none⟩) l c 16 T_hostm_End ((N.set i x').flatMap endC) := by
    have := flat_set1 (f := endC) endC_len (j := q) (a' := x') (v := v) hx hq he
    rw [← this]
    exact r'
  have ty : Tys w [k] [T_hostm_End] := fun y hy hl => by
    simp at hy
    subst hy
    obtain ⟨cs, ho⟩ := r.ty (k := y) (by simp [rowBlk])
    exact ⟨cs, _, ho, by simp⟩
  have o2 := ownT he' ty o (by decide)
  refine hK w' ⟨⟨_, l, c, o2, r2⟩, fun y hy => ?_, fun y hy => ?_, h.ge.same o o2⟩ o2 r2 (ExtL.of he' ty (fun x hx => h.ge.row o rfl x (by simpa [rowBlk] using hx)))
  · rcases List.mem_or_eq_of_mem_set hy with z | z
    · exact ⟨rowT (h.S y z).row he' ty (by decide), (h.S y z).isB⟩
    · have := h.S x (List.mem_of_getElem? hx)
      rw [z, eS.1, eS.2.1, eS.2.2]
      exact ⟨rowT this.row he' ty (by decide), this.isB⟩
  · rcases List.mem_or_eq_of_mem_set hy with z | z
    · exact ⟨rowT (h.R y z).row he' ty (by decide), (h.R y z).isB⟩
    · have := h.R x (List.mem_of_getElem? hx)
      rw [z, eR.1, eR.2.1, eR.2.2]
      exact ⟨rowT this.row he' ty (by decide), this.isB⟩
theorem unlisted_ok {i : Nat} {x : PEM} {R : Bool → World → Prop} (h : NetAt lo w p N del) (hx : N[i]? = some x) (h4 : x.E.st = 4) (hR : ∀ w', NetAt lo w' p (N.set i { x with E := { x.E with gone := true } }) del → ExtL lo w w' [T_hostm_End] → R true w') : hostm_Net_Unlisted.Call (some ⟨p, 0, none⟩) (i : Int) w R := by
  apply hostm_Net_Unlisted.sound
  unfold hostm_Net_Unlisted.B0
  have hi := (List.getElem?_eq_some_iff.1 hx).1
  refine nHas_ok h ?_
  rw [decide_eq_true (show 0 ≤ (i : Int) ∧ (i : Int) < (N.length : Int) by omega)]
  obtain ⟨b, l, c, o, r⟩ := h.ex
  have hlen := NetAt.rlen r
  obtain ⟨k, hk, hS⟩ := endPut (q := 15) (x' := { x with E := { x.E with gone := true } }) (v := .bool true) (K := fun w1 => R true w1) h o r hx (by omega) rfl rfl ⟨rfl, rfl, rfl⟩ ⟨rfl, rfl, rfl⟩ (fun w' h1 _ _ h2 => hR w' h1 h2)
  subst hk
  obtain ⟨k', hk', hc⟩ := endCell r hx
  cases hk'
  have an : ∀ n : Nat, (Addr.add ⟨k, 0, none⟩ ((i : Int).toNat * 16)).add n = ⟨k, i * 16 + n, none⟩ := fun n => by rw [Int.toNat_natCast]; exact add2 _ _ _
  refine Bm.neg rfl (Pn.mk (LdL.mk o rfl (Pn.mk ⟨⟨by omega, by omega⟩, ?_⟩)))
  rw [an]
  refine LdI.cell (hc 10 _ (by omega) rfl) ?_
  unfold hostm_Net_Unlisted.B1
  refine Bm.neg (by rw [h4]; rfl) (Pn.mk (LdL.mk o rfl (Pn.mk ⟨⟨by omega, by omega⟩, ?_⟩)))
  rw [an]
  exact hS
theorem closedBy_ok {i : Nat} {x : PEM} {R : Bool → World → Prop} (h : NetAt lo w p N del) (hx : N[i]? = some x) (hR : ∀ w', NetAt lo w' p (N.set i { x with E := { x.E with clo := true } }) del → ExtL lo w w' [T_hostm_End] → R true w') : hostm_Net_ClosedBy.Call (some ⟨p, 0, none⟩) (i : Int) w R := by
  apply hostm_Net_ClosedBy.sound
  unfold hostm_Net_ClosedBy.B0
  have hi := (List.getElem?_eq_some_iff.1 hx).1
  refine nHas_ok h ?_
  rw [decide_eq_true (show 0 ≤ (i : Int) ∧ (i : Int) < (N.length : Int) by omega)]
  obtain ⟨b, l, c, o, r⟩ := h.ex
  have hlen := NetAt.rlen r
  obtain ⟨k, hk, hS⟩ := endPut (q := 12) (x' := { x with E := { x.E with clo := true } }) (v := .bool true) (K := fun w1 => R true w1) h o r hx (by omega) rfl rfl ⟨rfl, rfl, rfl⟩ ⟨rfl, rfl, rfl⟩ (fun w' h1 _ _ h2 => hR w' h1 h2)
  subst hk
  have an : ∀ n : Nat, (Addr.add ⟨k, 0, none⟩ ((i : Int).toNat * 16)).add n = ⟨k, i * 16 + n, none⟩ := fun n => by rw [Int.toNat_natCast]; exact add2 _ _ _
  refine Bm.neg rfl (Pn.mk (LdL.mk o rfl (Pn.mk ⟨⟨by omega, by omega⟩, ?_⟩)))
  rw [an]
  exact hS
end
end Go.Proofs.Qxb6500424aGreat
