/-
  host: the abstract network's memory: New, Find, has, MayStep, latest.
-/
import Derived.Test.Qxb6500424aGreatHwD
import Derived.Test.Qxb6500424aGreatHrC
set_option linter.unusedVariables false
set_option linter.unusedSimpArgs false
open Go.Vc
namespace Go.Proofs.Qxb6500424aGreat
/-- An end and where its bytes lie. -/
structure PEM where
  E : PE
  sb : Option Addr
  sc : Nat
  rb : Option Addr
  rc : Nat
def endC (x : PEM) : List Value := [.int .i64 (x.E.h : Int), .int .i64 x.E.sd, .int .i64 x.E.lp, .int .i64 x.E.rh, .int .i64 x.E.rp, .bool x.E.cl, .int .i64 x.E.peer, .slice x.sb x.E.S.length x.sc, .slice x.rb x.E.R.length x.rc, .int .i64 x.E.off, .int .i64 x.E.st, .int .i64 x.E.why, .bool x.E.clo, .bool x.E.pf, .bool x.E.was, .bool x.E.gone]
theorem endC_len (x : PEM) : (endC x).length = 16 := rfl
structure BytesAt (w : World) (b : Option Addr) (c : Nat) (v : List Int) : Prop where
  row : Row w b v.length c 1 T_uint8 (U8 v)
  isB : IsB v
structure NetAt (lo : Nat) (w : World) (p : Nat) (N : List PEM) (del : Nat → Int) : Prop where
  ex : ∃ b l c, Own w p #[.slice b l c, .int .i64 (del 0), .int .i64 (del 1), .int .i64 (del 2)] T_hostm_Net ∧ Row w b l c 16 T_hostm_End (N.flatMap endC)
  S : ∀ x ∈ N, BytesAt w x.sb x.sc x.E.S
  R : ∀ x ∈ N, BytesAt w x.rb x.rc x.E.R
  ge : GeC lo w p T_hostm_Net
section
variable {lo : Nat} {w w' : World} {p : Nat} {N : List PEM} {del : Nat → Int}
theorem BytesAt.rd {b : Option Addr} {c : Nat} {v : List Int} (h : BytesAt w b c v) : Rd w b v := Fm.row_rd h.row h.isB
theorem NetAt.rlen {b : Option Addr} {l c : Nat} (hr : Row w b l c 16 T_hostm_End (N.flatMap endC)) : l = N.length := by
  have h1 := hr.1
  have h2 := flat_length endC_len N
  omega
theorem endCell {b : Option Addr} {l c i : Nat} {x : PEM} (r : Row w b l c 16 T_hostm_End (N.flatMap endC)) (hx : N[i]? = some x) : ∃ k, b = some ⟨k, 0, none⟩ ∧ ∀ q v, q < 16 → (endC x)[q]? = some v → w.cell? ⟨k, i * 16 + q, none⟩ = some v := by
  have hi := (List.getElem?_eq_some_iff.1 hx).1
  have hl := NetAt.rlen r
  obtain ⟨k, rfl, cs, ho, hc⟩ := r.at (i := i) (by omega) (by omega)
  refine ⟨k, rfl, fun q v hq hv => ho.cell ?_⟩
  rw [hc q hq, flat_get endC_len hx hq]
  exact hv
theorem nNew_ok {R : Option Addr → World → Prop} (hlo : lo ≤ w.heap.size) (hR : ∀ p w', w.heap.size ≤ p → p < w'.heap.size → NetAt lo w' p [] (fun _ => 0) → Ext [] w w' → R (some ⟨p, 0, none⟩) w') : hostm_New.Call w R := by
  apply hostm_New.sound
  unfold hostm_New.B0
  exact New.mk fun p w1 hp hs ho he => hR p w1 (by omega) ho.lt ⟨⟨none, 0, 0, ho, Row.nil _ _ _⟩, fun x hx => (by cases hx), fun x hx => (by cases hx), GeC.of ho rfl (by omega) (fun k hk => by cases hk)⟩ he
theorem nFind_ok {host sd : Int} {R : Int → World → Prop} (h : NetAt lo w p N del) (hb : N.length ≤ 1152921504606846976)
    (hf : ∀ (i : Nat) x, N[i]? = some x → (x.E.h : Int) = host → x.E.sd = sd → R (i : Int) w) (hn : (∀ (i : Nat) x, N[i]? = some x → ¬ ((x.E.h : Int) = host ∧ x.E.sd = sd)) → R (-1) w) : hostm_Net_Find.Call (some ⟨p, 0, none⟩) host sd w R := by
  apply hostm_Net_Find.sound
  unfold hostm_Net_Find.B0 hostm_Net_Find.L1
  obtain ⟨b, l, c, o, r⟩ := h.ex
  have hlen := NetAt.rlen r
  refine ⟨fun m p' host' sd' i w' => some ⟨p, 0, none⟩ = p' ∧ host = host' ∧ sd = sd' ∧ w = w' ∧ ∃ j : Nat, i = (j : Int) ∧ j ≤ N.length ∧ m = N.length - j ∧ ∀ (k : Nat) x, k < j → N[k]? = some x → ¬ ((x.E.h : Int) = host ∧ x.E.sd = sd), N.length, ⟨rfl, rfl, rfl, rfl, 0, rfl, by omega, by omega, fun k x hk => by omega⟩, ?_⟩
  rintro m p' host' sd' i w' ⟨rfl, rfl, rfl, rfl, j, rfl, hj, rfl, hall⟩
  unfold hostm_Net_Find.L1b
  refine Pn.mk (LdL.mk o rfl (Bm.ite (fun hlt => Pn.mk (LdL.mk o rfl ?_)) (fun hge => hn fun i x hx => hall i x (by have := (List.getElem?_eq_some_iff.1 hx).1; omega) hx)))
  have hlt' : j < N.length := by omega
  obtain ⟨x, hx⟩ : ∃ x, N[j]? = some x := ⟨_, List.getElem?_eq_getElem hlt'⟩
  obtain ⟨k, rfl, hc⟩ := endCell r hx
  have go : ¬ ((x.E.h : Int) = host ∧ x.E.sd = sd) → hostm_Net_Find.B1 (some ⟨p, 0, none⟩) host sd (j : Int) false w (fun p' host' sd' i w' => ∃ m', m' < N.length - j ∧ some ⟨p, 0, none⟩ = p' ∧ host = host' ∧ sd = sd' ∧ w = w' ∧ ∃ j : Nat, i = (j : Int) ∧ j ≤ N.length ∧ m' = N.length - j ∧ ∀ (k : Nat) x, k < j → N[k]? = some x → ¬ ((x.E.h : Int) = host ∧ x.E.sd = sd)) R := fun hno => by
    unfold hostm_Net_Find.B1
    refine Bm.neg rfl ?_
    rw [w64 (by omega) (by omega)]
    refine ⟨N.length - (j + 1), by omega, rfl, rfl, rfl, rfl, j + 1, by push_cast; rfl, by omega, rfl, fun k' y hk hy => ?_⟩
    by_cases e : k' = j
    · subst e
      rw [hx] at hy
      cases hy
      exact hno
    · exact hall k' y (by omega) hy
  have a0 : Addr.add ⟨k, 0, none⟩ ((j : Int).toNat * 16) = ⟨k, j * 16 + 0, none⟩ := by rw [add_mk, Nat.zero_add, Int.toNat_natCast, Nat.add_zero]
  have a1 : (Addr.add ⟨k, 0, none⟩ ((j : Int).toNat * 16)).add 1 = ⟨k, j * 16 + 1, none⟩ := by rw [Int.toNat_natCast]; exact add2 _ _ _
  refine Pn.mk ⟨⟨by omega, by omega⟩, ?_⟩
  rw [a0]
  refine LdI.cell (hc 0 _ (by omega) rfl) (Bm.mk (fun q => Pn.mk (LdL.mk o rfl (Pn.mk ⟨⟨by omega, by omega⟩, ?_⟩))) (fun q => go (fun z => beqF q z.1)))
  rw [a1]
  refine LdI.cell (hc 1 _ (by omega) rfl) ?_
  by_cases q2 : x.E.sd = sd
  · rw [show (x.E.sd == sd) = true by simp [q2]]
    unfold hostm_Net_Find.B1
    exact Bm.pos rfl (hf j x hx (beqT q) q2)
  · rw [show (x.E.sd == sd) = false by simp [q2]]
    exact go (fun z => q2 z.2)
theorem nHas_ok {i : Int} {R : Bool → World → Prop} (h : NetAt lo w p N del) (hR : R (decide (0 ≤ i ∧ i < (N.length : Int))) w) : hostm_Net_has.Call (some ⟨p, 0, none⟩) i w R := by
  apply hostm_Net_has.sound
  unfold hostm_Net_has.B0
  obtain ⟨b, l, c, o, r⟩ := h.ex
  have hlen := NetAt.rlen r
  refine Bm.ite (fun q => Pn.mk (LdL.mk o rfl ?_)) (fun q => ?_)
  · rw [hlen]
    by_cases q2 : i < (N.length : Int)
    · rw [decide_eq_true (show 0 ≤ i ∧ i < (N.length : Int) from ⟨q, q2⟩)] at hR
      rw [decide_eq_true q2]
      exact hR
    · rw [decide_eq_false (show ¬ (0 ≤ i ∧ i < (N.length : Int)) from fun z => q2 z.2)] at hR
      rw [decide_eq_false q2]
      exact hR
  · rw [decide_eq_false (show ¬ (0 ≤ i ∧ i < (N.length : Int)) from fun z => q z.1)] at hR
    exact hR
theorem mayStep_ok {a b : Int} {R : Bool → World → Prop} (h : mayB a b) (hR : R true w) : hostm_MayStep.Call a b w R := by
  apply hostm_MayStep.sound
  unfold hostm_MayStep.B0 hostm_MayStep.B1
  refine Bm.mk (fun _ => hR) (fun q => ?_)
  have hne : a ≠ b := beqF q
  rcases h with z | ⟨z1, z2⟩ | ⟨z1, z2⟩
  · exact absurd z hne
  · have fin : Bm (b == 3) (R true w) (R (b == 4) w) := Bm.mk (fun _ => hR) (fun q3 => by
      have : b = 4 := by have := beqF q3; omega
      rw [this]; exact hR)
    refine Bm.mk (fun q1 => Bm.pos q1 fin) (fun q1 => ?_)
    have : a = 2 := by have := beqF q1; omega
    exact Bm.pos (by rw [this]; rfl) fin
  · subst z1 z2
    exact hR
end
end Go.Proofs.Qxb6500424aGreat
