/-
  hostlaw: RefinesFair: Foul, the step.
-/
import Derived.Test.Qxb6500424aGreatHlG
set_option linter.unusedVariables false
set_option linter.unusedSimpArgs false
open Go.Vc
namespace Go.Proofs.Qxb6500424aGreat
section
variable {lo : Nat} {w w' : World} {p : Nat} {N : List PEM} {del : Nat → Int}
theorem noneFailed_ok {R : Bool → World → Prop} (h : NetAt lo w p N del) (hb : N.length ≤ 1152921504606846976) (hs : NF (N.map (·.E))) (hR : R true w) : hostm_Net_NoneFailed.Call (some ⟨p, 0, none⟩) w R := by
  apply hostm_Net_NoneFailed.sound
  unfold hostm_Net_NoneFailed.B0 hostm_Net_NoneFailed.L1
  obtain ⟨b, l, c, o, r⟩ := h.ex
  have hlen := NetAt.rlen r
  refine ⟨fun mm p' i w' => some ⟨p, 0, none⟩ = p' ∧ w = w' ∧ ∃ j : Nat, i = (j : Int) ∧ j ≤ N.length ∧ mm = N.length - j, N.length, ⟨rfl, rfl, 0, rfl, by omega, by omega⟩, ?_⟩
  rintro mm p' i w' ⟨rfl, rfl, j, rfl, hj, rfl⟩
  unfold hostm_Net_NoneFailed.L1b
  refine Pn.mk (LdL.mk o rfl (Bm.ite (fun hlt => ?_) (fun hge => hR)))
  have hlt' : j < N.length := by omega
  obtain ⟨x, hx⟩ : ∃ x, N[j]? = some x := ⟨_, List.getElem?_eq_getElem hlt'⟩
  refine failed_ok h rfl hx (Bm.neg (decide_eq_false (hs j x.E (by rw [List.getElem?_map, hx]; rfl))) ?_)
  rw [w64 (by omega) (by omega)]
  exact ⟨N.length - (j + 1), by omega, rfl, rfl, j + 1, by push_cast; rfl, by omega, rfl⟩
theorem allGone_ok {R : Bool → World → Prop} (h : NetAt lo w p N del) (hb : N.length ≤ 1152921504606846976) (hR : ∀ b : Bool, (b = true → ∀ (j : Nat) y, N[j]? = some y → y.E.gone = true) → R b w) : hostm_Net_AllGone.Call (some ⟨p, 0, none⟩) w R := by
  apply hostm_Net_AllGone.sound
  unfold hostm_Net_AllGone.B0 hostm_Net_AllGone.L1
  obtain ⟨b, l, c, o, r⟩ := h.ex
  have hlen := NetAt.rlen r
  refine ⟨fun mm p' i w' => some ⟨p, 0, none⟩ = p' ∧ w = w' ∧ ∃ j : Nat, i = (j : Int) ∧ j ≤ N.length ∧ mm = N.length - j ∧ ∀ (q : Nat) y, q < j → N[q]? = some y → y.E.gone = true, N.length, ⟨rfl, rfl, 0, rfl, by omega, by omega, fun q y hq => by omega⟩, ?_⟩
  rintro mm p' i w' ⟨rfl, rfl, j, rfl, hj, rfl, hall⟩
  unfold hostm_Net_AllGone.L1b
  refine Pn.mk (LdL.mk o rfl (Bm.ite (fun hlt => ?_) (fun hge => hR true fun _ q y hy => hall q y (by have := (List.getElem?_eq_some_iff.1 hy).1; omega) hy)))
  have hlt' : j < N.length := by omega
  obtain ⟨x, hx⟩ : ∃ x, N[j]? = some x := ⟨_, List.getElem?_eq_getElem hlt'⟩
  refine ndB h rfl hx (by omega) rfl ?_
  cases e : x.E.gone with
  | false => exact Bm.pos rfl (hR false fun z => by cases z)
  | true =>
    refine Bm.neg rfl ?_
    rw [w64 (by omega) (by omega)]
    refine ⟨N.length - (j + 1), by omega, rfl, rfl, j + 1, by push_cast; rfl, by omega, rfl, fun q y hq hy => ?_⟩
    by_cases z : q = j
    · subst z
      rw [hx] at hy
      cases hy
      exact e
    · exact hall q y (by omega) hy
end
/-- The step does not end the fair weather. -/
structure Fair0 (op : OpV) (m : LH) (r : LR) : Prop where
  n : op.k ≠ 11 ∧ op.k ≠ 12 ∧ op.k ≠ 13 ∧ op.k ≠ 14
  at_ : ∀ c : Nat, c < 3 → op.c = (c : Int) → op.k ≠ 7 ∧ (op.k = 6 → lisB (m.H c).t.K.E op.a = false ∧ ∀ x, oursE (m.H c).t.K.E op.a = some x → ((m.H c).t.C (slotN x)).st = 3) ∧
    (op.k = 2 → (∀ (j : Nat) y, r.N[j]? = some y → y.E.gone = true) ∧ ∃ d, d < 3 ∧ d ≠ c ∧ op.a = (d : Int) + 1 ∧ Sk.lisE (m.H d).t.K.E op.b ≠ 0)
section
variable {w0 w w' : World} {a c d : Nat} {m m' : LH} {r r' : LR} {k k' : LC} {n n' : Int} {Z : Zf}
theorem foul_ok {op : OpV} {R : Bool → World → Prop} (hL : LawAt w0 w a m r k) (hg : Good n m r k) (hn : n ≤ 1152921504606846976) (wf : op.Wf) (hR : ∀ b w', Ext [] w w' → (b = false → Fair0 op m r) → R b w') : hostlaw_World_Foul.Call (some ⟨a, 0, none⟩) op.k op.a op.b op.c op.s op.t w R := by
  apply hostlaw_World_Foul.sound
  unfold hostlaw_World_Foul.B0
  refine New.mk fun o w1 ho hs1 oo he1 => LdI.mk oo rfl ?_
  have h1 := hL.ext0 he1
  have yes : ∀ tt : Bool, tt = true → hostlaw_World_Foul.B1 (some ⟨a, 0, none⟩) o tt w1 R := fun tt ht => by
    unfold hostlaw_World_Foul.B1
    exact Bm.pos ht (hR true w1 he1 fun z => by cases z)
  refine Bm.mk (fun z => yes _ z) fun z11 => Bm.mk (fun z => yes _ z) fun z12 => Bm.mk (fun z => yes _ z) fun z13 => ?_
  by_cases k14 : op.k = 14
  · exact yes _ (by rw [k14]; rfl)
  have hn4 : op.k ≠ 11 ∧ op.k ≠ 12 ∧ op.k ≠ 13 ∧ op.k ≠ 14 := ⟨beqF z11, beqF z12, beqF z13, k14⟩
  have hf14 : (op.k == (14 : Int)) = false := by simp [k14]
  unfold hostlaw_World_Foul.B1
  refine Bm.neg hf14 (LdI.mk oo rfl (Bm.ite (fun c0 => ?_) fun c0 => LdI.mk oo rfl ?_))
  · unfold hostlaw_World_Foul.B2
    exact Bm.pos rfl (hR false w1 he1 fun _ => ⟨hn4, fun c hc e => by omega⟩)
  unfold hostlaw_World_Foul.B2
  refine Bm.ite (fun c3 => hR false w1 he1 fun _ => ⟨hn4, fun c hc e => by omega⟩) fun c3 => LdI.mk oo rfl ?_
  obtain ⟨c, ec⟩ : ∃ c : Nat, op.c = (c : Int) := ⟨op.c.toNat, by omega⟩
  have hc : c < 3 := by omega
  have ok := hg.hs.ok c hc
  refine Bm.mk (fun _ => hR true w1 he1 fun z => by cases z) fun z7 => ?_
  have n7 : op.k ≠ 7 := beqF z7
  have fin : ∀ {b : Bool} {w2 : World}, Ext [] w w2 → (b = false → (op.k = 6 → lisB (m.H c).t.K.E op.a = false ∧ ∀ x, oursE (m.H c).t.K.E op.a = some x → ((m.H c).t.C (slotN x)).st = 3) ∧ (op.k = 2 → (∀ (j : Nat) y, r.N[j]? = some y → y.E.gone = true) ∧ ∃ d, d < 3 ∧ d ≠ c ∧ op.a = (d : Int) + 1 ∧ Sk.lisE (m.H d).t.K.E op.b ≠ 0)) → R b w2 := fun {b w2} e h => hR b w2 e fun z => ⟨hn4, fun c' hc' e' => by
    have : c' = c := by omega
    subst this
    exact ⟨n7, h z⟩⟩
  refine Bm.mk (fun z6 => LdI.mk oo rfl (LdI.mk oo rfl ?_)) fun z6 => Bm.mk (fun z2 => LdI.mk oo rfl ?_) fun z2 => fin he1 fun _ => ⟨fun z => absurd z (beqF z6), fun z => absurd z (beqF z2)⟩
  · -- Close
    have k6 : op.k = 6 := beqT z6
    rw [ec]
    refine lawOurs_ok h1 hc ok (fun hno w2 e2 => ?_) (fun x hx ib w2 hia e2 => ?_)
    · refine New.mk fun s w3 es hs3 os3 he3 => Sts.full (vs := [.int .i64 0, .int .i64 0, .int .i64 0, .int .i64 0, .int .i64 0, .int .i64 0, .int .i64 0, .bool false, .pointer none]) os3 rfl rfl fun w4 hs4 o4 he4 => ?_
      have E4 : Ext [] w w4 := ((he1.trans e2).trans he3).trans' he4 (fun y hy hl => by simp at hy; have := e2.size; have := he1.size; omega)
      exact Bm.pos rfl (fin E4 fun z => by cases z)
    · refine New.mk fun s w3 es hs3 os3 he3 => Sts.full (vs := [.int .i64 x.1.sd, .int .i64 x.1.kind, .int .i64 x.1.lp, .int .i64 x.1.rh, .int .i64 x.1.rp, .int .i64 x.1.slot, .int .i64 x.1.par, .bool x.1.rdy, .pointer (some ⟨ib, 0, none⟩)]) os3 rfl rfl fun w4 hs4 o4 he4 => ?_
      have z1 := e2.size
      have z2 := he1.size
      have E4 : Ext [] w w4 := ((he1.trans e2).trans he3).trans' he4 (fun y hy hl => by simp at hy; omega)
      have E24 : Ext [] w2 w4 := he3.trans' he4 (fun y hy hl => by simp at hy; omega)
      cases hour : oursE (m.H c).t.K.E op.a with
      | none => exact Bm.pos rfl (fin E4 fun z => by cases z)
      | some x' =>
        obtain ⟨hx', hk2, hp0⟩ := oursE_kind hour
        rw [hx] at hx'
        cases hx'
        have ei : infoC (m.H c).t x = (m.H c).t.C (slotN x) := by unfold infoC; rw [if_pos hk2]
        rw [ei] at hia
        have hia4 : InAt w4 ib ((m.H c).t.C (slotN x)) := E24.own hia (by simp)
        refine Bm.neg rfl (LdP.mk o4 rfl (Pn.mk ?_))
        refine LdI.mk hia4 rfl (fin E4 fun z => ⟨fun _ => ⟨?_, fun x2 hx2 => ?_⟩, fun z => by omega⟩)
        · unfold lisB
          rw [hx]
          show decide (x.1.kind = 1) = false
          rw [hk2]
          rfl
        · rw [hour] at hx2
          cases hx2
          have z' : (((m.H c).t.C (slotN x)).st != 3) = false := z
          simpa using z'
  · -- Connect
    have k2 : op.k = 2 := beqT z2
    have ha := wf.a
    have bad : ∀ q : Int, hostlaw_World_Foul.B3 (some ⟨a, 0, none⟩) o q true w1 R := fun q => by
      unfold hostlaw_World_Foul.B3
      exact Bm.pos rfl (fin he1 fun z => by cases z)
    by_cases hmin : op.a = -9223372036854775808
    · rw [show IntKind.i64.wrap (op.a - 1) = 9223372036854775807 by rw [hmin]; decide]
      exact Bm.neg (by decide) (Bm.pos (by decide) (bad _))
    rw [w64 (by omega) (by omega)]
    refine Bm.ite (fun _ => bad _) fun a0 => Bm.ite (fun _ => bad _) fun a3 => LdI.mk oo rfl ?_
    obtain ⟨d, ed⟩ : ∃ d : Nat, op.a - 1 = (d : Int) := ⟨(op.a - 1).toNat, by omega⟩
    have hd : d < 3 := by omega
    rw [ed, ec]
    unfold hostlaw_World_Foul.B3
    refine Bm.mk (fun _ => fin he1 fun z => by cases z) fun hdc => LdI.mk oo rfl ?_
    have hne : d ≠ c := by
      intro e
      rw [e] at hdc
      simp at hdc
    refine listens_ok h1 hd (hg.hs.ok d hd) (hg.seen d hd) fun w2 e2 => ?_
    have h2 := h1.ext0 e2
    by_cases hl : Sk.lisE (m.H d).t.K.E op.b ≠ 0
    · rw [decide_eq_true hl]
      refine Bm.neg rfl (Pn.mk (h2.ldN (allGone_ok h2.r.N (hg.setP hn).1 fun b hb => fin (he1.trans e2) fun z => ⟨fun z => by omega, fun _ => ⟨hb (by simpa using z), d, hd, hne, by omega, hl⟩⟩)))
    · rw [decide_eq_false hl]
      exact Bm.pos rfl (fin (he1.trans e2) fun z => by cases z)
end
end Go.Proofs.Qxb6500424aGreat
