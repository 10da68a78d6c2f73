/-
  host: Check, New.
-/
import Derived.Test.Qxb6500424aGreatHoL
set_option linter.unusedVariables false
set_option linter.unusedSimpArgs false
open Go.Vc
namespace Go.Proofs.Qxb6500424aGreat
structure ChkOk (h : HS) : Prop where
  row : ∀ a ∈ h.t.K.E, a.1.kind = 2 → (h.t.C (slotN a)).st ≠ 0 ∧ (a.1.rdy = true → (h.t.C (slotN a)).st = 3 ∨ (h.t.C (slotN a)).st = 4)
  free : ∀ s : Nat, s < 4 → (∀ a ∈ h.t.K.E, a.1.kind = 2 → a.1.slot ≠ (s : Int)) → (h.t.C s).st = 0
def usedB (E : List Sk.AE) (s : Nat) : Bool := E.any fun a => decide (a.1.kind = 2 ∧ a.1.slot = (s : Int))
theorem usedB_iff {E : List Sk.AE} {s : Nat} : usedB E s = true ↔ ∃ a ∈ E, a.1.kind = 2 ∧ a.1.slot = (s : Int) := by
  unfold usedB
  rw [List.any_eq_true]
  exact ⟨fun ⟨a, h1, h2⟩ => ⟨a, h1, by simpa using h2⟩, fun ⟨a, h1, h2⟩ => ⟨a, h1, by simpa using h2⟩⟩
section
variable {w w' w0 : World} {B : HB} {h : HS} {n : Int}
theorem check_ok {R : Bool → World → Prop} (hh : HostAt w B h) (ok : HsOk n h) (hc : ChkOk h) (hR : ∀ w', Ext [] w w' → R true w') : host_Host_Check.Call (some ⟨B.hp, 0, none⟩) w R := by
  apply host_Host_Check.sound
  unfold host_Host_Check.B0
  refine New.mk fun ub w1 eu hs1 ou he1 => Pn.mk (hostLdP (o := 17) (hh.ext0 he1) (by omega) rfl ?_)
  refine Sk.realList_ok (hh.ext0 he1).T ok.sk fun lb w2 hlb hli he2 => ?_
  have z1 := he1.size
  have ou1 : Own w1 ub (fnArr 4 fun s => .bool (usedB ([] : List Sk.AE) s)) 110 := ou
  have E2 : Ext [] w w2 := he1.trans he2
  -- the second loop
  have loop2 : ∀ {w3 : World}, Ext [] w w3 → Own w3 ub (fnArr 4 fun s => .bool (usedB h.t.K.E s)) 110 → host_Host_Check.L2 (some ⟨B.hp, 0, none⟩) ub 0 w3 R := fun {w3} E3 o3 => by
    unfold host_Host_Check.L2
    refine ⟨fun m h0' ub' s w' => some ⟨B.hp, 0, none⟩ = h0' ∧ ub = ub' ∧ ∃ j : Nat, s = (j : Int) ∧ j ≤ 4 ∧ m = 4 - j ∧ Ext [] w w' ∧ Own w' ub (fnArr 4 fun s => .bool (usedB h.t.K.E s)) 110, 4, ⟨rfl, rfl, 0, rfl, by omega, by omega, E3, o3⟩, ?_⟩
    rintro m h0' ub' s w' ⟨rfl, rfl, j, rfl, hj, rfl, E', o'⟩
    unfold host_Host_Check.L2b
    have k' := hh.ext0 E'
    refine Bm.ite (fun hlt => ⟨⟨by omega, by omega⟩, ?_⟩) (fun hge => ?_)
    · have hj4 : j < 4 := by omega
      have next : ∀ {w4 : World}, Ext [] w w4 → Own w4 ub (fnArr 4 fun s => .bool (usedB h.t.K.E s)) 110 → host_Host_Check.B3 (some ⟨B.hp, 0, none⟩) ub (j : Int) w4 (fun h0' ub' s w' => ∃ m', m' < 4 - j ∧ some ⟨B.hp, 0, none⟩ = h0' ∧ ub = ub' ∧ ∃ j : Nat, s = (j : Int) ∧ j ≤ 4 ∧ m' = 4 - j ∧ Ext [] w w' ∧ Own w' ub (fnArr 4 fun s => .bool (usedB h.t.K.E s)) 110) R := fun {w4} E4 o4 => by
        unfold host_Host_Check.B3
        rw [w64 (by omega) (by omega)]
        exact ⟨4 - (j + 1), by omega, rfl, rfl, j + 1, by push_cast; rfl, by omega, rfl, E4, o4⟩
      rw [add_mk, Nat.zero_add, Nat.mul_one, Int.toNat_natCast]
      refine LdB.mk o' (by rw [fnArr_get _ hj4]) (Bm.mk (fun q => ?_) (fun q => next E' o'))
      have q' : usedB h.t.K.E j = false := by simpa using q
      refine Pn.mk ⟨⟨by omega, by omega⟩, ?_⟩
      rw [add2]
      refine hostC k' hj4 ?_
      have hok := ok.cs j hj4
      refine cInfo_ok (k'.C j hj4) hok.S hok.B fun ib w4 hib hin he4 => Pn.mk (LdI.fn (o := 0) hin (by omega) rfl (Bm.neg ?_ (next (E'.trans he4) (he4.own o' (by simp)))))
      have := hc.free j hj4 (fun a ha hk e => by
        have := usedB_iff.2 ⟨a, ha, hk, e⟩
        rw [q'] at this
        cases this)
      simpa using this
    · refine Pn.mk (hostLdP (o := 11) k'.drew (by omega) rfl (Pn.mk (LdI.fn (o := 0) k'.drew.own (by omega) rfl ?_)))
      refine Fm.realAddr_ok (n := n) k'.drew.L ok.L ⟨Own.cell k'.drew.own (by rw [fnArr_get _ (by omega)]; rfl), Bm.neg (by rw [ok.La]; simp) ?_⟩
      obtain ⟨S, hip, _, ea, _⟩ := k'.drew.drew.P.ex
      refine Pn.mk (hostLdP (o := 12) k'.drew.drew (by omega) rfl (Pn.mk (LdI.fn (o := 0) k'.drew.drew.own (by omega) rfl ?_)))
      refine Ip.realAddr_ok hip ⟨Own.cell k'.drew.drew.own (by rw [fnArr_get _ (by omega)]; rfl), ?_⟩
      rw [ea]
      have := hR w'.drew.drew ((E'.trans (Ext.drew _ _)).trans (Ext.drew _ _))
      simpa using this
  have hLl : (h.t.K.E.map fun a => a.1.sd).length = h.t.K.E.length := by simp
  unfold host_Host_Check.L1
  refine ⟨fun m h0' ub' lb' ll' lc' i w' => some ⟨B.hp, 0, none⟩ = h0' ∧ ub = ub' ∧ some ⟨lb, 0, none⟩ = lb' ∧ h.t.K.E.length = ll' ∧ ∃ j : Nat, i = (j : Int) ∧ j ≤ h.t.K.E.length ∧ m = h.t.K.E.length - j ∧ Ext [] w w' ∧ Own w' ub (fnArr 4 fun s => .bool (usedB (h.t.K.E.take j) s)) 110 ∧ Sk.IAt w' lb (h.t.K.E.map fun a => a.1.sd), h.t.K.E.length,
    ⟨rfl, rfl, rfl, rfl, 0, rfl, by omega, by omega, E2, by simpa using he2.own ou1 (by simp), hli⟩, ?_⟩
  rintro m h0' ub' lb' ll' lc' i w' ⟨rfl, rfl, rfl, rfl, j, rfl, hj, rfl, E', o', l'⟩
  unfold host_Host_Check.L1b
  have k' := hh.ext0 E'
  have h6 := rows6' ok.sk
  refine Bm.ite (fun hlt => Pn.mk ?_) (fun hge => ?_)
  rotate_left
  · have ej : h.t.K.E.take j = h.t.K.E := List.take_of_length_le (by omega)
    rw [ej] at o'
    exact loop2 E' o'
  have hlt' : j < h.t.K.E.length := by omega
  obtain ⟨a, ha⟩ : ∃ a, h.t.K.E[j]? = some a := ⟨_, List.getElem?_eq_getElem hlt'⟩
  have ham := List.mem_of_getElem? ha
  have hg := Sk.getE_some ok.sk.ei ham
  have hcell : ∀ {wz : World}, Sk.IAt wz lb (h.t.K.E.map fun a => a.1.sd) → wz.cell? ⟨lb, j, none⟩ = some (.int .i64 a.1.sd) := fun {wz} hi => Own.cell hi (by simp [ha, Sk.iv])
  have kd := k'.drew
  have hld : Sk.IAt w'.drew lb (h.t.K.E.map fun a => a.1.sd) := Own.drew l'
  refine hostLdP (o := 17) kd (by omega) rfl (Pn.mk ⟨⟨by omega, by omega⟩, ?_⟩)
  have ead : Addr.add ⟨lb, 0, none⟩ ((j : Int).toNat * 1) = ⟨lb, j, none⟩ := by rw [add_mk, Nat.zero_add, Nat.mul_one, Int.toNat_natCast]
  rw [ead]
  refine LdI.cell (hcell hld) ?_
  have htk : h.t.K.E.take (j + 1) = h.t.K.E.take j ++ [a] := by rw [List.take_add_one, ha]; rfl
  refine get_new (a := ⟨lb, j, none⟩) (i := j) (b := lb) kd ok (fun w4 he4 => hcell (he4.own hld (by simp))) (fun w4 he4 => by
    rw [add_mk, Nat.zero_add]
    exact Own.cell (kd.ext0 he4).own (by rw [fnArr_get _ (by omega)]; rfl)) (fun en w3 he3 hen oen => ?_)
  rw [getV_some hg] at oen ⊢
  have E3 : Ext [] w' w3 := (Ext.drew _ _).trans he3
  have o3 := E3.own o' (by simp)
  have l3 : Sk.IAt w3 lb (h.t.K.E.map fun a => a.1.sd) := E3.own l' (by simp)
  unfold host_Host_Check.B1
  have go : ∀ {w5 : World}, Ext [] w w5 → Own w5 ub (fnArr 4 fun s => .bool (usedB (h.t.K.E.take (j + 1)) s)) 110 → Sk.IAt w5 lb (h.t.K.E.map fun a => a.1.sd) → ∃ m', m' < h.t.K.E.length - j ∧ some ⟨B.hp, 0, none⟩ = some (⟨B.hp, 0, none⟩ : Addr) ∧ ub = ub ∧ some (⟨lb, 0, none⟩ : Addr) = some ⟨lb, 0, none⟩ ∧ h.t.K.E.length = h.t.K.E.length ∧ ∃ j_1 : Nat, IntKind.i64.wrap ((j : Int) + 1) = (j_1 : Int) ∧ j_1 ≤ h.t.K.E.length ∧ m' = h.t.K.E.length - j_1 ∧ Ext [] w w5 ∧ Own w5 ub (fnArr 4 fun s => .bool (usedB (h.t.K.E.take j_1) s)) 110 ∧ Sk.IAt w5 lb (h.t.K.E.map fun a => a.1.sd) := fun {w5} E5 o5 l5 => by
    rw [w64 (by omega) (by omega)]
    exact ⟨h.t.K.E.length - (j + 1), by omega, rfl, rfl, rfl, rfl, j + 1, by push_cast; rfl, by omega, rfl, E5, o5, l5⟩
  refine Bm.neg rfl (LdI.mk oen rfl (Bm.mk (fun q => ?_) (fun q => ?_)))
  · have hk : a.1.kind ≠ 2 := bneT q
    refine go (E'.trans E3) ?_ l3
    have : (fnArr 4 fun s => Value.bool (usedB (h.t.K.E.take (j + 1)) s)) = fnArr 4 fun s => .bool (usedB (h.t.K.E.take j) s) := fnArr_congr fun s hs => by
      rw [htk]
      unfold usedB
      rw [List.any_append]
      simp [hk]
    rw [this]
    exact o3
  · have hk : a.1.kind = 2 := by simpa using q
    have con := (ok.sk.ei.ok a ham).con hk
    have hs0 : 0 ≤ a.1.slot := con.2.2.2.2.2.2.1
    have hs4' : a.1.slot < 4 := con.2.2.2.2.2.2.2.1
    have hsl : a.1.slot.toNat < 4 := by omega
    have hun : usedB (h.t.K.E.take j) a.1.slot.toNat = false := by
      cases z : usedB (h.t.K.E.take j) a.1.slot.toNat with
      | false => rfl
      | true =>
        obtain ⟨b, hb, b1, b2⟩ := usedB_iff.1 z
        have hbm := List.mem_of_mem_take hb
        have e := ok.sk.ei.slt b hbm a ham b1 hk (by omega)
        obtain ⟨i, hi⟩ := List.mem_iff_getElem?.1 hb
        rw [List.getElem?_take] at hi
        split at hi
        · rename_i hij
          have hnd := ok.sk.ei.nd
          have := List.pairwise_iff_getElem.1 hnd i j (List.getElem?_eq_some_iff.1 hi).1 hlt' hij
          rw [(List.getElem?_eq_some_iff.1 hi).2, (List.getElem?_eq_some_iff.1 ha).2] at this
          exact absurd e this
        · cases hi
    have f0 : ¬ a.1.slot < 0 := by omega
    have f4 : ¬ a.1.slot ≥ 4 := by omega
    refine LdI.mk oen rfl (Bm.neg (decide_eq_false f0) (LdI.mk oen rfl (Bm.neg (decide_eq_false f4) (LdI.mk oen rfl ⟨⟨hs0, hs4'⟩, ?_⟩))))
    have eaU : Addr.add ⟨ub, 0, none⟩ (a.1.slot.toNat * 1) = ⟨ub, a.1.slot.toNat, none⟩ := by rw [add_mk, Nat.zero_add, Nat.mul_one]
    rw [eaU]
    refine LdB.mk o3 (by rw [fnArr_get _ hsl]) ?_
    rw [hun]
    unfold host_Host_Check.B2
    refine Bm.neg rfl (LdI.mk oen rfl ⟨⟨hs0, hs4'⟩, ?_⟩)
    rw [eaU]
    refine Sts.fn o3 (by simp; omega) rfl (g := fun s => .bool (usedB (h.t.K.E.take (j + 1)) s)) (fun s hs => ?_) fun w5 hs5 o5 he5 => ?_
    · unfold fnPut
      rw [htk]
      by_cases e : s = a.1.slot.toNat
      · rw [if_pos (by simp; omega)]
        have : usedB (h.t.K.E.take j ++ [a]) s = true := usedB_iff.2 ⟨a, by simp, hk, by omega⟩
        rw [this]
        simp [e]
      · rw [if_neg (by simp; omega)]
        congr 1
        unfold usedB
        rw [List.any_append]
        have : ¬ a.1.slot = (s : Int) := by omega
        simp [this]
    · have zu := o3.lt
      have zE := (E'.trans E3).size
      have hul : w.heap.size ≤ ub := by omega
      have E5 : Ext [] w w5 := (E'.trans E3).trans' he5 (fun y hy hl => by simp at hy; omega)
      have k5 := hh.ext0 E5
      have hne : en ≠ ub := by have := o'.lt; have : w'.heap.size ≤ en := hen; omega
      have o5e := he5.own oen (by simp; exact hne)
      have l5 : Sk.IAt w5 lb (h.t.K.E.map fun a => a.1.sd) := he5.own l3 (by simp; exact Own.ne_type l3 o3 (by decide))
      refine LdI.mk o5e.drew rfl (Pn.mk ⟨⟨hs0, hs4'⟩, hostCx k5.drew hs0 hs4' ?_⟩)
      have hok := ok.cs _ hsl
      obtain ⟨r1, r2⟩ := hc.row a ham hk
      refine cInfo_ok (k5.drew.C _ hsl) hok.S hok.B fun ib w6 hib hin he6 => Pn.mk (LdI.fn (o := 0) hin (by omega) rfl ?_)
      have E6 : Ext [] w5 w6 := (Ext.drew _ _).trans he6
      have o6 := E6.own o5 (by simp)
      have l6 : Sk.IAt w6 lb (h.t.K.E.map fun a => a.1.sd) := E6.own l5 (by simp)
      have gg := go (E5.trans E6) o6 l6
      have st0 : ¬ (h.t.C a.1.slot.toNat).st = 0 := r1
      refine Bm.neg (by simpa using st0) (LdB.mk (E6.own o5e (by simp)) rfl ?_)
      have B4 : ∀ b : Bool, b = false → host_Host_Check.B4 (some ⟨B.hp, 0, none⟩) ub (some ⟨lb, 0, none⟩) h.t.K.E.length lc' (j : Int) b w6 (fun h0' ub' lb' ll' lc' i w' => ∃ m', m' < h.t.K.E.length - j ∧ some ⟨B.hp, 0, none⟩ = h0' ∧ ub = ub' ∧ some ⟨lb, 0, none⟩ = lb' ∧ h.t.K.E.length = ll' ∧ ∃ j : Nat, i = (j : Int) ∧ j ≤ h.t.K.E.length ∧ m' = h.t.K.E.length - j ∧ Ext [] w w' ∧ Own w' ub (fnArr 4 fun s => .bool (usedB (h.t.K.E.take j) s)) 110 ∧ Sk.IAt w' lb (h.t.K.E.map fun a => a.1.sd)) R := fun b hb => by
        unfold host_Host_Check.B4
        exact Bm.neg hb gg
      refine Bm.mk (fun q7 => ?_) (fun q7 => B4 false rfl)
      have st34 : (h.t.C a.1.slot.toNat).st = 3 ∨ (h.t.C a.1.slot.toNat).st = 4 := r2 q7
      refine Bm.mk (fun q3 => B4 _ ?_) (fun q3 => B4 false rfl)
      have q3' : (h.t.C a.1.slot.toNat).st ≠ 3 := bneT q3
      have : (h.t.C a.1.slot.toNat).st = 4 := by omega
      rw [this]
      rfl
end
end Go.Proofs.Qxb6500424aGreat
