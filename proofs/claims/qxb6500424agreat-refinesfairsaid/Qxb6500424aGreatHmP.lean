/-
  hostlaw: count, listens, ours, isListener, Listen.
-/
import Derived.Test.Qxb6500424aGreatHmOa
set_option linter.unusedVariables false
set_option linter.unusedSimpArgs false
open Go.Vc
namespace Go.Proofs.Qxb6500424aGreat
section
variable {w0 w w' : World} {a c d q : Nat} {m m' : LH} {r r' : LR} {k k' : LC} {n n' : Int} {sd : Int}
/-- A descriptor of the last list, and what Info says of it now. -/
theorem seenInfo {K : Nat → Int → World → Prop} (hL : LawAt w0 w a m r k) (hc : c < 3) (ok : HsOk n (m.H c)) (hq : (r.sn c)[q]? = some sd) (hK : ∀ s e w', InfoR w' s (m.H c) sd e → Ext [] w w' → K s e w') :
    Pn (some (⟨a, 0, none⟩ : Addr)) fun a_1 => (0 ≤ (c : Int) ∧ (c : Int) < ((3 : Nat) : Int)) ∧ LdP (Addr.add a_1 ((c : Int).toNat * 1)) w fun x28 =>
    Pn (some (⟨a, 0, none⟩ : Addr)) fun a_2 => (0 ≤ (c : Int) ∧ (c : Int) < ((3 : Nat) : Int)) ∧ LdL (Addr.add (a_2.add 34) ((c : Int).toNat * 1)) w fun x34_b x34_l x34_c =>
    Pn x34_b fun a_3 => (0 ≤ (q : Int) ∧ (q : Int) < ((x34_l : Nat) : Int)) ∧ LdI .i64 (Addr.add a_3 ((q : Int).toNat * 1)) w fun x37 =>
    ((host_Host_Info.Call x28 x37 w fun r0 r1 r2 r3 r4 r5 r6 r7 r8 e w1 => New (.cells #[.int .i64 (0 : Int), .int .i64 (0 : Int), .int .i64 (0 : Int), .int .i64 (0 : Int), .int .i64 (0 : Int), .int .i64 (0 : Int), .int .i64 (0 : Int), .bool false, .pointer none] 69) w1 fun s_ w2 => Sts [.int .i64 r0, .int .i64 r1, .int .i64 r2, .int .i64 r3, .int .i64 r4, .int .i64 r5, .int .i64 r6, .bool r7, .pointer r8] ⟨s_, 0, none⟩ 0 w2 fun w3 => K s_ e w3) ∧
     (New (.cells #[.int .i64 (0 : Int), .int .i64 (0 : Int), .int .i64 (0 : Int), .int .i64 (0 : Int), .int .i64 (0 : Int), .int .i64 (0 : Int), .int .i64 (0 : Int), .bool false, .pointer none] 69) w fun s_ w4 => w4.cell? (Addr.add a_3 ((q : Int).toNat * 1)) = some (.int .i64 x37) ∧ w4.cell? (Addr.add (a_2.add 34) ((c : Int).toNat * 1)) = some (.slice x34_b x34_l x34_c) ∧ w4.cell? (Addr.add a_1 ((c : Int).toNat * 1)) = some (.pointer x28) ∧
      host_Host_Info.Call x28 x37 w4 fun r0 r1 r2 r3 r4 r5 r6 r7 r8 e w5 => Sts [.int .i64 r0, .int .i64 r1, .int .i64 r2, .int .i64 r3, .int .i64 r4, .int .i64 r5, .int .i64 r6, .bool r7, .pointer r8] ⟨s_, 0, none⟩ 0 w5 fun w6 => K s_ e w6)) := by
  have row := hL.r.sn c hc
  have hlt := (List.getElem?_eq_some_iff.1 hq).1
  refine Pn.mk ⟨⟨by omega, by omega⟩, hL.ldH hc (Pn.mk ⟨⟨by omega, by omega⟩, hL.ldSeen hc ?_⟩)⟩
  obtain ⟨kr, ekr, cs, ho, hcell⟩ := row.at (i := q) (by omega) (by omega)
  have hce : ∀ {w4 : World}, Ext [] w w4 → w4.cell? ⟨kr, q, none⟩ = some (.int .i64 sd) := fun {w4} e4 => (e4.own ho (by simp)).cell (by
    have := hcell 0 (by omega)
    simp only [Nat.mul_one, Nat.add_zero] at this
    rw [this, List.getElem?_map, hq]
    rfl)
  rw [ekr]
  refine Pn.mk ⟨⟨by omega, by omega⟩, LdI.cell (by rw [addr_i]; exact hce (Ext.refl _ _)) ⟨?_, ?_⟩⟩
  · exact info_new (hL.h.H c hc) ok fun s e w5 hI hs e5 => hK s e w5 hI e5
  · refine New.mk fun s w4 es hs4 os4 he4 => ⟨by rw [addr_i]; exact hce he4, ?_, ?_, info_at ((hL.h.H c hc).ext0 he4) ok os4 fun e w5 hI e5 => hK s e w5 hI (he4.trans' e5 (fun y hy hl => by simp at hy; omega))⟩
    · rw [addC, ← ekr]
      exact (hL.ext0 he4).own.cell (by rw [fnArr_get _ (by omega), lawF_seen _ _ _ hc])
    · rw [addC0]
      exact ((hL.ext0 he4).own).cell (by rw [fnArr_get _ (by omega)]; unfold lawF pt; rw [if_pos hc])
theorem count_ok {kind : Int} {R : Int → World → Prop} (hL : LawAt w0 w a m r k) (hc : c < 3) (ok : HsOk n (m.H c)) (hs : r.sn c = sdsE (m.H c).t.K.E)
    (hR : ∀ w', Ext [] w w' → R (((m.H c).t.K.E.filter fun x => decide (x.1.kind = kind)).length : Int) w') : hostlaw_World_count.Call (some ⟨a, 0, none⟩) (c : Int) kind w R := by
  apply hostlaw_World_count.sound
  unfold hostlaw_World_count.B0 hostlaw_World_count.L1
  have hE6 := rows6' ok.sk
  generalize hE : (m.H c).t.K.E = E at *
  have hl : (sdsE E).length = E.length := by simp [sdsE]
  refine ⟨fun mm a' c' kd nn i w' => ∃ q : Nat, q ≤ E.length ∧ mm = E.length - q ∧ some ⟨a, 0, none⟩ = a' ∧ (c : Int) = c' ∧ kind = kd ∧ i = (q : Int) ∧ nn = (((E.take q).filter fun x => decide (x.1.kind = kind)).length : Int) ∧ Ext [] w w', E.length, ⟨0, by omega, rfl, rfl, rfl, rfl, rfl, rfl, Ext.refl _ _⟩, ?_⟩
  rintro mm a' c' kd nn i w' ⟨q, hq, rfl, rfl, rfl, rfl, rfl, rfl, he'⟩
  unfold hostlaw_World_count.L1b
  have h' := hL.ext0 he'
  refine Pn.mk ⟨⟨by omega, by omega⟩, h'.ldSeen hc ?_⟩
  rw [hs, hl]
  refine Bm.ite (fun hlt => ?_) fun hge => ?_
  rotate_left
  · rw [List.take_of_length_le (by omega)]
    exact hR w' he'
  obtain ⟨x, hx⟩ : ∃ x, E[q]? = some x := ⟨_, List.getElem?_eq_getElem (by omega)⟩
  have hsd : (r.sn c)[q]? = some x.1.sd := by rw [hs]; unfold sdsE; rw [List.getElem?_map, hx]; rfl
  have hget : Sk.getE (m.H c).t.K.E x.1.sd = some x := by
    refine Sk.getE_some ok.sk.ei ?_
    rw [hE]
    exact List.mem_of_getElem? hx
  have hfl : ((E.take q).filter fun x => decide (x.1.kind = kind)).length ≤ 6 := by
    have := List.length_filter_le (fun x : Sk.AE => decide (x.1.kind = kind)) (E.take q)
    rw [List.length_take] at this
    omega
  refine seenInfo h'.drew hc ok hsd fun s e w5 hI e5 => ?_
  obtain ⟨rfl, ib, hia, os⟩ := hI.yes x hget
  have E5 := (he'.trans (Ext.drew [] _)).trans e5
  have etk : ((E.take (q + 1)).filter fun x => decide (x.1.kind = kind)).length = ((E.take q).filter fun x => decide (x.1.kind = kind)).length + if x.1.kind = kind then 1 else 0 := by
    rw [List.take_add_one, hx, List.filter_append, List.length_append]
    congr 1
    simp only [Option.toList, List.filter_cons, List.filter_nil, decide_eq_true_eq]
    split <;> rfl
  unfold hostlaw_World_count.B1
  refine Bm.pos rfl (LdI.mk os rfl ?_)
  unfold hostlaw_World_count.B2 hostlaw_World_count.B3
  refine Bm.mk (fun z => ?_) fun z => ?_
  · rw [if_pos (beqT z)] at etk
    exact ⟨E.length - (q + 1), by omega, q + 1, by omega, rfl, rfl, rfl, rfl, by rw [w64 (by omega) (by omega)]; omega, by rw [etk, w64 (by omega) (by omega)]; push_cast; rfl, E5⟩
  · rw [if_neg (beqF z)] at etk
    exact ⟨E.length - (q + 1), by omega, q + 1, by omega, rfl, rfl, rfl, rfl, by rw [w64 (by omega) (by omega)]; omega, by rw [etk]; rfl, E5⟩
theorem listens_ok {port : Int} {R : Bool → World → Prop} (hL : LawAt w0 w a m r k) (hc : c < 3) (ok : HsOk n (m.H c)) (hs : r.sn c = sdsE (m.H c).t.K.E)
    (hR : ∀ w', Ext [] w w' → R (decide (Sk.lisE (m.H c).t.K.E port ≠ 0)) w') : hostlaw_World_listens.Call (some ⟨a, 0, none⟩) (c : Int) port w R := by
  apply hostlaw_World_listens.sound
  unfold hostlaw_World_listens.B0 hostlaw_World_listens.L1
  have hE6 := rows6' ok.sk
  have hei := ok.sk.ei
  generalize hE : (m.H c).t.K.E = E at *
  have hl : (sdsE E).length = E.length := by simp [sdsE]
  refine ⟨fun mm a' c' pt' i w' => ∃ q : Nat, q ≤ E.length ∧ mm = E.length - q ∧ some ⟨a, 0, none⟩ = a' ∧ (c : Int) = c' ∧ port = pt' ∧ i = (q : Int) ∧ (∀ x ∈ E.take q, ¬ (x.1.kind = 1 ∧ x.1.lp = port)) ∧ Ext [] w w', E.length, ⟨0, by omega, rfl, rfl, rfl, rfl, rfl, fun x hx => by simp at hx, Ext.refl _ _⟩, ?_⟩
  rintro mm a' c' pt' i w' ⟨q, hq, rfl, rfl, rfl, rfl, rfl, hno, he'⟩
  unfold hostlaw_World_listens.L1b
  have h' := hL.ext0 he'
  refine Pn.mk ⟨⟨by omega, by omega⟩, h'.ldSeen hc ?_⟩
  rw [hs, hl]
  refine Bm.ite (fun hlt => ?_) fun hge => ?_
  rotate_left
  · rw [List.take_of_length_le (by omega)] at hno
    have : Sk.lisE E port = 0 := by
      unfold Sk.lisE
      cases hf : E.find? (Sk.lisP port) with
      | none => rfl
      | some y => exact absurd (Sk.lisP_iff.1 (List.find?_some hf)) (hno y (List.mem_of_find?_eq_some hf))
    have hr := hR w' he'
    rw [this] at hr
    exact hr
  obtain ⟨x, hx⟩ : ∃ x, E[q]? = some x := ⟨_, List.getElem?_eq_getElem (by omega)⟩
  have hxm := List.mem_of_getElem? hx
  have hsd : (r.sn c)[q]? = some x.1.sd := by rw [hs]; unfold sdsE; rw [List.getElem?_map, hx]; rfl
  have hget : Sk.getE (m.H c).t.K.E x.1.sd = some x := by
    rw [hE]
    exact Sk.getE_some hei hxm
  refine seenInfo h'.drew hc ok hsd fun s e w5 hI e5 => ?_
  obtain ⟨rfl, ib, hia, os⟩ := hI.yes x hget
  have E5 := (he'.trans (Ext.drew [] _)).trans e5
  have next : ¬ (x.1.kind = 1 ∧ x.1.lp = port) → ∀ tt : Bool, tt = false → hostlaw_World_listens.B2 (some ⟨a, 0, none⟩) (c : Int) port (q : Int) tt w5 (fun a' c' pt' i w' => ∃ m', m' < E.length - q ∧ ∃ q : Nat, q ≤ E.length ∧ m' = E.length - q ∧ some ⟨a, 0, none⟩ = a' ∧ (c : Int) = c' ∧ port = pt' ∧ i = (q : Int) ∧ (∀ x ∈ E.take q, ¬ (x.1.kind = 1 ∧ x.1.lp = port)) ∧ Ext [] w w') R := fun z tt ht => by
    unfold hostlaw_World_listens.B2
    refine Bm.neg ht ⟨E.length - (q + 1), by omega, q + 1, by omega, rfl, rfl, rfl, rfl, by rw [w64 (by omega) (by omega)]; omega, fun y hy => ?_, E5⟩
    rw [List.take_add_one, hx] at hy
    rcases List.mem_append.1 hy with y1 | y1
    · exact hno y y1
    · simp at y1
      rw [y1]
      exact z
  unfold hostlaw_World_listens.B1
  refine Bm.pos rfl (LdI.mk os rfl (Bm.mk (fun z => LdI.mk os rfl ?_) fun z => next (fun y => beqF z y.1) false rfl))
  by_cases zp : x.1.lp = port
  · unfold hostlaw_World_listens.B2
    refine Bm.pos (by rw [zp]; simp) ?_
    have h1 : Sk.lisE E port = x.1.sd := by
      unfold Sk.lisE
      cases hf : E.find? (Sk.lisP port) with
      | none => exact absurd (Sk.lisP_iff.2 ⟨beqT z, zp⟩) (by simpa using List.find?_eq_none.1 hf x hxm)
      | some y =>
        have hy := Sk.lisP_iff.1 (List.find?_some hf)
        exact hei.prt y (List.mem_of_find?_eq_some hf) x hxm hy.1 (beqT z) (by rw [hy.2, zp])
    have h2 := (hei.sd x hxm).1
    have hr := hR w5 E5
    rw [decide_eq_true (show Sk.lisE E port ≠ 0 by omega)] at hr
    exact hr
  · exact next (fun y => zp y.2) _ (by simpa using zp)
/-- The law's own look at a descriptor. -/
theorem lawOurs_ok {R : Int → Int → Int → Int → Int → Int → Int → Bool → Option Addr → Bool → World → Prop} (hL : LawAt w0 w a m r k) (hc : c < 3) (ok : HsOk n (m.H c))
    (hR0 : Sk.getE (m.H c).t.K.E sd = none → ∀ w', Ext [] w w' → R 0 0 0 0 0 0 0 false none false w')
    (hR1 : ∀ x, Sk.getE (m.H c).t.K.E sd = some x → ∀ ib w', InAt w' ib (infoC (m.H c).t x) → Ext [] w w' → R x.1.sd x.1.kind x.1.lp x.1.rh x.1.rp x.1.slot x.1.par x.1.rdy (some ⟨ib, 0, none⟩) (oursE (m.H c).t.K.E sd).isSome w') : hostlaw_World_ours.Call (some ⟨a, 0, none⟩) (c : Int) sd w R := by
  apply hostlaw_World_ours.sound
  unfold hostlaw_World_ours.B0
  refine New.mk fun b6 w1 e6 hs1 o6 he1 => Pn.mk ⟨⟨by omega, by omega⟩, (hL.ext0 he1).ldH hc (info_new ((hL.ext0 he1).h.H c hc) ok fun s e w4 hI hsz e4 => ?_)⟩
  have E4 := (he1.trans e4).trans (Ext.drew [] w4)
  have z1 := he1.size
  have o6d := (e4.own o6 (by simp)).drew
  have hne : s ≠ b6 := by have := o6.lt; omega
  have z4 := e4.size
  cases hg : Sk.getE (m.H c).t.K.E sd with
  | none =>
    obtain ⟨rfl, os⟩ := hI.no hg
    have osd := os.drew
    refine LdI.mk osd rfl (LdI.mk osd rfl (LdI.mk osd rfl (LdI.mk osd rfl (LdI.mk osd rfl (LdI.mk osd rfl (LdI.mk osd rfl (LdB.mk osd rfl (LdP.mk osd rfl (Bm.neg rfl ?_)))))))))
    refine Sts.full (vs := [.int .i64 0, .int .i64 0, .int .i64 0, .int .i64 0, .int .i64 0, .int .i64 0, .int .i64 0, .bool false, .pointer none]) o6d rfl rfl fun w5 hs5 o5 e5 => ?_
    exact LdI.mk o5 rfl (LdI.mk o5 rfl (LdI.mk o5 rfl (LdI.mk o5 rfl (LdI.mk o5 rfl (LdI.mk o5 rfl (LdI.mk o5 rfl (LdB.mk o5 rfl (LdP.mk o5 rfl (hR0 hg w5 (E4.trans' e5 (fun y hy hl => by simp at hy; omega)))))))))))
  | some x =>
    obtain ⟨rfl, ib, hia, os⟩ := hI.yes x hg
    have osd := os.drew
    have iad : InAt w4.drew ib (infoC (m.H c).t x) := Own.drew hia
    have hib : ib ≠ b6 := fun z => by
      rw [z] at iad
      exact Own.ne_type iad o6d (by decide) rfl
    have fin : ∀ {w5 : World} (bb : Bool), bb = (oursE (m.H c).t.K.E sd).isSome → Own w5 b6 (siArr x.1 (some ⟨ib, 0, none⟩)) 69 → Ext [b6] w4.drew w5 → R x.1.sd x.1.kind x.1.lp x.1.rh x.1.rp x.1.slot x.1.par x.1.rdy (some ⟨ib, 0, none⟩) bb w5 := fun {w5} bb hbb o5 e5 => by
      rw [hbb]
      exact hR1 x hg ib w5 (e5.own iad (by simp; exact hib)) (E4.trans' e5 (fun y hy hl => by simp at hy; omega))
    have ho : oursE (m.H c).t.K.E sd = if x.1.kind = 2 ∧ x.1.par = 0 then some x else none := by unfold oursE; rw [hg]
    refine LdI.mk osd rfl (LdI.mk osd rfl (LdI.mk osd rfl (LdI.mk osd rfl (LdI.mk osd rfl (LdI.mk osd rfl (LdI.mk osd rfl (LdB.mk osd rfl (LdP.mk osd rfl (Bm.pos rfl (LdI.mk osd rfl (Bm.mk (fun zk => LdI.mk osd rfl ?_) fun zk => ?_)))))))))))
    · refine Sts.full (vs := [.int .i64 x.1.sd, .int .i64 x.1.kind, .int .i64 x.1.lp, .int .i64 x.1.rh, .int .i64 x.1.rp, .int .i64 x.1.slot, .int .i64 x.1.par, .bool x.1.rdy, .pointer (some ⟨ib, 0, none⟩)]) o6d rfl rfl fun w5 hs5 o5 e5 => ⟨(e5.own osd (by simp; exact hne)).cell rfl, ?_⟩
      refine LdI.mk o5 rfl (LdI.mk o5 rfl (LdI.mk o5 rfl (LdI.mk o5 rfl (LdI.mk o5 rfl (LdI.mk o5 rfl (LdI.mk o5 rfl (LdB.mk o5 rfl (LdP.mk o5 rfl (fin _ ?_ o5 e5)))))))))
      rw [ho]
      by_cases zp : x.1.par = 0
      · rw [if_pos ⟨beqT zk, zp⟩, zp]; rfl
      · rw [if_neg (fun z => zp z.2)]; simpa using zp
    · refine Sts.full (vs := [.int .i64 x.1.sd, .int .i64 x.1.kind, .int .i64 x.1.lp, .int .i64 x.1.rh, .int .i64 x.1.rp, .int .i64 x.1.slot, .int .i64 x.1.par, .bool x.1.rdy, .pointer (some ⟨ib, 0, none⟩)]) o6d rfl rfl fun w5 hs5 o5 e5 => ?_
      refine LdI.mk o5 rfl (LdI.mk o5 rfl (LdI.mk o5 rfl (LdI.mk o5 rfl (LdI.mk o5 rfl (LdI.mk o5 rfl (LdI.mk o5 rfl (LdB.mk o5 rfl (LdP.mk o5 rfl (fin false ?_ o5 e5)))))))))
      rw [ho, if_neg (fun z => beqF zk z.1)]; rfl
theorem isLis_ok {R : Bool → World → Prop} (hL : LawAt w0 w a m r k) (hc : c < 3) (ok : HsOk n (m.H c)) (hR : ∀ w', Ext [] w w' → R (lisB (m.H c).t.K.E sd) w') : hostlaw_World_isListener.Call (some ⟨a, 0, none⟩) (c : Int) sd w R := by
  apply hostlaw_World_isListener.sound
  unfold hostlaw_World_isListener.B0
  refine Pn.mk ⟨⟨by omega, by omega⟩, hL.ldH hc (info_new (hL.h.H c hc) ok fun s e w4 hI hsz e4 => ?_)⟩
  have hr := hR w4 e4
  unfold lisB at hr
  cases hg : Sk.getE (m.H c).t.K.E sd with
  | none =>
    obtain ⟨rfl, os⟩ := hI.no hg
    rw [hg] at hr
    exact Bm.neg rfl hr
  | some x =>
    obtain ⟨rfl, ib, hia, os⟩ := hI.yes x hg
    rw [hg] at hr
    refine Bm.pos rfl (LdI.mk os rfl ?_)
    have : (x.1.kind == 1) = decide (x.1.kind = 1) := by
      by_cases z : x.1.kind = 1 <;> simp [z]
    rw [this]
    exact hr
end
end Go.Proofs.Qxb6500424aGreat
