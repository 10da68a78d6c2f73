/-
  host: a segment comes in: toRow, toListener, nobody.
-/
import Derived.Test.Qxb6500424aGreatHoE
set_option linter.unusedVariables false
set_option linter.unusedSimpArgs false
open Go.Vc
namespace Go.Proofs.Qxb6500424aGreat
/-- What a call of the host leaves: the frames behind those of before, the host moved on. -/
def Post (w0 : World) (B : HB) (F : List (List Int)) (r : HS × List (List Int)) (R : Option Addr → Nat → Nat → World → Prop) : Prop :=
  ∀ b l c F' w', FrL w' b l c w0.heap.size F' → F'.map (·.1) = F ++ r.2 → HostAt w' B r.1 → Ext B.all w0 w' → R b l c w'
section
variable {w w' w0 : World} {B : HB} {h : HS} {n : Int}
theorem getV_none {E : List Sk.AE} {sd : Int} (h : Sk.getE E sd = none) : Sk.getV E sd = (Sk.zE, 21) := by unfold Sk.getV; rw [h]
theorem getV_some {E : List Sk.AE} {sd : Int} {a : Sk.AE} (h : Sk.getE E sd = some a) : Sk.getV E sd = (a.1, 0) := by unfold Sk.getV; rw [h]
theorem getE_mem {E : List Sk.AE} {sd : Int} {a : Sk.AE} (h : Sk.getE E sd = some a) : a ∈ E ∧ a.1.sd = sd := ⟨List.mem_of_find?_eq_some h, by have := List.find?_some h; simpa using this⟩
theorem HsOk.setC {s : Nat} {C' : CS} (k : HsOk n h) (hC : CsOk C') : HsOk n { h with t := ⟨h.t.K, updX h.t.C s C'⟩ } :=
  ⟨k.addr, k.La, k.L, k.nx, k.cr, k.sk, fun j hj => by show CsOk (updX h.t.C s C' j); unfold updX; split; exact hC; exact k.cs j hj, k.clk, k.lost, k.dr, k.nsd⟩
theorem HsOk.setK {K' : Sk.SkS} (k : HsOk n h) (hK : Sk.SkOk K') (hn : K'.nsd ≤ n + 1) : HsOk n { h with t := ⟨K', h.t.C⟩ } :=
  ⟨k.addr, k.La, k.L, k.nx, k.cr, hK, k.cs, k.clk, k.lost, k.dr, hn⟩
theorem hostC {s : Nat} {K : Option Addr → Prop} (k : HostAt w B h) (hs : s < 4) (hk : K (some ⟨B.cx s, 0, none⟩)) : LdP ⟨B.hp, 13 + s, none⟩ w K := by
  refine LdP.fn k.own (by omega) ?_ hk
  unfold hostF
  rw [if_neg (by omega), if_neg (by omega), if_neg (by omega), if_neg (by omega), if_neg (by omega), if_neg (by omega), if_pos (by omega)]
  simp
/-- The block of a row. -/
theorem hostCx {x : Int} {K : Option Addr → Prop} (k : HostAt w B h) (h0 : 0 ≤ x) (h4 : x < 4) (hk : K (some ⟨B.cx x.toNat, 0, none⟩)) : LdP (Addr.add (Addr.add ⟨B.hp, 0, none⟩ 13) (x.toNat * 1)) w K := by
  rw [add_mk, add_mk, Nat.zero_add, Nat.mul_one]
  exact hostC k (by omega) hk
theorem readyA_nsd (sd : Int) (K : Sk.SkS) : (Sk.readyA sd K).2.nsd = K.nsd := by
  unfold Sk.readyA
  split
  · rfl
  split
  · rfl
  split <;> rfl
/-- The last step of every call: the block's segments go out. -/
theorem emit_post {a : Sk.AE} {ob sb : Option Addr} {ol oc sl sc lo2 : Nat} {F : List (List Int × Nat)} {E : List (SegV × Nat)} {G : List SegV} {en : Nat} {R : Option Addr → Nat → Nat → World → Prop} {t : TypeId}
    (hE : Ext B.all w0 w) (hh : HostAt w B h) (ok : HsOk n h) (hn : n ≤ 288230376151711744) (hF : FrL w ob ol oc w0.heap.size F) (hol : ol ≤ 900) (hS : SL w sb sl sc lo2 E) (hG : E.map (·.1) = G) (hsl : sl ≤ 10) (hen : Own w en (Sk.entVs a.1).toArray t)
    (hR : Post w0 B (F.map (·.1)) (sendAllH h (G.map (stampS a.1))) R) :
    LdI .i64 ⟨en, 0, none⟩ w fun x0 => LdI .i64 ⟨en, 1, none⟩ w fun x1 => LdI .i64 ⟨en, 2, none⟩ w fun x2 => LdI .i64 ⟨en, 3, none⟩ w fun x3 => LdI .i64 ⟨en, 4, none⟩ w fun x4 => LdI .i64 ⟨en, 5, none⟩ w fun x5 => LdI .i64 ⟨en, 6, none⟩ w fun x6 => LdB ⟨en, 7, none⟩ w fun x7 =>
      host_Host_emit.Call (some ⟨B.hp, 0, none⟩) ob ol oc x0 x1 x2 x3 x4 x5 x6 x7 sb sl sc w R := by
  refine Sk.ldEntB hen ?_
  refine emit_ok (e := a.1) hE hh ok hn hF hol hS hsl fun b' l' c' F' w' h1 h2 h3 h4 h5 => ?_
  have e : (E.map fun x => stampS a.1 x.1) = G.map (stampS a.1) := by rw [← hG, List.map_map]; rfl
  rw [e] at h2 h3
  exact hR b' l' c' F' w' h1 h2 h3 h4
theorem toRow_ok {sd : Int} {s : SegV} {k : Nat} {ob : Option Addr} {ol oc : Nat} {F : List (List Int × Nat)} {R : Option Addr → Nat → Nat → World → Prop}
    (hE : Ext B.all w0 w) (hh : HostAt w B h) (ok : HsOk n h) (hn : n ≤ 288230376151711744) (hF : FrL w ob ol oc w0.heap.size F) (hol : ol ≤ 900) (hk : Bf w k s.2) (hl : s.2.length ≤ 12) (hkind : ∀ a, Sk.getE h.t.K.E sd = some a → a.1.kind = 2)
    (hR : Post w0 B (F.map (·.1)) (sendAllH { h with t := (toRowT sd s h.t).1 } (toRowT sd s h.t).2) R) :
    host_Host_toRow.Call (some ⟨B.hp, 0, none⟩) ob ol oc sd s.1.sp s.1.dp s.1.sq s.1.ak s.1.fl s.1.wn (some ⟨k, 0, none⟩) s.2.length s.2.length w R := by
  apply host_Host_toRow.sound
  unfold host_Host_toRow.B0
  refine New.mk fun s_ w1 es hs1 os he1 => Pn.mk (hostLdP (o := 17) (hh.ext0 he1) (by omega) rfl ?_)
  refine Sk.realGet_ok (hh.ext0 he1).T ok.sk fun w2 he2 => New.mk fun en w3 een hs3 oen he3 => ?_
  have E3 : Ext [] w w3 := (he1.trans he2).trans he3
  have z3 := E3.size
  have zz2 := (he1.trans he2).size
  refine Sts.full (vs := Sk.entVs (Sk.getV h.t.K.E sd).1) oen rfl rfl fun w4 hs4 o4 he4 => ?_
  have E4 : Ext [] w w4 := E3.trans' he4 (fun y hy hl => by simp at hy; omega)
  have k4 := hh.ext0 E4
  have F4 := hF.ext0 E4
  have X4 : Ext B.all w0 w4 := extVia hE E4 (fun y hy => by cases hy)
  cases hg : Sk.getE h.t.K.E sd with
  | none =>
    rw [getV_none hg]
    have e1 : toRowT sd s h.t = (h.t, []) := by unfold toRowT; rw [hg]
    rw [e1] at hR
    exact Bm.pos rfl (hR ob ol oc F w4 F4 (by simp [sendAllH]) k4 X4)
  | some a =>
    rw [getV_some hg] at o4 ⊢
    have ha := getE_mem hg
    have hka := hkind a hg
    have con := (ok.sk.ei.ok a ha.1).con hka
    have hs0 : 0 ≤ a.1.slot := con.2.2.2.2.2.2.1
    have hs4' : a.1.slot < 4 := con.2.2.2.2.2.2.2.1
    have e1 : toRowT sd s h.t = (⟨if a.1.par ≠ 0 ∧ a.1.rdy = false ∧ (inputF s.1 s.2 (h.t.C (slotN a))).1.st = 3 then (Sk.readyA sd h.t.K).2 else h.t.K, updX h.t.C (slotN a) (inputF s.1 s.2 (h.t.C (slotN a))).1⟩, (inputF s.1 s.2 (h.t.C (slotN a))).2.map (stampS a.1)) := by unfold toRowT; rw [hg]
    rw [e1] at hR
    refine Bm.neg rfl (LdI.mk o4.drew rfl (Pn.mk ⟨⟨hs0, hs4'⟩, hostCx k4.drew hs0 hs4' ?_⟩))
    have hsl : a.1.slot.toNat < 4 := by omega
    have os4 : Own w4.drew s_ (segC (s, k)).toArray 177 := by
      have h1 : Own w1 s_ (segC (s, k)).toArray 177 := os
      exact Own.drew (he4.own (he3.own (he2.own h1 (by simp)) (by simp)) (by simp; have := h1.lt; have := he2.size; omega))
    refine LdI.mk os4 rfl (LdI.mk os4 rfl (LdI.mk os4 rfl (LdI.mk os4 rfl (LdI.mk os4 rfl (LdI.mk os4 rfl (LdL.mk os4 rfl ?_))))))
    have kd := k4.drew
    have hkd := (hk.ext0 E4).ext0 (Ext.drew _ _)
    refine cInput_ok (hd := s.1) (D := s.2) (kd.C _ hsl) (ok.cs _ hsl) hkd (by omega) ?_
    intro sb sl sc E w5 hS5 hG5 hC5 he5 hl5
    have k5 := kd.setC hsl hC5 he5
    have ok5 : HsOk n { h with t := ⟨h.t.K, updX h.t.C a.1.slot.toNat (inputF s.1 s.2 (h.t.C a.1.slot.toNat)).1⟩ } := ok.setC (inputF_ok (ok.cs _ hsl) hk.2)
    have E5 : Ext [B.cx a.1.slot.toNat, B.cs a.1.slot.toNat, B.cr a.1.slot.toNat] w4 w5 := (Ext.drew _ _).trans he5
    have ty5 : Tys w4 [B.cx a.1.slot.toNat, B.cs a.1.slot.toNat, B.cr a.1.slot.toNat] [T_conn_Conn, T_seg_SendBuf, T_seg_RecvBuf] := (k4.C _ hsl).tys
    have F5 := F4.keepT E5 ty5 (by decide) (by decide)
    have X5 : Ext B.all w0 w5 := extVia X4 E5 (fun y hy => by
      left
      simp only [List.mem_cons, List.not_mem_nil, or_false] at hy
      rcases hy with rfl | rfl | rfl
      · exact HB.mcx hsl
      · exact HB.mcs hsl
      · exact HB.mcr hsl)
    have o5 : Own w5 en (Sk.entVs a.1).toArray 66 := ownT E5 ty5 o4 (by decide)
    -- the end
    have fin : ∀ {w6 : World} {K' : Sk.SkS}, HostAt w6 B { h with t := ⟨K', updX h.t.C a.1.slot.toNat (inputF s.1 s.2 (h.t.C a.1.slot.toNat)).1⟩ } → HsOk n { h with t := ⟨K', updX h.t.C a.1.slot.toNat (inputF s.1 s.2 (h.t.C a.1.slot.toNat)).1⟩ } → Ext B.all w0 w6 → FrL w6 ob ol oc w0.heap.size F → SL w6 sb sl sc w4.drew.heap.size E → Own w6 en (Sk.entVs a.1).toArray 66 →
        (if a.1.par ≠ 0 ∧ a.1.rdy = false ∧ (inputF s.1 s.2 (h.t.C (slotN a))).1.st = 3 then (Sk.readyA sd h.t.K).2 else h.t.K) = K' →
        host_Host_toRow.B2 (some ⟨B.hp, 0, none⟩) ob ol oc en sb sl sc w6 R := fun {w6 K'} k6 ok6 X6 F6 S6 o6 eK => by
      unfold host_Host_toRow.B2
      rw [eK] at hR
      exact emit_post X6 k6 ok6 hn F6 hol S6 hG5 hl5 o6 hR
    refine LdI.mk o5 rfl (Bm.mk (fun hp => ?_) (fun hp => ?_))
    · have hp' : a.1.par ≠ 0 := by simpa using hp
      refine LdB.mk o5 rfl ?_
      unfold host_Host_toRow.B1
      cases hr : a.1.rdy with
      | true => exact Bm.neg rfl (fin k5 ok5 X5 F5 hS5 o5 (by rw [if_neg (by simp [hr])]))
      | false =>
        refine Bm.pos rfl (LdI.mk o5.drew rfl (Pn.mk ⟨⟨hs0, hs4'⟩, hostCx k5.drew hs0 hs4' ?_⟩))
        have hc5 := k5.drew.C _ hsl
        have ecs : updX h.t.C a.1.slot.toNat (inputF s.1 s.2 (h.t.C a.1.slot.toNat)).1 a.1.slot.toNat = (inputF s.1 s.2 (h.t.C a.1.slot.toNat)).1 := by simp [updX]
        have hok := ok5.cs _ hsl
        refine cInfo_ok hc5 hok.S hok.B fun ib w6 hib hin he6 => Pn.mk ?_
        have E6 : Ext [] w5 w6 := (Ext.drew _ _).trans he6
        refine LdI.fn (o := 0) hin (by omega) rfl ?_
        have k6 := k5.ext0 E6
        have X6 := extVia X5 E6 (fun y hy => by cases hy)
        have est : (updX h.t.C a.1.slot.toNat (inputF s.1 s.2 (h.t.C a.1.slot.toNat)).1 a.1.slot.toNat).st = (inputF s.1 s.2 (h.t.C (slotN a))).1.st := by rw [ecs]; rfl
        refine Bm.mk (fun h3 => ?_) (fun h3 => ?_)
        · have h3' : (inputF s.1 s.2 (h.t.C (slotN a))).1.st = 3 := by rw [← est]; simpa using h3
          refine Pn.mk (hostLdP (o := 17) k6 (by omega) rfl ?_)
          refine Sk.realReady_ok k6.T ok.sk fun w7 hT7 he7 => ?_
          have k7 := k6.setT hT7 he7
          obtain ⟨T, F0, C0, o0, ht, _⟩ := k6.T
          have ty7 : Tys w6 [B.tb] [T_sock_Table] := Tys.one ht
          have ok7 := ok5.setK (Sk.readyA_ok ok.sk sd) (by rw [readyA_nsd]; exact ok.nsd)
          exact fin k7 ok7 (extVia X6 he7 (fun y hy => by simp at hy; subst hy; left; simp [HB.all])) ((F5.ext0 E6).keepT he7 ty7 (by decide) (by decide)) ((hS5.ext0 E6).keepT he7 ty7 (by decide) (by decide)) (ownT he7 ty7 (E6.own o5 (by simp)) (by decide)) (by rw [if_pos ⟨hp', hr, h3'⟩])
        · have h3' : (inputF s.1 s.2 (h.t.C (slotN a))).1.st ≠ 3 := by rw [← est]; simpa using h3
          exact fin k6 ok5 X6 (F5.ext0 E6) (hS5.ext0 E6) (E6.own o5 (by simp)) (by rw [if_neg (fun q => h3' q.2.2)])
    · have hp' : a.1.par = 0 := by simpa using hp
      unfold host_Host_toRow.B1
      exact Bm.neg rfl (fin k5 ok5 X5 F5 hS5 o5 (by rw [if_neg (fun q => q.1 hp')]))
end
end Go.Proofs.Qxb6500424aGreat
