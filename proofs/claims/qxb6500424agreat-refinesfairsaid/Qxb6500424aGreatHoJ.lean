/-
  host: the calls: ours, listener, Listen, Accept, Connect, Send, Recv.
-/
import Derived.Test.Qxb6500424aGreatHoI
set_option linter.unusedVariables false
set_option linter.unusedSimpArgs false
open Go.Vc
namespace Go.Proofs.Qxb6500424aGreat
section
variable {w w' w0 : World} {B : HB} {h : HS} {n : Int}
theorem retEnt {t en : Nat} {e : Sk.Ent} {C : Array Value} {T : TypeId} {K : Int → Int → Int → Int → Int → Int → Int → Bool → World → Prop} (ht : Own w t C T) (hC : C.size = 8) (hk : ∀ w', Ext [t] w w' → K e.sd e.kind e.lp e.rh e.rp e.slot e.par e.rdy w') :
    Sts [.int .i64 e.sd, .int .i64 e.kind, .int .i64 e.lp, .int .i64 e.rh, .int .i64 e.rp, .int .i64 e.slot, .int .i64 e.par, .bool e.rdy] ⟨t, 0, none⟩ 0 w fun w1 =>
      LdI .i64 ⟨t, 0, none⟩ w1 fun y0 => LdI .i64 ⟨t, 1, none⟩ w1 fun y1 => LdI .i64 ⟨t, 2, none⟩ w1 fun y2 => LdI .i64 ⟨t, 3, none⟩ w1 fun y3 => LdI .i64 ⟨t, 4, none⟩ w1 fun y4 => LdI .i64 ⟨t, 5, none⟩ w1 fun y5 => LdI .i64 ⟨t, 6, none⟩ w1 fun y6 => LdB ⟨t, 7, none⟩ w1 fun y7 => K y0 y1 y2 y3 y4 y5 y6 y7 w1 :=
  Sts.full (vs := Sk.entVs e) ht (by rw [hC]; rfl) rfl fun w1 hs1 o1 he1 => Sk.ldEntB o1 (hk w1 he1)
theorem ours_ok {sd : Int} {R : Int → Int → Int → Int → Int → Int → Int → Bool → Bool → World → Prop} (hh : HostAt w B h) (ok : HsOk n h)
    (hR : ∀ w', Ext [] w w' → R (Sk.getV h.t.K.E sd).1.sd (Sk.getV h.t.K.E sd).1.kind (Sk.getV h.t.K.E sd).1.lp (Sk.getV h.t.K.E sd).1.rh (Sk.getV h.t.K.E sd).1.rp (Sk.getV h.t.K.E sd).1.slot (Sk.getV h.t.K.E sd).1.par (Sk.getV h.t.K.E sd).1.rdy (oursE h.t.K.E sd).isSome w') : host_Host_ours.Call (some ⟨B.hp, 0, none⟩) sd w R := by
  apply host_Host_ours.sound
  unfold host_Host_ours.B0
  refine New.mk fun b4 w1 eb hs1 ob he1 => Pn.mk (hostLdP (o := 17) (hh.ext0 he1) (by omega) rfl ?_)
  refine Sk.realGet_ok (hh.ext0 he1).T ok.sk fun w2 he2 => New.mk fun en w3 een hs3 oen he3 => ?_
  have z1 := he1.size
  have z2 := he2.size
  refine Sts.full (vs := Sk.entVs (Sk.getV h.t.K.E sd).1) oen rfl rfl fun w4 hs4 o4 he4 => ?_
  have E4 : Ext [] w w4.drew := (((he1.trans he2).trans he3).trans' he4 (fun y hy hl => by simp at hy; omega)).trans (Ext.drew _ _)
  have ob4 : Own w4.drew b4 _ _ := Own.drew (he4.own (he3.own (he2.own ob (by simp)) (by simp)) (by simp; omega))
  have o4' : Own w4.drew en (Sk.entVs (Sk.getV h.t.K.E sd).1).toArray 66 := Own.drew o4
  refine Sk.ldEntB o4' ?_
  have fin : ∀ (b : Bool), b = (oursE h.t.K.E sd).isSome → ∀ w5, Ext [b4] w4.drew w5 → R (Sk.getV h.t.K.E sd).1.sd (Sk.getV h.t.K.E sd).1.kind (Sk.getV h.t.K.E sd).1.lp (Sk.getV h.t.K.E sd).1.rh (Sk.getV h.t.K.E sd).1.rp (Sk.getV h.t.K.E sd).1.slot (Sk.getV h.t.K.E sd).1.par (Sk.getV h.t.K.E sd).1.rdy b w5 := fun b hb w5 he5 => by
    rw [hb]
    exact hR w5 (E4.trans' he5 (fun y hy hl => by simp at hy; omega))
  cases hg : Sk.getE h.t.K.E sd with
  | none =>
    have eo : oursE h.t.K.E sd = none := by unfold oursE; rw [hg]
    refine Bm.neg (by rw [getV_none hg]; rfl) ?_
    refine retEnt (en := 0) (K := fun y0 y1 y2 y3 y4 y5 y6 y7 w1 => R y0 y1 y2 y3 y4 y5 y6 y7 false w1) ob4 rfl (fin false (by rw [eo]; rfl))
  | some a =>
    have ev := getV_some hg
    refine Bm.pos (by rw [ev]; rfl) (LdI.mk o4' rfl (Bm.mk (fun q => ?_) (fun q => ?_)))
    · have q' : a.1.kind = 2 := by rw [ev] at q; simpa using q
      refine LdI.mk o4' rfl ?_
      refine Sts.full (vs := Sk.entVs (Sk.getV h.t.K.E sd).1) ob4 rfl rfl fun w5 hs5 o5 he5 => ⟨(he5.own o4' (by simp; omega)).cell rfl, Sk.ldEntB o5 ?_⟩
      refine fin _ ?_ w5 he5
      have eo : oursE h.t.K.E sd = if a.1.kind = 2 ∧ a.1.par = 0 then some a else none := by unfold oursE; rw [hg]
      rw [eo, ev]
      show (a.1.par == 0) = _
      by_cases p : a.1.par = 0
      · rw [if_pos ⟨q', p⟩]; simp [p]
      · rw [if_neg (fun z => p z.2)]; simp [p]
    · have q' : a.1.kind ≠ 2 := by rw [ev] at q; simpa using q
      have eo : oursE h.t.K.E sd = none := by unfold oursE; rw [hg]; show (if a.1.kind = 2 ∧ a.1.par = 0 then some a else none) = none; rw [if_neg (fun z => q' z.1)]
      exact retEnt (en := 0) (K := fun y0 y1 y2 y3 y4 y5 y6 y7 w1 => R y0 y1 y2 y3 y4 y5 y6 y7 false w1) ob4 rfl (fin false (by rw [eo]; rfl))
theorem listener_ok {sd : Int} {R : Bool → World → Prop} (hh : HostAt w B h) (ok : HsOk n h) (hR : ∀ w', Ext [] w w' → R (lisB h.t.K.E sd) w') : host_Host_listener.Call (some ⟨B.hp, 0, none⟩) sd w R := by
  apply host_Host_listener.sound
  unfold host_Host_listener.B0
  refine Pn.mk (hostLdP (o := 17) hh (by omega) rfl ?_)
  refine Sk.realGet_ok hh.T ok.sk fun w2 he2 => New.mk fun en w3 een hs3 oen he3 => ?_
  have z2 := he2.size
  refine Sts.full (vs := Sk.entVs (Sk.getV h.t.K.E sd).1) oen rfl rfl fun w4 hs4 o4 he4 => ?_
  have E4 : Ext [] w w4 := (he2.trans he3).trans' he4 (fun y hy hl => by simp at hy; omega)
  cases hg : Sk.getE h.t.K.E sd with
  | none =>
    have eo : lisB h.t.K.E sd = false := by unfold lisB; rw [hg]
    rw [eo] at hR
    exact Bm.neg (by rw [getV_none hg]; rfl) (hR w4 E4)
  | some a =>
    have ev := getV_some hg
    have eo : lisB h.t.K.E sd = (a.1.kind == 1) := by
      unfold lisB; rw [hg]; show decide (a.1.kind = 1) = _
      by_cases q : a.1.kind = 1 <;> simp [q]
    rw [eo] at hR
    refine Bm.pos (by rw [ev]; rfl) (LdI.mk o4 rfl ?_)
    have := hR w4 E4
    rw [ev]
    exact this
theorem listen_ok {p : Int} {R : Int → Int → World → Prop} (hh : HostAt w B h) (ok : HsOk n h) (hn : n ≤ 36028797018963968) (hR : ∀ w', HostAt w' B { h with t := ⟨(Sk.listenA p h.t.K).2, h.t.C⟩ } → Ext B.all w w' → R (Sk.listenA p h.t.K).1.1 (Sk.listenA p h.t.K).1.2 w') : host_Host_Listen.Call (some ⟨B.hp, 0, none⟩) p w R := by
  apply host_Host_Listen.sound
  unfold host_Host_Listen.B0
  have := ok.nsd
  refine Pn.mk (hostLdP (o := 17) hh (by omega) rfl ?_)
  exact Sk.realListen_ok hh.T ok.sk (by omega) fun w1 hT he => hR w1 (hh.setT hT he) (he.mono (fun y hy _ => by simp at hy; subst hy; simp [HB.all]))
theorem accept_ok {l : Int} {R : Int → Int → World → Prop} (hh : HostAt w B h) (ok : HsOk n h) (hR : ∀ w', HostAt w' B { h with t := ⟨(Sk.acceptA l h.t.K).2, h.t.C⟩ } → Ext B.all w w' → R (Sk.acceptA l h.t.K).1.1 (Sk.acceptA l h.t.K).1.2 w') : host_Host_Accept.Call (some ⟨B.hp, 0, none⟩) l w R := by
  apply host_Host_Accept.sound
  unfold host_Host_Accept.B0
  refine Pn.mk (hostLdP (o := 17) hh (by omega) rfl ?_)
  exact Sk.realAccept_ok hh.T ok.sk fun w1 hT he => hR w1 (hh.setT hT he) (he.mono (fun y hy _ => by simp at hy; subst hy; simp [HB.all]))
theorem connectA_nsd (rh rp : Int) (K : Sk.SkS) : (Sk.connectA rh rp K).2.nsd ≤ K.nsd + 1 := by
  unfold Sk.connectA
  repeat' split
  all_goals first | exact Int.le_refl _ | (show K.nsd ≤ K.nsd + 1; omega)
theorem connectA_err {rh rp : Int} {K : Sk.SkS} (h : (Sk.connectA rh rp K).1.2 ≠ 0) : (Sk.connectA rh rp K).2 = K := by
  unfold Sk.connectA at h ⊢
  repeat' split
  all_goals first | rfl | skip
  rename_i c1 c2 c3
  rw [if_neg c1, if_neg c2, if_neg c3] at h
  exact absurd rfl h
theorem con_kind {K : Sk.SkS} {rh rp : Int} (hK : Sk.SkOk K) : ∀ a, Sk.getE (Sk.connectA rh rp K).2.E (Sk.connectA rh rp K).1.1 = some a → (Sk.connectA rh rp K).1.2 = 0 → a.1.kind = 2 := fun a ha he => by
  unfold Sk.connectA at ha he
  by_cases c1 : rh < 1 ∨ 255 < rh
  · rw [if_pos c1] at he; cases he
  rw [if_neg c1] at ha he
  by_cases c2 : rp < 1 ∨ 15 < rp
  · rw [if_pos c2] at he; cases he
  rw [if_neg c2] at ha he
  by_cases c3 : Sk.lowE K.E = -1
  · rw [if_pos c3] at he; cases he
  rw [if_neg c3] at ha
  have := getE_new (S := K) (e := ⟨0, 2, Sk.pickE K.E rh rp 4 K.eph, rh, rp, Sk.lowE K.E, 0, false⟩) hK
  have ha' : Sk.getE (K.E ++ [({ (⟨0, 2, Sk.pickE K.E rh rp 4 K.eph, rh, rp, Sk.lowE K.E, 0, false⟩ : Sk.Ent) with sd := K.nsd }, 0)]) K.nsd = some a := ha
  rw [this] at ha'
  cases ha'
  rfl
/-- What a call leaves: an error, or frames. -/
structure PostC {α : Type} (w : World) (B : HB) (h : HS) (r : CallR α) (R : Option Addr → Nat → Nat → Int → World → Prop) : Prop where
  err : r.e ≠ 0 → ∀ w', HostAt w' B { h with t := r.t } → Ext B.all w w' → R none 0 0 r.e w'
  ok : r.e = 0 → Post w B [] (callH h r) (fun b l c w' => R b l c 0 w')
theorem connect_ok {rh rp : Int} {R : Int → Option Addr → Nat → Nat → Int → World → Prop} (hh : HostAt w B h) (ok : HsOk n h) (hn : n ≤ 36028797018963968)
    (hR : PostC w B h (connectT h.clk rh rp h.t) (R (connectT h.clk rh rp h.t).v)) : host_Host_Connect.Call (some ⟨B.hp, 0, none⟩) rh rp w R := by
  apply host_Host_Connect.sound
  unfold host_Host_Connect.B0
  have hnsd := ok.nsd
  refine Pn.mk (hostLdP (o := 17) hh (by omega) rfl ?_)
  refine Sk.realConnect_ok hh.T ok.sk (by omega) fun w1 hT1 he1 => ?_
  have k1 := hh.setT hT1 he1
  have X1 : Ext B.all w w1 := he1.mono (fun y hy _ => by simp at hy; subst hy; simp [HB.all])
  have hcl := connectA_nsd rh rp h.t.K
  have ok1 : HsOk (n + 1) { h with t := ⟨(Sk.connectA rh rp h.t.K).2, h.t.C⟩ } := (ok.mono (by omega)).setK (Sk.connectA_ok ok.sk _ _) (by omega)
  have e0 : connectT h.clk rh rp h.t = if (Sk.connectA rh rp h.t.K).1.2 ≠ 0 then ⟨0, (Sk.connectA rh rp h.t.K).1.2, h.t, []⟩ else
    match Sk.getE (Sk.connectA rh rp h.t.K).2.E (Sk.connectA rh rp h.t.K).1.1 with
    | none => ⟨0, 21, ⟨(Sk.connectA rh rp h.t.K).2, h.t.C⟩, []⟩
    | some a => if (openAF (h.clk % 256) (h.t.C (slotN a))).e ≠ 0 then ⟨0, (openAF (h.clk % 256) (h.t.C (slotN a))).e, ⟨(Sk.connectA rh rp h.t.K).2, updX h.t.C (slotN a) (openAF (h.clk % 256) (h.t.C (slotN a))).C⟩, []⟩
      else ⟨(Sk.connectA rh rp h.t.K).1.1, 0, ⟨(Sk.connectA rh rp h.t.K).2, updX h.t.C (slotN a) (openAF (h.clk % 256) (h.t.C (slotN a))).C⟩, (openAF (h.clk % 256) (h.t.C (slotN a))).G.map (stampS a.1)⟩ := rfl
  rw [e0] at hR
  refine Bm.mk (fun ce => ?_) (fun ce => ?_)
  · have ce' : (Sk.connectA rh rp h.t.K).1.2 ≠ 0 := bneT ce
    rw [if_pos ce'] at hR
    have eK := connectA_err ce'
    rw [eK] at k1
    exact hR.err ce' w1 k1 X1
  have ce' : ¬ (Sk.connectA rh rp h.t.K).1.2 ≠ 0 := bneF ce
  rw [if_neg ce'] at hR
  refine Pn.mk (hostLdP (o := 17) k1 (by omega) rfl ?_)
  refine Sk.realGet_ok k1.T ok1.sk fun w2 he2 => New.mk fun en w3 een hs3 oen he3 => ?_
  have z2 := he2.size
  refine Sts.full (vs := Sk.entVs (Sk.getV (Sk.connectA rh rp h.t.K).2.E (Sk.connectA rh rp h.t.K).1.1).1) oen rfl rfl fun w4 hs4 o4 he4 => ?_
  have E4 : Ext [] w1 w4 := (he2.trans he3).trans' he4 (fun y hy hl => by simp at hy; omega)
  have k4 := k1.ext0 E4
  have X4 : Ext B.all w w4 := extVia X1 E4 (fun y hy => by cases hy)
  cases hg : Sk.getE (Sk.connectA rh rp h.t.K).2.E (Sk.connectA rh rp h.t.K).1.1 with
  | none =>
    rw [getV_none hg]
    rw [hg] at hR
    exact Bm.pos rfl (hR.err (show (21 : Int) ≠ 0 by decide) w4 k4 X4)
  | some a =>
    rw [getV_some hg] at o4 ⊢
    rw [hg] at hR
    have ha := getE_mem hg
    have hka := con_kind ok.sk a hg (by simpa using ce')
    have con := (ok1.sk.ei.ok a ha.1).con hka
    have hs0 : 0 ≤ a.1.slot := con.2.2.2.2.2.2.1
    have hs4' : a.1.slot < 4 := con.2.2.2.2.2.2.2.1
    have hsl : a.1.slot.toNat < 4 := by omega
    refine Bm.neg rfl (LdI.mk o4.drew rfl (Pn.mk ⟨⟨hs0, hs4'⟩, hostCx k4.drew hs0 hs4' (Pn.mk (hostLdI (o := 1) k4.drew (by omega) rfl ⟨by decide, ?_⟩))⟩))
    have hclk := ok.clk
    have etm : h.clk.tmod 256 = h.clk % 256 := Int.tmod_eq_emod_of_nonneg hclk.1
    rw [etm]
    refine cOpenA_ok (k4.drew.C _ hsl) ?_
    intro sb sl sc E w5 hS5 hG5 hC5 he5 hl5
    have k5 := k4.drew.setC hsl hC5 he5
    have ok5 : HsOk (n + 1) { h with t := ⟨(Sk.connectA rh rp h.t.K).2, updX h.t.C a.1.slot.toNat (openAF (h.clk % 256) (h.t.C a.1.slot.toNat)).C⟩ } := HsOk.setC ok1 (openAF_ok (ok.cs _ hsl))
    have E5 : Ext [B.cx a.1.slot.toNat, B.cs a.1.slot.toNat, B.cr a.1.slot.toNat] w4 w5 := (Ext.drew _ _).trans he5
    have ty5 : Tys w4 [B.cx a.1.slot.toNat, B.cs a.1.slot.toNat, B.cr a.1.slot.toNat] [T_conn_Conn, T_seg_SendBuf, T_seg_RecvBuf] := (k4.C _ hsl).tys
    have X5 : Ext B.all w w5 := extVia X4 E5 (fun y hy => by
      left
      simp only [List.mem_cons, List.not_mem_nil, or_false] at hy
      rcases hy with rfl | rfl | rfl
      · exact HB.mcx hsl
      · exact HB.mcs hsl
      · exact HB.mcr hsl)
    have o5 : Own w5 en (Sk.entVs a.1).toArray 66 := ownT E5 ty5 o4 (by decide)
    have hR' : PostC w B h (if (openAF (h.clk % 256) (h.t.C (slotN a))).e ≠ 0 then ⟨0, (openAF (h.clk % 256) (h.t.C (slotN a))).e, ⟨(Sk.connectA rh rp h.t.K).2, updX h.t.C (slotN a) (openAF (h.clk % 256) (h.t.C (slotN a))).C⟩, []⟩
      else ⟨(Sk.connectA rh rp h.t.K).1.1, 0, ⟨(Sk.connectA rh rp h.t.K).2, updX h.t.C (slotN a) (openAF (h.clk % 256) (h.t.C (slotN a))).C⟩, (openAF (h.clk % 256) (h.t.C (slotN a))).G.map (stampS a.1)⟩ : CallR Int) (R (if (openAF (h.clk % 256) (h.t.C (slotN a))).e ≠ 0 then ⟨0, (openAF (h.clk % 256) (h.t.C (slotN a))).e, ⟨(Sk.connectA rh rp h.t.K).2, updX h.t.C (slotN a) (openAF (h.clk % 256) (h.t.C (slotN a))).C⟩, []⟩
      else ⟨(Sk.connectA rh rp h.t.K).1.1, 0, ⟨(Sk.connectA rh rp h.t.K).2, updX h.t.C (slotN a) (openAF (h.clk % 256) (h.t.C (slotN a))).C⟩, (openAF (h.clk % 256) (h.t.C (slotN a))).G.map (stampS a.1)⟩ : CallR Int).v) := hR
    refine Bm.mk (fun q => ?_) (fun q => ?_)
    · have q' : (openAF (h.clk % 256) (h.t.C (slotN a))).e ≠ 0 := bneT q
      rw [if_pos q'] at hR'
      exact hR'.err q' w5 k5 X5
    · have q' : ¬ (openAF (h.clk % 256) (h.t.C (slotN a))).e ≠ 0 := bneF q
      rw [if_neg q'] at hR'
      refine New.mk fun b6 w6 eb6 hs6 ob6 he6 => ?_
      have F6 : FrL w6 (some ⟨b6, 0, none⟩) 0 0 w.heap.size [] := FrL.new ob6 (by have := X5.size; omega)
      exact emit_post (extVia X5 he6 (fun y hy => by cases hy)) (k5.ext0 he6) ok5 (by omega) F6 (by omega) (hS5.ext0 he6) hG5 hl5 (he6.own o5 (by simp)) (hR'.ok rfl)
/-- A row of the caller's, its block's answer behind it. -/
theorem oursE_kind {E : List Sk.AE} {sd : Int} {a : Sk.AE} (ho : oursE E sd = some a) : Sk.getE E sd = some a ∧ a.1.kind = 2 ∧ a.1.par = 0 := by
  unfold oursE at ho
  split at ho
  · cases ho
  · rename_i b hb
    split at ho
    · rename_i q
      cases ho
      exact ⟨hb, q⟩
    · cases ho
/-- The block's answer is turned into the call's. -/
theorem call_fin {α : Type} {a : Sk.AE} {C' : CS} {G : List SegV} {e : Int} {v v0 : α} {en : Nat} {sb : Option Addr} {sl sc lo2 : Nat} {E : List (SegV × Nat)} {w3 w5 : World} {R : α → Option Addr → Nat → Nat → Int → World → Prop} {r : CallR α}
    (k3 : HostAt w3 B h) (ok : HsOk n h) (hn : n ≤ 72057594037927936) (X3 : Ext B.all w w3) (ha : a ∈ h.t.K.E) (hka : a.1.kind = 2) (hC : CsOk C') (hC5 : CnR w5 (B.cx a.1.slot.toNat) (B.cs a.1.slot.toNat) (B.cr a.1.slot.toNat) C') (he5 : Ext [B.cx a.1.slot.toNat, B.cs a.1.slot.toNat, B.cr a.1.slot.toNat] w3 w5) (hS5 : SL w5 sb sl sc lo2 E) (hG5 : E.map (·.1) = G) (hl5 : sl ≤ 10) (o3 : Own w3 en (Sk.entVs a.1).toArray 66)
    (er : r = if e ≠ 0 then ⟨v0, e, ⟨h.t.K, updX h.t.C (slotN a) C'⟩, []⟩ else ⟨v, 0, ⟨h.t.K, updX h.t.C (slotN a) C'⟩, G.map (stampS a.1)⟩) (hR : PostC w B h r (R r.v)) :
    Bm (e != 0) (R v0 none 0 0 e w5) (New (.cells #[] 81) w5 fun b6 w6 =>
      LdI .i64 ⟨en, 0, none⟩ w6 fun x0 => LdI .i64 ⟨en, 1, none⟩ w6 fun x1 => LdI .i64 ⟨en, 2, none⟩ w6 fun x2 => LdI .i64 ⟨en, 3, none⟩ w6 fun x3 => LdI .i64 ⟨en, 4, none⟩ w6 fun x4 => LdI .i64 ⟨en, 5, none⟩ w6 fun x5 => LdI .i64 ⟨en, 6, none⟩ w6 fun x6 => LdB ⟨en, 7, none⟩ w6 fun x7 =>
      host_Host_emit.Call (some ⟨B.hp, 0, none⟩) (some ⟨b6, 0, none⟩) 0 0 x0 x1 x2 x3 x4 x5 x6 x7 sb sl sc w6 fun b l c w7 => R v b l c 0 w7) := by
  have con := (ok.sk.ei.ok a ha).con hka
  have hs0 : 0 ≤ a.1.slot := con.2.2.2.2.2.2.1
  have hs4' : a.1.slot < 4 := con.2.2.2.2.2.2.2.1
  have hsl : a.1.slot.toNat < 4 := by omega
  have k5 := k3.setC hsl hC5 he5
  have ok5 : HsOk n { h with t := ⟨h.t.K, updX h.t.C a.1.slot.toNat C'⟩ } := ok.setC hC
  have ty5 : Tys w3 [B.cx a.1.slot.toNat, B.cs a.1.slot.toNat, B.cr a.1.slot.toNat] [T_conn_Conn, T_seg_SendBuf, T_seg_RecvBuf] := (k3.C _ hsl).tys
  have X5 : Ext B.all w w5 := extVia X3 he5 (fun y hy => by
    left
    simp only [List.mem_cons, List.not_mem_nil, or_false] at hy
    rcases hy with rfl | rfl | rfl
    · exact HB.mcx hsl
    · exact HB.mcs hsl
    · exact HB.mcr hsl)
  have o5 : Own w5 en (Sk.entVs a.1).toArray 66 := ownT he5 ty5 o3 (by decide)
  refine Bm.mk (fun q => ?_) (fun q => ?_)
  · have q' : e ≠ 0 := bneT q
    rw [if_pos q'] at er
    subst er
    exact hR.err q' w5 k5 X5
  · have q' : ¬ e ≠ 0 := bneF q
    rw [if_neg q'] at er
    subst er
    refine New.mk fun b6 w6 eb6 hs6 ob6 he6 => ?_
    have F6 : FrL w6 (some ⟨b6, 0, none⟩) 0 0 w.heap.size [] := FrL.new ob6 (by have := X5.size; omega)
    exact emit_post (extVia X5 he6 (fun y hy => by cases hy)) (k5.ext0 he6) ok5 (by omega) F6 (by omega) (hS5.ext0 he6) hG5 hl5 (he6.own o5 (by simp)) (hR.ok rfl)
theorem send_call_ok {sd : Int} {P : List Int} {k : Nat} {R : Int → Option Addr → Nat → Nat → Int → World → Prop} (hh : HostAt w B h) (ok : HsOk n h) (hn : n ≤ 36028797018963968) (hk : Bf w k P) (hl : P.length ≤ 281474976710656)
    (hR : PostC w B h (sendT sd P h.t) (fun b l c e w' => Bf w' k P → R (sendT sd P h.t).v b l c e w')) : host_Host_Send.Call (some ⟨B.hp, 0, none⟩) sd (some ⟨k, 0, none⟩) P.length P.length w R := by
  have hR2 : PostC w B h (sendT sd P h.t) (R (sendT sd P h.t).v) := ⟨fun he w' k' X' => hR.err he w' k' X' (hk.ext X' (fun q => by
    obtain ⟨cs, t, ho, ht⟩ := hh.tys k q hk.lt
    have := (hk.1.unique ho).2
    subst this
    exact absurd ht (by decide))), fun he b l c F' w' h1 h2 h3 h4 => hR.ok he b l c F' w' h1 h2 h3 h4 (hk.ext h4 (fun q => by
    obtain ⟨cs, t, ho, ht⟩ := hh.tys k q hk.lt
    have := (hk.1.unique ho).2
    subst this
    exact absurd ht (by decide)))⟩
  apply host_Host_Send.sound
  unfold host_Host_Send.B0
  refine ours_ok hh ok fun w1 he1 => New.mk fun en w2 een hs2 oen he2 => ?_
  have z1 := he1.size
  refine Sts.full (vs := Sk.entVs (Sk.getV h.t.K.E sd).1) oen rfl rfl fun w3 hs3 o3 he3 => ?_
  have E3 : Ext [] w w3 := (he1.trans he2).trans' he3 (fun y hy hl => by simp at hy; omega)
  have X3 : Ext B.all w w3.drew := (E3.trans (Ext.drew _ _)).nil
  cases ho : oursE h.t.K.E sd with
  | none =>
    have es : sendT sd P h.t = ⟨0, 21, h.t, []⟩ := by unfold sendT; rw [ho]
    rw [es] at hR2
    exact Bm.pos rfl (hR2.err (show (21 : Int) ≠ 0 by decide) w3 (hh.ext0 E3) E3.nil)
  | some a =>
    obtain ⟨hg, hka, hp⟩ := oursE_kind ho
    rw [getV_some hg] at o3
    have ha := getE_mem hg
    have con := (ok.sk.ei.ok a ha.1).con hka
    have hs0 : 0 ≤ a.1.slot := con.2.2.2.2.2.2.1
    have hs4' : a.1.slot < 4 := con.2.2.2.2.2.2.2.1
    have hsl : a.1.slot.toNat < 4 := by omega
    have k3 := (hh.ext0 E3).drew
    have hk3 : Bf w3.drew k (P ++ []) := by rw [List.append_nil]; exact (hk.ext0 E3).ext0 (Ext.drew _ _)
    refine Bm.neg rfl (LdI.mk o3.drew rfl (Pn.mk ⟨⟨hs0, hs4'⟩, hostCx k3 hs0 hs4' ?_⟩))
    refine cSend_ok (z := []) (k3.C _ hsl) (ok.cs _ hsl) hk3 (Nat.le_refl _) hl ?_
    intro sb sl sc E w5 hS5 hG5 hC5 he5 hl5 hb5
    refine call_fin (r := sendT sd P h.t) k3 ok (by omega) X3 ha.1 hka (sendF_ok (ok.cs _ hsl) hk.2) hC5 he5 hS5 hG5 hl5 o3.drew ?_ hR2
    unfold sendT
    rw [ho]
    rfl
end
end Go.Proofs.Qxb6500424aGreat
